/- Contracts of functions. -/
import Derived.Test.YtpgioncclmancaaGreatPK14
set_option linter.unusedVariables false
set_option linter.unusedSimpArgs false
set_option maxHeartbeats 4000000
set_option maxRecDepth 40000
namespace Am
open Go
variable{m y i j f b z:Nat}{ps:List (Nat×Nat)}{u:Bool}{kd:Nat->Int}{x W H:Int}{h h':a9}{l:List UInt8}{K:Value->a9->Prop}
open Classical in
theorem Wp{m:Nat}{f:Nat->Nat}(g:∀i,i<m->f i<m∧f (f i)=i):∀(ps:List (Nat×Nat)) (l:List Nat),l.length=m->(∀p∈ps,p.1<m∧f p.1=p.2)->∀i,i<m->(ps.foldl lx l).getD i 0=if Nt ps i then f i else l.getD i 0
 |[],l,_,_,i,_=>by
  rw[if_neg (by rintro⟨p,hp,_⟩;simp at hp)];rfl
 |p::ps,l,hl,hp,i,hi=>by
  obtain⟨h1,b⟩:=hp p (by simp);have d:=g p.1 h1;rw[b]at d;have c:(lx l p).getD i 0=if i=p.1∨i=p.2 then f i else l.getD i 0:=by
   unfold lx;rw[AE (by rw[aS];omega),AE (by omega)];by_cases q2:p.2=i
   ·rw[if_pos q2,if_pos (.inr q2.symm),<-q2,d.2]
   ·rw[if_neg q2];by_cases q1:p.1=i
    ·rw[if_pos q1,if_pos (.inl q1.symm),<-q1,b]
    ·rw[if_neg q1,if_neg (by omega)]
  rw[gI,Wp g ps (lx l p) (by simp[lx,hl]) (λq h=>hp q (by simp[h])) i hi,c];by_cases q1:Nt ps i
  ·rw[if_pos q1,if_pos];obtain⟨a,h1,b⟩:=q1;exact⟨a,by simp[h1],b⟩
  ·rw[if_neg q1];by_cases q2:i=p.1∨i=p.2
   ·rw[if_pos q2,if_pos ⟨p,by simp,q2⟩]
   ·rw[if_neg q2,if_neg];rintro⟨a,h1,b⟩;rcases bR.1 h1 with e|e
    ·rw[e]at b;exact q2 b
    ·exact q1 ⟨a,e,b⟩
theorem Sn{f:Nat->Nat}(b:∀i,i<m->f i<m∧f (f i)=i)(hp:∀p∈ps,p.1<m∧f p.1=p.2)(a:∀i,i<m->Nt ps i):ps.foldl lx (List.replicate m 0)=(List.range m).map f:=by
 refine Ad (by rw[we];simp) λi hi=>?_;have hi:i<m:=by rw[we]at hi;simpa using hi
 rw[Wp b ps _ (by simp) hp i hi,if_pos (a i hi),fR (by simpa using hi)];simp
def Dj(c:Nat)(q:Int×Int):Nat×Nat:=((q.1-c).toNat,(q.2-c).toNat)
theorem agY{x n:Nat}{l:Bool}(hx:1<=x):vQ x n y l u=(x-1)*n+tR n l u y:=by
 unfold vQ tR;obtain⟨t,rfl⟩:∃t,x=t+1:=⟨x-1,by omega⟩;cases l
 ·simp only[ax,if_false,dV,cX];omega
 ·simp only[if_true,dV];omega
theorem ajy{c:Nat}:(∃A B:Nat,DP ((c+i:Nat):Int) ((c+j:Nat):Int)=(((c+A:Nat):Int),((c+B:Nat):Int))∧((A=i∧B=j)∨(A=j∧B=i))):=by
 unfold DP;by_cases q:((c+j:Nat):Int)<((c+i:Nat):Int)
 ·refine⟨j,i,?_,.inr ⟨rfl,rfl⟩⟩;rw[if_pos q,Int.min_eq_right (by omega)]
 ·refine⟨i,j,?_,.inl ⟨rfl,rfl⟩⟩;rw[if_neg q,Int.min_eq_left (by omega)]
theorem F7{c A B:Nat}:Dj c (((c+A:Nat):Int),((c+B:Nat):Int))=(A,B):=by
 unfold Dj
 congr 1<;>omega
theorem ann{x n:Nat}{L:List (Int×Int)}(hn:2<=n)(hx:1<=x)(h0:kd 0=0)(v:kd n=0)(s:∀q,q∈L↔∃y,y<=n∧(x+y)%2=1∧Dy (BY n y kd) x n y q):
  (∀q∈L,∃A B:Nat,q=((((x-1)*n+A:Nat):Int),(((x-1)*n+B:Nat):Int))∧A<2*n∧B<2*n)∧(L.map (Dj ((x-1)*n))).foldl lx (List.replicate (2*n) 0)=rD x n kd:=by
 have key:∀y d,y<=n->(x+y)%2=1->d∈BY n y kd->∃A B:Nat,J8 x n y d=((((x-1)*n+A:Nat):Int),(((x-1)*n+B:Nat):Int))∧(((A,B)=Ff n y true d)∨((B,A)=Ff n y true d)):=by
  intro y d hy hp g;have t:∀l u,tR n (l==true) u y=tR n l u y:=λl u=>by cases l<;>rfl
  obtain⟨A,B,h1,f⟩:=ajy (c:=(x-1)*n) (i:=tR n d.1.1 d.1.2 y) (j:=tR n d.2.1 d.2.2 y);refine⟨A,B,?_,?_⟩
  ·unfold J8;rw[agY hx,agY hx];exact h1
  ·unfold Ff;rw[t,t];rcases f with⟨a,b⟩|⟨a,b⟩
   ·left;rw[a,b]
   ·right;rw[a,b]
 have ok:∀p∈L.map (Dj ((x-1)*n)),p.1<2*n∧zQ x n kd p.1=p.2:=by
  intro p hp;obtain⟨q,r,rfl⟩:=bj.1 hp;obtain⟨y,hy,m,d,g,rfl⟩:=(s q).1 r;obtain⟨A,B,e,f⟩:=key y d hy m g;obtain⟨⟨h,k⟩,_⟩:=agB (x:=x) (left:=true) hn hy m h0 v d g;rw[e,F7];rcases f with f|f
  ·rw[<-f]at h k;exact⟨h,k⟩
  ·rw[<-f]at h k;simp only at h k ⊢;have:=(FL (x:=x) (kd:=kd) h).1;rw[k]at this;refine⟨this,?_⟩;rw[<-k,OR h]
 refine⟨?_,?_⟩
 ·intro q r;have hp:=ok _ (bj.2 ⟨q,r,rfl⟩);obtain⟨y,hy,m,d,g,rfl⟩:=(s q).1 r;obtain⟨A,B,e,f⟩:=key y d hy m g;rw[e,F7]at hp;simp only at hp;have:=(FL (x:=x) (kd:=kd) hp.1).1;rw[hp.2]at this;exact⟨A,B,e,hp.1,this⟩
 ·refine Sn (λi hi=>⟨(FL hi).1,OR hi⟩) ok λi hi=>?_;obtain⟨a,_,_,b⟩:=C8 (x:=x) hi;obtain⟨p,hp,o⟩:=YH (x:=x) (kd:=kd) (left:=true) hn i hi rfl;obtain⟨d,g,rfl⟩:=bj.1 hp;obtain⟨A,B,e,f⟩:=key _ d b a g;refine⟨(A,B),bj.2 ⟨J8 x n (uX x n i) d,(s _).2 ⟨_,b,a,d,g,rfl⟩,by rw[e,F7]⟩,?_⟩;rcases f with f|f
  ·rw[<-f]at o;exact o
  ·rw[<-f]at o;exact o.symm
theorem ano{n:Nat}{L:List (Int×Int)}(he:m%2=0)(hm:1<=m)(h:n%2=0)(a:∀q,q∈L↔∃y,y<=n∧(m+y)%2=1∧Dy [((true,true),(true,false))] m n y q):
  (∀q∈L,∃A B:Nat,q=((((m-1)*n+A:Nat):Int),(((m-1)*n+B:Nat):Int))∧A<n∧B<n)∧(L.map (Dj ((m-1)*n))).foldl lx (List.replicate n 0)=qM n:=by
 have key:∀y,(m+y)%2=1->J8 m n y ((true,true),(true,false))=((((m-1)*n+(y-1):Nat):Int),(((m-1)*n+y:Nat):Int)):=by
  intro y hp;have y1:1<=y:=by omega
  unfold J8 vQ DP;simp only[if_true,if_false,ax];obtain⟨c,j⟩:=aC ((m-1)*n);rw[<-j,if_neg (by omega),Int.min_eq_left (by omega)]
 have ok:∀p∈L.map (Dj ((m-1)*n)),p.1<n∧FQ p.1=p.2:=by intro p hp;obtain⟨q,g,rfl⟩:=bj.1 hp;obtain⟨y,hy,b,d,f,rfl⟩:=(a q).1 g;rw[fS.1 f,key y b,F7];unfold FQ;simp only;rw[if_pos (by omega)];omega
 refine⟨?_,?_⟩
 ·intro q g;obtain⟨y,hy,b,d,f,rfl⟩:=(a q).1 g;rw[fS.1 f,key y b];exact⟨_,_,rfl,by omega,by omega⟩
 ·have k:∀i,i<n->FQ i<n∧FQ (FQ i)=i:=by intro i hi;have:=Kh (n:=n) h;have h1:=this.lt i hi;have e:=this.inv i hi;rw[Kg hi]at h1 e;rw[Kg h1]at e;exact⟨h1,e⟩
  rw[Sn k ok λi hi=>?_]
  ·rfl
  ·by_cases q:i%2=0
   ·refine⟨(i,i+1),bj.2 ⟨J8 m n (i+1) ((true,true),(true,false)),(a _).2 ⟨i+1,by omega,by omega,_,by simp,rfl⟩,?_⟩,.inl rfl⟩;rw[key (i+1) (by omega),F7];simp
   ·refine⟨(i-1,i),bj.2 ⟨J8 m n i ((true,true),(true,false)),(a _).2 ⟨i,by omega,by omega,_,by simp,rfl⟩,?_⟩,.inr rfl⟩;rw[key i (by omega),F7]
theorem Re{L:List (Int×Int)}{c:Nat}{Z:List Nat}(hi:i<L.length):((L.map (Dj c)).take (i+1)).foldl lx Z=lx (((L.map (Dj c)).take i).foldl lx Z) (Dj c L[i]):=by rw[jT,oN,ah hi];simp[ju]
theorem aoT(h:a9)(hp:0<h.length)(pv:Value)(X:bW)(x:Nat)(pp:gY h pv X)(ok:fg X)(hx:x+1<2*X.1.toNat):aN aE 489 [pv,I x] h λr h'=>ae h h'∧bP h h' r 1 (ints (cP (rD (x+1) (2*X.2.1.toNat) λj=>fZ X.1.toNat X.2.1.toNat X.2.2 (x+1:Nat) j))):=by
 have w8:=ok.w;have h8:=ok.h;have f:=λh' hp pp=>aoS h' hp pv X (x+1) pp ok ⟨by omega,by omega⟩;have e0:∀n y kd,LX (2*X.1.toNat) n (x+1) y kd=BY n y kd:=λn y kd=>by unfold LX;rw[if_neg (by omega)]
 simp only[e0]at f;obtain⟨kd,D⟩:∃kd:Nat->Int,kd=λ(j:Nat)=>fZ X.1.toNat X.2.1.toNat X.2.2 (x+1:Nat) j:=⟨_,rfl⟩;have R:kd 0=0:=by rw[D];exact wG (by unfold gr;omega)
 have q:kd (2*X.2.1.toNat)=0:=by rw[D];exact wG (by unfold gr;omega)
 simp only[<-D]at f ⊢;obtain⟨n,en⟩:=aC (2*X.2.1.toNat);simp only[<-en]at f q ⊢;have Dg:=pp;have wH:=cQ (2*X.2.1) n;obtain⟨b,o,s,rfl,k1,k2,k3,hs,_,_⟩:=pp;have n2:2<=n∧n<=16:=by omega
 obtain⟨d,U⟩:=aC (2*n);have UM:=cQ (2*(n:Int)) d;obtain⟨c,F⟩:=aC (x*n);have cle:c<=16*16:=by rw[F];exact dh (by omega) (by omega)
 have wc:IntKind.i64.wrap ((x:Int)*n)=c:=by rw[<-nS,<-F,wrap64 (by omega) (by omega)]
 have wx:=cQ ((x:Int)+1) (((x+1:Nat):Int));refine afq ?_;refine bg λK e=>?_
 try simp(disch:=omega)
 refine e ?_;refine bg λK e=>?_;simp(disch:=omega)[k2,wH];refine e ?_;refine bg λK e=>?_;simp(disch:=omega)[UM];rw[xl (by omega)];simp only[bI];obtain⟨lb,E⟩:=aC h.length;obtain⟨h1,z⟩:=aC (h++[⟨ints (List.replicate d 0),true⟩]);have g1:ae h h1:=⟨_,z⟩;have Yu:h1[lb]?=some ⟨ints (List.replicate d 0),true⟩:=by rw[z,E];simp
 have l1:h1.length=lb+1:=by rw[z,E];simp
 rw[<-z,<-E]
 try simp(disch:=omega)
 refine e ?_;refine bg λK e=>?_;simp(disch:=omega)[wx];refine aO (f h1 (aL hp g1) (Dg.grow g1)) ?_;rintro v h2⟨g2,L,O,lL,mL⟩;obtain⟨f1,f2⟩:=ann n2.1 (by omega) R q mL;simp only[dV,<-F]at f1 f2;clear mL f;obtain⟨T,rfl⟩:=O.sl;obtain⟨N,eN⟩:=aC L.length;rw[<-eN]at O lL ⊢
 try simp(disch:=omega)
 refine e ?_;have t:lb<h1.length:=by omega
 have JV:h2[lb]?=some ⟨ints (cP (((L.map (Dj c)).take 0).foldl lx (List.replicate d 0))),true⟩:=by rw[g2.at Yu];simp[cP]
 rw[aw];generalize hP:aP aE _ _=PP
 try simp(disch:=omega)
 refine aU (λi σ h'=>i<=N∧ae h h'∧h'[lb]?=some ⟨ints (cP (((L.map (Dj c)).take i).foldl lx (List.replicate d 0))),true⟩∧yW h1.length h' (sl T 0 N 1) L∧σ 1=I x∧σ 5=I n∧σ 6=sl lb 0 d 1∧σ 7=sl T 0 N 1∧σ 8=I i) (λi=>N-i) 0 ?_ ?_
 ·exact⟨by omega,g1.trans g2,JV,O,by simp,by simp,by simp,by simp,by simp⟩
 rintro i σ h'⟨hi,hg,g,m,q1,q5,q6,q7,S⟩;simp(disch:=omega)[q7,S];refine aG (λbB=>?_) (λdG=>?_)
 ·have i1:i<N:=by omega
  have Q:i<L.length:=by omega
  obtain⟨w,wo,c1,c2,u⟩:=m.at Q;obtain⟨A,a,eq,hA,hB⟩:=f1 L[i] (aD Q);have G:=Re (L:=L) (c:=c) (Z:=List.replicate d 0) Q;have H:Dj c L[i]=(A,a):=by rw[eq];exact F7
  rw[H]at G;rw[eq]at c2 u;simp only at c2 u;have wA:=cQ (((c+A:Nat):Int)-c) A;have wB:=cQ (((c+a:Nat):Int)-c) a;obtain⟨Z,W⟩:=aC (((L.map (Dj c)).take i).foldl lx (List.replicate d 0));rw[<-W]at g G;have lZ:Z.length=d:=by rw[W,we];simp
  have M:A<d:=by omega
  have BS:a<d:=by omega
  have s1:=iF (x:=((a:Nat):Int)) g (k:=A) (by rw[jh];omega);obtain⟨Y,B⟩:=aC (h'.set lb ⟨ints ((cP Z).set A ((a:Nat):Int)),true⟩);rw[<-B]at s1;have V:Y[lb]?=some ⟨ints ((cP Z).set A ((a:Nat):Int)),true⟩:=by rw[B];exact jy g
  have s2:=iF (x:=((A:Nat):Int)) V (k:=a) (by rw[aS,jh];omega);have e6:((cP Z).set A ((a:Nat):Int)).set a ((A:Nat):Int)=cP (lx Z (A,a)):=(Kz (l:=Z) (p:=(A,a))).symm;rw[e6]at s2;obtain⟨J,C⟩:=aC (Y.set lb ⟨ints (cP (lx Z (A,a))),true⟩);rw[<-C]at s2;have P:J[lb]?=some ⟨ints (cP (lx Z (A,a))),true⟩:=by rw[C];exact jy V
  rw[<-G]at P;have g6:ae h J:=by rw[C,B];exact(hg.put (by omega) _).put (by omega) _
  have hP6:yW h1.length J (sl T 0 N 1) L:=by rw[C,B];exact(m.put t).put t
  obtain⟨pA,eA⟩:∃p:Int,p=((c+A:Nat):Int):=⟨_,rfl⟩;obtain⟨pB,eB⟩:∃p:Int,p=((c+a:Nat):Int):=⟨_,rfl⟩;rw[<-eA]at c2 wA;rw[<-eB]at u wB;simp(disch:=omega)[q7,S,q1,q5,q6,i1,c1,c2,u,wc,wA,wB,M,BS,s1,s2]
  try simp(disch:=omega)[S,wrap64]
  refine⟨i+1,?_,by omega⟩;and_intros<;>first|assumption|omega|rfl
 ·have:i=N:=by omega
  subst this;rw[aY (by simp;omega),U,f2]at g
  try simp(disch:=omega)
  subst hP;simp(disch:=omega)[q6];exact⟨hg,.inr ⟨lb,d,rfl,by simp[ints,cP,rD,U],by omega,g⟩⟩
theorem aoV(h:a9)(hp:0<h.length)(pv:Value)(X:bW)(pp:gY h pv X)(ok:fg X):aN aE 494 [pv] h λr h'=>ae h h'∧bP h h' r 1 (ints (cP (qM (2*X.2.1.toNat)))):=by
 have w8:=ok.w;have h8:=ok.h;have z:=λh' hp pp=>aoS h' hp pv X (2*X.1.toNat) pp ok ⟨by omega,by omega⟩;have e0:∀n y kd,LX (2*X.1.toNat) n (2*X.1.toNat) y kd=[((true,true),(true,false))]:=λn y kd=>by unfold LX;rw[if_pos rfl]
 simp only[e0]at z;obtain⟨n,Y⟩:=aC (2*X.2.1.toNat);obtain⟨m,em⟩:=aC (2*X.1.toNat);simp only[<-Y,<-em]at z ⊢;have Dg:=pp;have wH:=cQ (2*X.2.1) n;have wW:=cQ (2*X.1) m;have U:=cQ ((m:Int)-1) (((m-1:Nat):Int));have q:=cQ (((m-1:Nat):Int)+1) m;obtain⟨b,o,s,rfl,k1,k2,k3,hs,_,_⟩:=pp;have n2:2<=n∧n<=16:=by omega
 obtain⟨c,E⟩:=aC ((m-1)*n);have cle:c<=16*16:=by rw[E];exact dh (by omega) (by omega)
 have t:=cQ (((m-1:Nat):Int)*2) (((m-1:Nat):Int)*2);have G:((m-1:Nat):Int)*2*X.2.1=c:=by
  have:X.2.1=(X.2.1.toNat:Int):=by omega
  rw[this,E,Y,kO];simp
 have wc:IntKind.i64.wrap (((m-1:Nat):Int)*2*X.2.1)=c:=by rw[G,wrap64 (by omega) (by omega)]
 refine afq ?_;refine bg λK d=>?_
 try simp(disch:=omega)
 refine d ?_;refine bg λK d=>?_;simp(disch:=omega)[k1,wW];rw[U];refine d ?_;obtain⟨m1,e⟩:=aC (m-1);rw[<-e]at t wc E q ⊢;refine bg λK d=>?_;simp(disch:=omega)[k2,wH];rw[xl (by omega)];simp only[bI];obtain⟨lb,F⟩:=aC h.length;obtain⟨h1,B⟩:=aC (h++[⟨ints (List.replicate n 0),true⟩]);have g1:ae h h1:=⟨_,B⟩;have Yu:h1[lb]?=some ⟨ints (List.replicate n 0),true⟩:=by rw[B,F];simp
 have l1:h1.length=lb+1:=by rw[B,F];simp
 rw[<-B,<-F]
 try simp(disch:=omega)
 refine d ?_;refine bg λK d=>?_;simp(disch:=omega)[q];refine aO (z h1 (aL hp g1) (Dg.grow g1)) ?_;rintro v h2⟨g2,L,O,lL,mL⟩;obtain⟨f1,f2⟩:=ano (m:=m) (n:=n) (by omega) (by omega) (by omega) mL;simp only[<-e,<-E]at f1 f2;clear mL z;obtain⟨T,rfl⟩:=O.sl;obtain⟨N,eN⟩:=aC L.length;rw[<-eN]at O lL ⊢
 try simp(disch:=omega)
 refine d ?_;have j:lb<h1.length:=by omega
 have JV:h2[lb]?=some ⟨ints (cP (((L.map (Dj c)).take 0).foldl lx (List.replicate n 0))),true⟩:=by rw[g2.at Yu];simp[cP]
 rw[aw];generalize hP:aP aE _ _=PP
 try simp(disch:=omega)
 refine aU (λi σ h'=>i<=N∧ae h h'∧h'[lb]?=some ⟨ints (cP (((L.map (Dj c)).take i).foldl lx (List.replicate n 0))),true⟩∧yW h1.length h' (sl T 0 N 1) L∧σ 0=pt b o∧σ 3=I m1∧σ 4=sl lb 0 n 1∧σ 5=sl T 0 N 1∧σ 6=I i) (λi=>N-i) 0 ?_ ?_
 ·exact⟨by omega,g1.trans g2,JV,O,by simp,by simp,by simp,by simp,by simp⟩
 rintro i σ h'⟨hi,Q,f,g,q0,q3,q4,q5,S⟩;have EW:=Q.cell k2;simp(disch:=omega)[q5,S];refine aG (λbB=>?_) (λdG=>?_)
 ·have i1:i<N:=by omega
  have R:i<L.length:=by omega
  obtain⟨w,wo,c1,c2,u⟩:=g.at R;obtain⟨A,a,eq,hA,hB⟩:=f1 L[i] (aD R);have H:=Re (L:=L) (c:=c) (Z:=List.replicate n 0) R;have J:Dj c L[i]=(A,a):=by rw[eq];exact F7
  rw[J]at H;rw[eq]at c2 u;simp only at c2 u;have wA:=cQ (((c+A:Nat):Int)-c) A;have wB:=cQ (((c+a:Nat):Int)-c) a;obtain⟨Z,W⟩:=aC (((L.map (Dj c)).take i).foldl lx (List.replicate n 0));rw[<-W]at f H;have lZ:Z.length=n:=by rw[W,we];simp
  have s1:=iF (x:=((a:Nat):Int)) f (k:=A) (by rw[jh];omega);obtain⟨h5,C⟩:=aC (h'.set lb ⟨ints ((cP Z).set A ((a:Nat):Int)),true⟩);rw[<-C]at s1;have V:h5[lb]?=some ⟨ints ((cP Z).set A ((a:Nat):Int)),true⟩:=by rw[C];exact jy f
  have s2:=iF (x:=((A:Nat):Int)) V (k:=a) (by rw[aS,jh];omega);have e6:((cP Z).set A ((a:Nat):Int)).set a ((A:Nat):Int)=cP (lx Z (A,a)):=(Kz (l:=Z) (p:=(A,a))).symm;rw[e6]at s2;obtain⟨M,D⟩:=aC (h5.set lb ⟨ints (cP (lx Z (A,a))),true⟩);rw[<-D]at s2;have P:M[lb]?=some ⟨ints (cP (lx Z (A,a))),true⟩:=by rw[D];exact jy V
  rw[<-H]at P;have g6:ae h M:=by rw[D,C];exact(Q.put (by omega) _).put (by omega) _
  have hP6:yW h1.length M (sl T 0 N 1) L:=by rw[D,C];exact(g.put j).put j
  obtain⟨pA,eA⟩:∃p:Int,p=((c+A:Nat):Int):=⟨_,rfl⟩;obtain⟨pB,eB⟩:∃p:Int,p=((c+a:Nat):Int):=⟨_,rfl⟩;rw[<-eA]at c2 wA;rw[<-eB]at u wB;simp(disch:=omega)[q5,S,q0,q3,q4,i1,c1,c2,u,EW,t,wc,wA,wB,hA,hB,s1,s2]
  try simp(disch:=omega)[S,wrap64]
  refine⟨i+1,?_,by omega⟩;and_intros<;>first|assumption|omega|rfl
 ·have:i=N:=by omega
  subst this;rw[aY (by simp;omega),f2]at f
  try simp(disch:=omega)
  subst hP;simp(disch:=omega)[q4];exact⟨Q,.inr ⟨lb,n,rfl,by simp[ints,cP,qM],by omega,f⟩⟩
theorem aDl(h:a9)(hp:0<h.length)(pv d:Value)(X:bW)(x:Nat)(c:List Nat×Nat)(pp:gY h pv X)(ok:fg X)(hx:x+1<2*X.1.toNat)(G:iO c.1 (2*X.2.1.toNat))(T:c.2<=256)(f:Rw h d 1 (ints (cP c.1))):aN aE 491 [pv,I x,.agg #[d,I (c.2:Nat)]] h λr h'=>ae h h'∧∃w,r=.agg #[w,I ((zT X (x+1) c).2:Nat)]∧bP h h' w 1 (ints (cP (zT X (x+1) c).1)):=by
 have R:=ok.h;have N:=pp;have cl:=aoT h hp pv X x pp ok hx;obtain⟨D,g⟩:=aC (zT X (x+1) c);have i:(pN (rD (x+1) (2*X.2.1.toNat) λj=>fZ X.1.toNat X.2.1.toNat X.2.2 (x+1:Nat) j) c.1 (2*X.2.1.toNat)).1=D.1:=by rw[g];rfl
 have k:c.2+(pN (rD (x+1) (2*X.2.1.toNat) λj=>fZ X.1.toNat X.2.1.toNat X.2.2 (x+1:Nat) j) c.1 (2*X.2.1.toNat)).2=D.2:=by rw[g];rfl
 have a:=λh' hp m rl f=>aoU h' hp m d (rD (x+1) (2*X.2.1.toNat) λj=>fZ X.1.toNat X.2.1.toNat X.2.2 (x+1:Nat) j) c.1 (2*X.2.1.toNat) c.2 JY G (by omega) (by omega) rl f;rw[<-g];simp only[i,k]at a;obtain⟨L,B⟩:=aC (rD (x+1) (2*X.2.1.toNat) λj=>fZ X.1.toNat X.2.1.toNat X.2.2 (x+1:Nat) j);simp only[<-B]at a cl;obtain⟨n,C⟩:=aC (2*X.2.1.toNat);simp only[<-C]at a cl;have M:=cQ (2*X.2.1) n;obtain⟨b,o,s,rfl,U,H,V,S,_,_⟩:=pp;obtain⟨p,ko,q,t,rfl⟩:∃p ko q t,d=sl p ko q t:=by obtain⟨b,o,n,y,e,_⟩:=f;exact⟨b,o,n,y,e⟩
 obtain⟨c1,c2⟩:=c;simp only at*;refine afq ?_;refine bg λK l=>?_
 try simp(disch:=omega)
 refine l ?_;refine bg λK l=>?_
 try simp(disch:=omega)
 refine aO cl ?_;rintro m F⟨g2,b2⟩;have u:=g2.cell H;simp(disch:=omega)[u,M];refine aO (a F (aL hp g2) m b2.rw (f.grow g2)) ?_;rintro _ Q⟨E,w,rfl,b3⟩;obtain⟨O,rfl⟩:=b3.nw
 try simp(disch:=omega)
 refine l ?_
 try simp(disch:=omega)
 refine⟨g2.trans E,_,rfl,?_⟩;rcases b3 with e|⟨b',J,v,z,P,A⟩
 ·exact .inl e
 ·exact .inr ⟨b',J,v,z,by have:=g2.le;omega,A⟩
theorem aDh(h:a9)(hp:0<h.length)(pv:Value)(X:bW)(pp:gY h pv X)(ok:fg X):aN aE 486 [pv] h λr h'=>ae h h'∧ahz h' (2*X.1.toNat-1) r (tW X (2*X.1.toNat-1)):=by
 have w8:=ok.w;have h8:=ok.h;have l:=λt=>Eh (X:=X) t;have cs:∀t,tW X (t+1)=zT X (t+1) (tW X t):=λt=>rfl;have a:tW X 0=(qM (2*X.2.1.toNat),0):=rfl;have g:=λh' pg V kv x hx hc iC B=>aDl h' pg pv kv X x (tW X x) V ok hx hc iC B;have p:=aDj h hp X.2.1.toNat (by omega);obtain⟨F,Y⟩:=aC (tW X);obtain⟨n,E⟩:=aC (2*X.2.1.toNat);simp only[<-Y]at l cs a g ⊢;rw[<-E]at a;simp only[<-E]at l g p;simp only[<-cs]at g;obtain⟨m,em⟩:∃m,m+1=2*X.1.toNat:=⟨2*X.1.toNat-1,by omega⟩;rw[<-em];simp only[dV];have hW:=cQ (2*X.1) (m+1);have P:=cQ ((m:Int)+1-1) m;have v:=cQ (m:Int) m;have M:=pp;obtain⟨b,o,s,rfl,k1,G,k3,hs,_,_⟩:=pp;obtain⟨N,u⟩:=aC X.2.1.toNat;have eH:X.2.1=(N:Int):=by omega
 rw[eH]at G;rw[<-u]at p;refine afq ?_;refine bg λK e=>?_
 try simp(disch:=omega)
 refine e ?_;refine bg λK e=>?_;simp(disch:=omega)[G];refine aO p ?_;rintro w0 h1⟨g1,b1⟩;obtain⟨wb,rfl,WN,kw⟩:=b1.VV (n:=n) (by simp[qM]) (by omega)
 try simp(disch:=omega)
 refine e ?_;refine bg λK e=>?_
 try simp(disch:=omega)
 have eb:aW 2 1 h1 [(0,.agg #[sl 0 0 0 0,I 0]),(2,.agg #[sl wb 0 n 1,I 0])]=some (sl h1.length 0 1 2,h1++[⟨[sl wb 0 n 1,I 0],true⟩]):=by simp[aW]
 rw[eb];simp only[bI];obtain⟨b0,c⟩:=aC h1.length;obtain⟨i,q⟩:=aC (h1++[⟨[sl wb 0 n 1,I 0],true⟩]);have d:ae h1 i:=⟨_,q⟩;have g2:ae h i:=g1.trans d;have l1:=g1.le;have O:i[b0]?=some ⟨[sl wb 0 n 1,I 0],true⟩:=by rw[q,c];simp
 rw[<-q,<-c]
 try simp(disch:=omega)
 refine e ?_;have wlt:=bZ kw;have T:ahy i h.length n 0 (sl b0 0 1 2) (.agg #[sl wb 0 n 1,I 0]) (F 0):=⟨wb,by rw[a];rfl,b0,_,rfl,by omega,O,rfl,by rw[a];rfl,by omega,by rw[a];exact d.at kw⟩;rw[aw];generalize hP:aP aE _ _=PP
 try simp(disch:=omega)
 refine aU (λk σ h'=>k<=m∧ae h h'∧σ 0=pt b o∧σ 5=I k∧ahy h' h.length n k (σ 4) (σ 3) (F k)) (λk=>m-k) 0 ?_ ?_
 ·exact⟨by omega,g2,by simp,by simp,by simpa using T⟩
 ·rintro k σ h'⟨hk,f,H,A,SB,J,S⟩;have Q:=S;obtain⟨lb,Z,j,Rt,kZ,lZ,eZ,wne,z⟩:=Q;have L:=f.cell k1;obtain⟨y,i2⟩:=l k;simp(disch:=omega)[H,A,L,hW,P,v];refine aG (λbB=>?_) (λdG=>?_)
  ·have Yu:k<m:=by omega
   have cl:=Fy (t:=k) (by omega) (by omega) i2;have B:=Pu z y.len;simp(disch:=omega)[H,J,A];refine aO (g h' (aL hp f) (M.grow f) _ k (by omega) y cl B) ?_;rintro _ h3⟨g3,w3,rfl,b3⟩;obtain⟨i3,i4⟩:=l (k+1);obtain⟨D,rfl,C,W⟩:=b3.VV (n:=n) i3.len (by omega);rw[j]at S;simp(disch:=omega)[J,j];refine Hu.app hp rfl f g3 S (by omega) C W λv4 h4 g4 U=>?_;have E4:ahy h4 h.length n (k+1) v4 (.agg #[sl D 0 n 1,I ((F (k+1)).2:Nat)]) (F (k+1)):=⟨D,rfl,U⟩;simp(disch:=omega)[A,wrap64];refine⟨k+1,?_,by omega⟩;and_intros<;>first|assumption|omega|rfl
  ·have:k=m:=by omega
   subst this;have R:=S.res y.len;rw[j]at R
   try simp(disch:=omega)
   subst hP;simp(disch:=omega)[j];exact⟨f,R⟩
theorem aCG(h:a9)(hp:0<h.length)(v:Value)(X:bW)(hv:Vr h bU v X):aN aE 339 [v] h λr h'=>ae h h'∧r=.tuple #[I (xA X).1,I (xA X).2]:=by
 obtain⟨A,C⟩:=aC (xA X);have c:=C;unfold xA at c;rw[<-C];have p:=λt=>Eh (X:=X) t;have B:=λh hp pv pp ok=>aDh h hp pv X pp ok;have cr:=λh hp pv pp ok=>aoV h hp pv X pp ok;obtain⟨W,H,br⟩:=X;obtain⟨s,rfl,w1,w2,r⟩:=hv.dE;refine afq ?_;refine bg λK a=>?_
 try simp(disch:=omega)
 obtain⟨h1,d⟩:=aC (h++[⟨[I W,I H,s],true⟩]);rw[<-d];have g1:ae h h1:=⟨_,d⟩;have l:h1[h.length]?=some ⟨[I W,I H,s],true⟩:=by rw[d];simp
 have pp:gY h1 (pt h.length 0) (W,H,br):=gY.at l (r.grow g1) w1 w2;obtain⟨pv,J⟩:=aC (pt h.length 0);rw[<-J]at pp ⊢;refine a ?_;rw[aw];generalize a:aP aE _ _=K
 try simp(disch:=omega)
 refine aO (An _ (W,H,br) h1 pp) ?_;rintro _ V⟨rfl,rfl⟩;cases f:iv (W,H,br)
 ·simp only[f,ax,if_false]at c;subst c
  try simp(disch:=omega)
  subst a
  try simp(disch:=omega)
  exact g1
 have ok:=dK.1 f;have w8:=ok.w;have Z:=ok.h;simp only at w8 Z p;simp only[f,if_true]at c;obtain⟨F,O⟩:=aC (tW (W,H,br));obtain⟨n,T⟩:=aC (2*H.toNat);obtain⟨m,em⟩:∃m,m+1=2*W.toNat:=⟨2*W.toNat-1,by omega⟩;simp only[<-O,<-T,<-em,dV]at c p B cr
 try simp(disch:=omega)
 subst a;simp only[aq];have G:=aL hp g1;refine bg λK a=>?_
 try simp(disch:=omega)
 refine aO (B V G _ pp ok) ?_;rintro _ k⟨g,b,w,rfl,z,E⟩
 try simp(disch:=omega)
 refine a ?_;have wm:=cQ ((m:Int)+1-1) m;have q:=cQ (m:Int) m;have m1:m<m+1:=by omega
 have m2:(m:Int)<(m:Int)+1:=by omega
 refine bg λK a=>?_;simp(disch:=omega)[wm,q,m1,m2];refine a ?_;obtain⟨D,i2⟩:=p m;have cl:=Fy (t:=m) (by omega) (by omega) i2;obtain⟨wb,wo,wn,wy,rfl⟩:∃l ko kn ky,w=sl l ko kn ky:=by obtain⟨b,o,n,y,e,_⟩:=E;exact⟨b,o,n,y,e⟩
 have M:cell k b (m*2)=some (sl wb wo wn wy):=by have:=(fQ (i:=0) z (by omega)).1;simpa using this
 have N:cell k b (m*2+1)=some (I ((F m).2:Nat)):=by have:=(fQ (i:=1) z (by omega)).1;simpa using this
 refine bg λK a=>?_;simp(disch:=omega)[M,N];have u:=aL G g;refine aO (cr k u _ (pp.grow g) ok) ?_;rintro nv Y⟨j,L⟩;have x:iO (qM n) n:=Kh (by omega);have ll:=J3 D x
 try simp(disch:=omega)
 refine aO (aDk Y (aL u j) _ _ _ _ n D x (by omega) (E.grow j) L.rw) ?_;rintro _ h5⟨U,rfl⟩;obtain⟨P,R⟩:=aC (Da (F m).1 (qM n) n);rw[<-R]at ll c ⊢;obtain⟨Q,S⟩:=aC ((F m).2);rw[<-S]at cl c ⊢;have wq:=cQ ((Q:Int)+P) (((Q+P:Nat):Int));simp(disch:=omega)[wq];refine a ?_
 try simp(disch:=omega)
 refine⟨((g1.trans g).trans j).trans U,?_⟩;rw[c];simp
theorem aDi(h:a9)(v:Value)(X:bW)(x:Int)(i:gY h v X):aN aE 487 [v,I x] h λr h'=>r=I (sR X x)∧h'=h:=by
 obtain⟨A,g⟩:=aC (sR X x);have a:=g;unfold sR at a;rw[<-g];have j:=i;obtain⟨b,o,s,rfl,k,p,t,n,_,_⟩:=i;refine afq ?_;refine bg λK c=>?_
 try simp(disch:=omega)
 refine c ?_;rw[aw];generalize c:aP aE _ _=K
 try simp(disch:=omega)
 refine aO (An _ X h j) ?_;rintro _ h1⟨rfl,rfl⟩;cases d:iv X
 ·simp only[d,ax,if_false]at a;subst a
  try simp(disch:=omega)
  subst c
  try simp(disch:=omega)
 have ok:=dK.1 d;have u:=ok.w;simp only[d,if_true]at a;have l:=cQ (2*X.1) (2*X.1);have f:=cQ (2*X.1-1) (2*X.1-1)
 try simp(disch:=omega)
 subst c;simp only[aq];rw[aw];generalize c:aP aE _ _=K;simp(disch:=omega)[k,l,f];refine aO (xW x 0 _ h1) ?_;rintro _ m⟨rfl,rfl⟩;by_cases q:0<=x∧x<=2*X.1-1
 ·have:gZ x 0 (2*X.1-1)=true:=fM.2 q;rw[if_pos q]at a;subst a;rw[this]
  try simp(disch:=omega)
  subst c
  try simp(disch:=omega)
 ·have:gZ x 0 (2*X.1-1)=false:=by
   cases e:gZ x 0 (2*X.1-1)
   ·rfl
   ·exact absurd (fM.1 e) q
  rw[if_neg q]at a;subst a;rw[this]
  try simp(disch:=omega)
  subst c
  try simp(disch:=omega)
def BX(n i:Nat):Nat:=(i+n)%(2*n)
theorem amd{n:Nat}{s:Bool}(ok:kK n y u):BX n (tR n s u y)=tR n (!s) u y:=by
 unfold BX tR kK at*;cases s
 ·cases u
  ·simp at ok ⊢;rw[show n+y+n=y+2*n by omega,me,ff (by omega)]
  ·simp at ok ⊢;rw[show n+(y-1)+n=(y-1)+2*n by omega,me,ff (by omega)]
 ·cases u
  ·simp at ok ⊢;rw[ff (by omega)];omega
  ·simp at ok ⊢;rw[ff (by omega)];omega
theorem ame{n:Nat}(hi:i<2*n):BX n i<2*n:=kL _ (by omega)
theorem amf{n:Nat}(hi:i<2*n):BX n (BX n i)=i:=by
 unfold BX;by_cases q:i<n
 ·rw[ff (show i+n<2*n by omega),show i+n+n=i+2*n by omega,me,ff hi]
 ·rw[show i+n=(i-n)+2*n by omega,me,ff (show i-n<2*n by omega),ff (by omega)];omega
theorem ax9{x n:Nat}(hi:i<2*n):zQ x n kd (BX n i)=BX n (zQ x n kd i):=by
 obtain⟨a,b,c,_⟩:=C8 (x:=x) hi;rw[<-c,amd b,Th a b,Th a b,amd (aee b)]
 congr 1
 unfold Mg;split<;>rfl
noncomputable def Gc(x n:Nat)(kd:Nat->Int)(k:Nat):List Nat:=(List.range (2*n)).map λi=>if BX n i<k then zQ x n kd i else 0
theorem aj8{x n:Nat}:Gc x n kd 0=List.replicate (2*n) 0:=by apply gz<;>simp[Gc]
theorem anH{x n:Nat}:Gc x n kd (2*n)=rD x n kd:=by unfold Gc rD;apply fe;intro i hi;rw[if_pos (ame (da.1 hi))]
theorem anI{x n k:Nat}(a:k<2*n):(cP (Gc x n kd k)).set (BX n k) ((BX n (zQ x n kd k):Nat):Int)=cP (Gc x n kd (k+1)):=by
 rw[<-ax9 a];apply gz
 ·simp[cP,Gc]
 ·intro i h1 b;have hi:i<2*n:=by simpa [cP,Gc]using b
  simp only[cP,Gc,iQ,iP,mG];by_cases e:BX n k=i
  ·subst e;rw[if_pos rfl,amf a,if_pos (by omega)]
  ·rw[if_neg e];have:BX n i≠k:=by intro q;apply e;rw[<-q,amf hi]
   by_cases q:BX n i<k
   ·rw[if_pos q,if_pos (by omega)]
   ·rw[if_neg q,if_neg (by omega)]
theorem agn{n:Nat}(hi:i<2*n)(hn:n<=100):Int.tmod (((i+n:Nat):Int)) ((2*n:Nat):Int)=(BX n i:Nat):=by rw[cj (by omega)];unfold BX;rw[<-Int.natCast_emod]
theorem aCM(h:a9)(hp:0<h.length)(v:Value)(X:bW)(x:Int)(hv:Vr h bU v X)(hx:bK x):aN aE 378 [v,I x] h λr h'=>FrR h h' r (Bb X x):=by
 have dD:=hv;obtain⟨A,eA⟩:=aC (Bb X x);have z:=eA;have Ci:=XZ (X:=X) (x:=x);obtain⟨cd,yZ⟩:=aC (sR X x);have D:=yZ;unfold sR at D;have cc:=λh pv pp=>aDi h pv X x pp;unfold Bb at z;rw[<-eA,<-yZ]at Ci;rw[<-yZ]at cc;rw[<-eA];have S:=λt=>Ob (X:=X) t;have cs:∀t,EB X (t+1)=zT X (2*X.1.toNat-1-t) (EB X t):=λt=>rfl;have M:EB X 0=(qM (2*X.2.1.toNat),0):=rfl;have U:∀x c,(pN (rD x (2*X.2.1.toNat) λj=>fZ X.1.toNat X.2.1.toNat X.2.2 x j) c.1 (2*X.2.1.toNat)).1=(zT X x c).1:=λx c=>rfl;have V:∀x c,c.2+(pN (rD x (2*X.2.1.toNat) λj=>fZ X.1.toNat X.2.1.toNat X.2.2 x j) c.1 (2*X.2.1.toNat)).2=(zT X x c).2:=λx c=>rfl;have cl:=λh hp pv x pp ok hx=>aoT h hp pv X x pp ok hx;have cr:=λh hp pv pp ok=>aoV h hp pv X pp ok;obtain⟨W,H,br⟩:=X;obtain⟨s,rfl,w1,w2,r⟩:=hv.dE;refine afq ?_;refine bg λK f=>?_
 try simp(disch:=omega)
 obtain⟨h1,e0⟩:=aC (h++[⟨[I W,I H,s],true⟩]);rw[<-e0];have g1:ae h h1:=⟨_,e0⟩;have kb:h1[h.length]?=some ⟨[I W,I H,s],true⟩:=by rw[e0];simp
 have pp:gY h1 (pt h.length 0) (W,H,br):=gY.at kb (r.grow g1) w1 w2;obtain⟨pb,zG⟩:=aC h.length;rw[<-zG]at pp kb ⊢;refine f ?_;refine bg λK f=>?_
 try simp(disch:=omega)
 refine aO (cc h1 _ pp) ?_;rintro _ h2⟨rfl,rfl⟩
 try simp(disch:=omega)
 refine f ?_;rw[aw];generalize f:aP aE _ _=K;by_cases N:cd=0
 case neg=>
  have hb:=Ci N;simp(disch:=omega)[N];subst f
  try simp(disch:=omega)
  rw[hb];exact⟨g1,_,rfl,⟨0,0,0,0,rfl,by simp[ints,cP],.inl rfl⟩⟩
 rw[N]at D;have e1:iv (W,H,br)=true:=by
  cases e:iv (W,H,br)
  ·rw[e]at D;simp at D
  ·rfl
 simp only[e1,if_true]at D z;have qx:0<=x∧x<=2*W-1:=by
  by_cases q:0<=x∧x<=2*W-1
  ·exact q
  ·rw[if_neg q]at D;omega
 rw[if_pos qx]at z;have ok:=dK.1 e1;have w8:=ok.w;have h8:=ok.h;simp only at w8 h8 S;simp only at cs U V M cl cr;simp(disch:=omega)[N];subst f;simp only[aq];obtain⟨n,en⟩:=aC (2*H.toNat);obtain⟨F,eF⟩:=aC (EB (W,H,br));simp only[<-eF,<-en]at z S cs U V M cl cr;have hH:=cQ (2*H) n;obtain⟨g,L⟩:=aC (2*n);have T:=cQ (2*(n:Int)) g;refine bg λK f=>?_
 try simp(disch:=omega)
 refine aO (cr h2 (aL hp g1) _ pp ok) ?_;rintro w0 h3⟨g3,b3⟩;obtain⟨wb,rfl⟩:=b3.nw
 try simp(disch:=omega)
 refine f ?_;have JU:=g3.at kb;have pp3:=pp.grow g3;have kH:=i9 (i:=1) JU (v:=I H) (by simp);have kW:=i9 (i:=0) JU (v:=I W) (by simp);refine bg λK f=>?_;simp(disch:=omega)[kH,hH];refine f ?_;obtain⟨m,em⟩:=aC (2*W.toNat-1);rw[<-em]at z;simp only[<-em]at cs;obtain⟨p,rfl⟩:∃p:Nat,x=p:=⟨x.toNat,by omega⟩;rw[aM]at z;have hW:=cQ (2*W) (m+1);have Oh:=cQ ((m:Int)+1-2) ((m:Int)-1);have hF0:Rw h3 (sl wb 0 (ints (cP (qM n))).length 1) 1 (ints (cP (F 0).1)):=by rw[M];exact b3.rw
 have xm:p<=m:=by omega
 have tO:=g1.trans g3;rw[aw];generalize hP:aP aE _ _=PP;simp(disch:=omega)[kW,hW,Oh];refine aU (λt σ h'=>t<=m-p∧ae h3 h'∧σ 1=I p∧σ 2=pt pb 0∧σ 4=.agg #[sl 0 0 0 0,I 0]∧σ 8=I n∧σ 9=I ((m:Int)-1-t)∧FrS h' (σ 7) (F t)) (λt=>m-p-t) 0 ?_ ?_
 ·exact⟨by omega,ae.refl _,by simp,by simp,by simp,by simp,by simp,_,_,_,_,by rw[M];rfl,hF0⟩
 rintro t σ h'⟨ht,Q,q1,q2,q4,q8,q9,b,o,k,y,q7,rk⟩;simp(disch:=omega)[q1,q9];refine aG (λbB=>?_) (λdG=>?_)
 ·have t1:t<m-p:=by omega
  obtain⟨i1,i2⟩:=S t;have cle:=Fy (t:=t) (by omega) (by omega) i2;obtain⟨i3,i4⟩:=S (t+1);have NO:=Fy (t:=t+1) (by omega) (by omega) i4;obtain⟨a,eat⟩:∃a:Nat,a=m-1-t:=⟨_,rfl⟩;have Z:(m:Int)-1-t=a:=by omega
  have Y:a+1=m-t:=by omega
  rw[Z]at q9;rw[oQ,pI,aq,aw];generalize hB:aP aE _ _=BB;rw[gJ];generalize vV:eY _ BB=B1;have gp3:=pp3.grow Q;refine bg λK f=>?_;simp(disch:=omega)[q2,q9];refine aO (cl h' (aL (aL hp tO) Q) _ a gp3 ok (by omega)) ?_;rintro lv B⟨g4,b4⟩;obtain⟨kd,A9⟩:∃kd:Nat->Int,kd=λ(j:Nat)=>fZ W.toNat H.toNat br (a+1:Nat) j:=⟨_,rfl⟩;rw[<-A9]at b4;obtain⟨lb,rfl,llo,lk⟩:=b4.VV (n:=2*n) (by simp[rD]) (by omega)
  try simp(disch:=omega)
  refine f ?_;refine bg λK f=>?_;simp(disch:=omega)[q8,T];rw[xl (by omega)];simp only[bI];obtain⟨J,E⟩:=aC B.length;obtain⟨h5,e5⟩:=aC (B++[⟨ints (List.replicate g 0),true⟩]);have g5:ae B h5:=⟨_,e5⟩;have k5:h5[J]?=some ⟨ints (cP (Gc (a+1) n kd 0)),true⟩:=by rw[aj8,<-L,e5,E];simp[cP]
  rw[<-e5,<-E]
  try simp(disch:=omega)
  refine f ?_;have cL:∀j,j<2*n->∀P,ae B P->cell P lb j=some (I (zQ (a+1) n kd j:Nat)):=by intro j hj P g6;have:=uG (k:=j) (h:=P) (b:=lb) (o:=0) (l:=rD (a+1) n kd) (.inr (cI (g6.at lk) (by simp[ints,jh]))) (by simpa [rD]using hj);rw[JX hj]at this;simpa using this
  rw[aw];generalize f:aP aE _ _=K
  try simp(disch:=omega)
  have aEc:B.length<=J:=by omega
  refine aU (λj τ G=>j<=g∧ae B G∧G[J]?=some ⟨ints (cP (Gc (a+1) n kd j)),true⟩∧τ 1=I p∧τ 2=pt pb 0∧τ 4=.agg #[sl 0 0 0 0,I 0]∧τ 8=I n∧τ 9=I (a:Nat)∧τ 7=.agg #[sl b o k y,I ((F t).2:Nat)]∧τ 10=sl lb 0 (2*n) 1∧τ 11=sl J 0 g 1∧τ 12=I j) (λj=>g-j) 0 ?_ ?_
  ·exact⟨by omega,g5,k5,by simpa using q1,by simpa using q2,by simpa using q4,by simpa using q8,by simpa using q9,by simpa using q7,by simp,by simp,by simp⟩
  rintro j τ G⟨hj,O,R,t1',t2,t4,t8,t9,t7,d8,i5,oO⟩;simp(disch:=omega)[t8,oO,T];refine aG (λbB=>?_) (λdG=>?_)
  ·have j1:j<g:=by omega
   have C:j<2*n:=by omega
   have jI:(j:Int)<2*(n:Int):=by omega
   have c1:=cL j C G O;have l1:=(FL (x:=a+1) (kd:=kd) C).1;have o1:=agn C (by omega);have o2:=agn l1 (by omega);rw[<-L]at o1 o2;have es:=anI (x:=a+1) (kd:=kd) C;have ol:=ame C;obtain⟨u,eu⟩:=aC (BX n j);obtain⟨q,eq⟩:=aC (zQ (a+1) n kd j);rw[<-eq]at c1 l1 o2 es;obtain⟨w,ew⟩:=aC (BX n q);rw[<-eu]at o1 es ol;rw[<-ew]at o2 es;have w1:=cQ ((j:Int)+n) (((j+n:Nat):Int));have w2:=cQ ((q:Int)+n) (((q+n:Nat):Int));have st:=iF (x:=((w:Nat):Int)) R (k:=u) (by rw[jh];simpa [Gc]using ol);rw[es]at st;rw[rq]at w1 w2 o1 o2;have ol':u<g:=by omega
   have nne:¬g=0:=by omega
   simp(disch:=omega)[t8,d8,i5,oO,j1,C,jI,c1,w1,w2,T,nne];rw[o1,o2];simp(disch:=omega)[ol',st]
   try simp(disch:=omega)[oO,wrap64]
   have gp:=O.put aEc ⟨ints (cP (Gc (a+1) n kd (j+1))),true⟩;have kp:=jy (d:=⟨ints (cP (Gc (a+1) n kd (j+1))),true⟩) R;refine⟨j+1,?_,by omega⟩;and_intros<;>first|assumption|omega|rfl
  ·have:j=g:=by omega
   subst this;rw[L,anH]at R
   try simp(disch:=omega)
   subst f;simp only[aq];have gh:=Q.trans (g4.trans O);have rT:=Pu R (n:=2*n) (by simp[rD]);rw[<-L]at rT;have axv:=aoU G (aL (aL hp tO) gh) (sl J 0 j 1) (sl b o k y) (rD (a+1) n kd) (F t).1 n (F t).2 JY i1 (by omega) (by omega) rT (rk.grow (g4.trans O));rw[cy];simp(disch:=omega)[t7,t8,i5];refine aO axv ?_;rintro _ h7⟨g7,w,rfl,b7⟩;have n1:=U (a+1) (F t);have n2:=V (a+1) (F t);have ct:=cs t;rw[<-Y]at ct;rw[<-ct,<-A9]at n1 n2;rw[n1]at b7;rw[n2];obtain⟨bb,rfl⟩:=b7.nw;simp(disch:=omega)[t7];subst vV;rw[fk,if_neg (by omega)];subst hB;simp only[aq];have wt:=cQ ((a:Int)-1) ((m:Int)-1-((t+1:Nat):Int));simp(disch:=omega)[t9];rw[wt];have g37:=gh.trans g7;have res:FrS h7 (.agg #[sl bb 0 (ints (cP (F (t+1)).1)).length 1,I ((F (t+1)).2:Nat)]) (F (t+1)):=⟨_,_,_,_,rfl,b7.rw⟩;refine⟨t+1,?_,by omega⟩;and_intros<;>first|assumption|omega|rfl
 ·have:t=m-p:=by omega
  subst this
  try simp(disch:=omega)
  subst hP;simp(disch:=omega)[q4,q7];rw[z];exact⟨tO.trans Q,_,rfl,rk⟩
def HK(X:bW)(x y:Int):UInt8:=if qP X.1 X.2.1 x y then(if gr X.1.toNat X.2.1.toNat x y then 46 else mW (fZ X.1.toNat X.2.1.toNat X.2.2 x y))else 32
def D4(X:bW)(y:Nat)(k:Nat):List UInt8:=(List.range k).map λx=>HK X (x:Nat) (y:Nat)
def vL(X:bW)(k:Nat):List (List UInt8):=(List.range k).map λy=>D4 X y (2*X.1.toNat+1)
theorem OO(X:bW)(y k:Nat):D4 X y (k+1)=D4 X y k++[HK X (k:Nat) (y:Nat)]:=by simp[D4,dN]
theorem FK(X:bW)(y k:Nat):(D4 X y k).length=k:=by simp[D4]
theorem Sc(X:bW)(k:Nat):vL X (k+1)=vL X k++[D4 X k (2*X.1.toNat+1)]:=by simp[vL,dN]
theorem pO(X:bW)(k:Nat):(vL X k).length=k:=by simp[vL]
theorem Vy{X:bW}(ok:fg X){y:Int}:0<=fZ X.1.toNat X.2.1.toNat X.2.2 x y∧fZ X.1.toNat X.2.1.toNat X.2.2 x y<=2:=by
 unfold fZ;split
 ·omega
 ·unfold fi;by_cases q:jd X.1.toNat x.toNat y.toNat<X.2.2.length
  ·rw[aA,ah q];exact ok.b _ (aD q)
  ·rw[aA,dX (by omega)];simp
theorem aj0{k:Int}(a:0<=k∧k<=2):(if 0<=k∧k<3 then Option.map (λb:UInt8=>U (b.toNat:Int)) [43,124,45][k.toNat]? else none)=some (U ((mW k).toNat:Int)):=by
 have:k=0∨k=1∨k=2:=by omega
 rcases this with rfl|rfl|rfl<;>rfl
theorem YI{y:Int}:qP W H x y=true↔(0<=x∧x<=2*W)∧(0<=y∧y<=2*H)∧(x+y)%2=1:=by unfold qP;simp
theorem c48(h:a9)(W H:Int)(br:List Int)(s:Value)(x y:Nat)(ok:fg (W,H,br))(E:Vr h cZ s br)(hx:x<=16)(hy:y<=16):aN aE 48 [.agg #[I W,I H,s],.agg #[I x,I y]] h λr h'=>r=U (HK (W,H,br) (x:Nat) (y:Nat)).toNat∧h'=h:=by
 have l:=ok.w;have f:=ok.h;have p:=ok.row;simp only at l f p;obtain⟨A,o⟩:∃A,A=HK (W,H,br) (x:Nat) (y:Nat):=⟨_,rfl⟩;have a:=o;rw[<-o];unfold HK at a;have i:=Vy ok (x:=x) (y:=y);simp only at a i;obtain⟨sb,G,J,rfl,_,_,_,C⟩:=E.ints;refine CF g48 rfl ?_;unfold aiH;rw[aw,cy];generalize c:aP aE _ _ 0=K;simp(disch:=omega);subst c;simp only[aq];rw[aw];generalize c:aP aE _ _=K;simp(disch:=omega);refine aQ (c36 h W H x y _ l f) ?_;rintro _ _⟨rfl,rfl⟩
 try refine⟨λe=>(by cases e),?_⟩
 cases d:qP W H x y
 ·rw[d]at a;simp only[ax,if_false]at a;subst a;simp(disch:=omega);subst c;simp(disch:=omega)
 rw[d]at a;simp only[if_true]at a;obtain⟨L,M,N⟩:=YI.1 d;simp(disch:=omega);rename_i g;refine aQ (c34 g W H x y _ l f) ?_;rintro _ _⟨rfl,rfl⟩
 try refine⟨λe=>(by cases e),?_⟩
 by_cases b:gr W.toNat H.toNat (x:Int) (y:Int)
 ·rw[if_pos b]at a;subst a;simp(disch:=omega)[b];subst c;simp(disch:=omega)
 rw[if_neg b]at a;simp(disch:=omega)[b];subst c;simp only[aq];rename_i g;have ne:=b;unfold gr at ne;have B:(W.toNat:Int)=W:=by omega
 have z:(H.toNat:Int)=H:=by omega
 have F:1<=x∧x<2*W.toNat:=by omega
 have u:1<=y∧y<2*H.toNat:=by omega
 have m:(x+y)%2=1:=by omega
 have D:=Cp (W:=W.toNat) (H:=H.toNat) (x:=x) (y:=y) F u m;have j:jd W.toNat x y<br.length:=by rw[p];exact D
 have t:fZ W.toNat H.toNat br (x:Int) (y:Int)=br[jd W.toNat x y]:=by unfold fZ;rw[if_neg b];simp only[aM];exact ng j
 have k:=eG C j;rw[<-t]at k;obtain⟨kd,v⟩:∃kd,kd=fZ W.toNat H.toNat br (x:Int) (y:Int):=⟨_,rfl⟩;rw[<-v]at k a i;have n:=XE g W.toNat H.toNat x y (sl sb G br.length J) (by omega) (by omega) (by omega) (by omega) m;rw[B,z]at n;simp(disch:=omega);refine aQ n ?_;rintro _ _⟨rfl,rfl⟩
 try refine⟨λe=>(by cases e),?_⟩
 have q:=aj0 i;rw[<-a]at q;simp(disch:=omega)[j,k,q]
theorem HD{v:Value}{b:UInt8}(hp:0<h.length)(hl:l.length<=1000000)(f:ae h h')(g:bP h h' v 1 (cD l))
  (d:∀c a,ae h a->bP h a c 1 (cD (l++[b]))->K c a):gE (aW 1 1 h' [(0,.agg #[U 0]),(1,U b.toNat)]) λy a=>gE (cu 1 a y v) K:=by
 have e:aW 1 1 h' [(0,.agg #[U 0]),(1,U b.toNat)]=some (sl h'.length 0 1 1,h'++[⟨cD [b],true⟩]):=by simp[aW,cD]
 exact Ja (xs:=[b]) (n:=1) hp (by simp;omega) f g (by simp) rfl e d
theorem c47(h:a9)(hp:0<h.length)(W H:Int)(br:List Int)(s:Value)(ok:fg (W,H,br))(Q:Vr h cZ s br):aN aE 47 [.agg #[I W,I H,s],.func (.func 48) #[.agg #[I W,I H,s]] #[]] h λr h'=>ae h h'∧bP h h' r 1 (texts (vL (W,H,br) (2*H.toNat+1))):=by
 have Z:=ok.w;have L:=ok.h;simp only at Z L;have ls:=OO (W,H,br);have ll:=FK (W,H,br);have ps:=Sc (W,H,br);have pl:=pO (W,H,br);have q:=λh' S x y hx hy=>c48 h' W H br s x y ok S hx hy;obtain⟨l,u⟩:∃F,F=D4 (W,H,br):=⟨_,rfl⟩;obtain⟨o,v⟩:∃F,F=vL (W,H,br):=⟨_,rfl⟩;obtain⟨Fc,D⟩:∃F,F=HK (W,H,br):=⟨_,rfl⟩;obtain⟨m,em⟩:=aC (2*W.toNat+1);obtain⟨n,E⟩:=aC (2*H.toNat+1);have f0:∀y,l y 0=[]:=λy=>by rw[u];rfl
 have p0:o 0=[]:=by rw[v];rfl
 simp only[<-u,<-v,<-D,<-em,<-E]at ls ll ps pl q ⊢;have N:=cQ (2*H) (2*H);have j:=cQ (2*H+1) n;have P:=cQ (2*W) (2*W);have A:=cQ (2*W+1) m;refine ag8 λK a=>?_;refine a ?_;refine akW λK a=>?_;refine a ?_;rw[aw];generalize O:aP aE _ _=PP;simp(disch:=omega)[N,j];obtain⟨fv,c⟩:=aC (Value.func (.func 48) #[.agg #[I W,I H,s]] #[]);refine aU (λy σ h'=>y<=n∧ae h h'∧bP h h' (σ 5) 1 (texts (o y))∧σ 1=fv∧σ 2=.agg #[I W,I H,s]∧σ 13=I n∧σ 14=I y) (λy=>n-y) 0 ?_ ?_
 ·exact⟨by omega,ae.refl _,by rw[p0];simpa [texts]using bP.nil,by simp[c],by simp,by simp,by simp⟩
 rintro y σ h'⟨hy,f,d,q1,q2,BZ,xO⟩;simp(disch:=omega)[BZ,xO];refine aG (λB=>?_) (λC=>?_)
 ·have y1:y<n:=by omega
  have R:=aL hp f;rw[oQ,pI,aq,aw];generalize M:aP aE _ _=z;rw[gJ];generalize Y:eY _ z=B1;refine bg λK a=>?_;simp(disch:=omega)[xO];refine a ?_;refine akW λK a=>?_;refine a ?_;rw[aw];generalize a:aP aE _ _=K;simp(disch:=omega)[q2,P,A];refine aU (λx τ g=>x<=m∧ae h' g∧bP h' g (τ 7) 1 (cD (l y x))∧τ 1=fv∧τ 2=.agg #[I W,I H,s]∧τ 5=σ 5∧τ 6=I y∧τ 13=I n∧τ 14=I y∧τ 21=I m∧τ 22=I x) (λx=>m-x) 0 ?_ ?_
  ·exact⟨by omega,ae.refl _,by rw[f0];simpa [cD]using bP.nil,by simpa using q1,by simpa using q2,by simp,by simp,by simpa using BZ,by simpa using xO,by simp,by simp⟩
  rintro x τ g⟨hx,e,p,t1,t2,U,V,T,k,td,b⟩;simp(disch:=omega)[td,b];refine aG (λB=>?_) (λC=>?_)
  ·have x1:x<m:=by omega
   simp(disch:=omega)[t1,V,b,c];refine aO (q g (Q.grow (f.trans e)) x y (by omega) (by omega)) ?_;rintro _ _⟨rfl,rfl⟩
   try simp(disch:=omega)
   refine HD R (by rw[ll];omega) e p λv4 J G i=>?_;rw[<-ls]at i;simp(disch:=omega)[b,wrap64];refine⟨x+1,?_,by omega⟩;and_intros<;>first|assumption|omega|rfl
  ·have:x=m:=by omega
   subst this;simp(disch:=omega);subst a;simp only[aq];rw[cy];have X:=Ng p;simp(disch:=omega)[U,X];refine lN hp (by rw[pl];omega) (f.trans e) (d.grow e) λv4 J G i=>?_;rw[<-ps]at i
   try simp(disch:=omega)
   subst Y;rw[fk,if_neg (by omega)];subst M;simp only[aq];simp(disch:=omega)[k,wrap64];refine⟨y+1,?_,by omega⟩;and_intros<;>first|assumption|omega|rfl
 ·have:y=n:=by omega
  subst this;simp(disch:=omega);subst O;obtain⟨bb,t⟩:=d.nw;rw[t]at d;simp(disch:=omega)[t];exact⟨f,d⟩
theorem awa{o n:Nat}:CM f [.agg #[I W,I H,sl b o n z]] [] h=some (.func (.func f) #[.agg #[I W,I H,sl b o n z]] #[],h):=rfl
theorem aB2(h:a9)(hp:0<h.length)(v:Value)(X:bW)(c:Vr h bU v X)(ok:fg X):aN aE 110 [v] h λr h'=>ae h h'∧∃w,r=.tuple #[w,I 0]∧bP h h' w 1 (texts (vL X (2*X.2.1.toNat+1))):=by
 have d:=c;obtain⟨W,H,br⟩:=X;obtain⟨s,rfl,w1,w2,r⟩:=c.dE;refine ag8 λK a=>?_;refine a ?_;rw[aw];generalize a:aP aE _ _=K;simp(disch:=omega);refine aO (B7 _ _ h d) ?_;rintro _ h1⟨rfl,rfl⟩;rw[dK.2 ok];simp(disch:=omega);subst a;simp only[aq];obtain⟨sb,j,i,k,rfl⟩:∃b o n z,s=sl b o n z:=by obtain⟨b,o,z,e,_⟩:=r.ints;exact⟨b,o,_,z,e⟩
 refine bg λK a=>?_;simp(disch:=omega)[awa];refine aO (c47 h1 hp W H br _ ok r) ?_;rintro w g⟨g2,b2⟩;obtain⟨f,rfl⟩:=b2.nw
 try simp(disch:=omega)
 refine a ?_;simp(disch:=omega);exact⟨g2,b2⟩
end Am

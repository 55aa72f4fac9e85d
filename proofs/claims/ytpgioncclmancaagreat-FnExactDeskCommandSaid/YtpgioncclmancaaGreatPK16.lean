/- Contracts of functions. -/
import Derived.Test.YtpgioncclmancaaGreatPK15
set_option linter.unusedVariables false
set_option linter.unusedSimpArgs false
set_option maxHeartbeats 4000000
set_option maxRecDepth 40000
namespace Am
open Go
variable{h0 h h' h1:a9}{K:Value->a9->Prop}{f m f' m' i C b z:Nat}{x:Int}{X:List Int}
theorem akQ(h:a9)(v:Value)(X:bW)(x y:Int)(g:gY h v X)(ok:fg X):aN aE 447 [v,.agg #[I x,I y]] h λr h'=>r=B (qP X.1 X.2.1 x y)∧h'=h:=by
 have E:=ok.w;have z:=ok.h;obtain⟨A,a⟩:=aC (qP X.1 X.2.1 x y);rw[<-a];unfold qP at a;have u:=g;obtain⟨b,o,s,rfl,l,p,D,C,_,_⟩:=g;have w1:=cQ (2*X.1) (2*X.1);have w2:=cQ (2*X.2.1) (2*X.2.1);refine afq ?_;simp(disch:=omega)[l,w1];refine aO (xW x 0 _ h) ?_;rintro _ _⟨rfl,rfl⟩;by_cases q1:0<=x∧x<=2*X.1
 ·have d:gZ x 0 (2*X.1)=true:=fM.2 q1;rw[d];simp(disch:=omega)[p,w2];rename_i k;refine aO (xW y 0 _ k) ?_;rintro _ _⟨rfl,rfl⟩;by_cases q2:0<=y∧y<=2*X.2.1
  ·have f:gZ y 0 (2*X.2.1)=true:=fM.2 q2;obtain⟨m,em⟩:∃m:Nat,x=m:=⟨x.toNat,by omega⟩;obtain⟨n,i⟩:∃n:Nat,y=n:=⟨y.toNat,by omega⟩;subst em;subst i;have w3:=cQ ((m:Int)+n) (((m+n:Nat):Int));have c:Int.tmod ((m+n:Nat):Int) 2=(((m+n)%2:Nat):Int):=by rw[cj (by omega)];omega
   obtain⟨t,j⟩:∃t:Int,t=((m+n:Nat):Int):=⟨_,rfl⟩;rw[<-j]at w3 c;rw[f];by_cases q:(m+n)%2=1
   ·have:A=true:=by rw[a];simp;omega
    subst this;rw[q]at c;simp(disch:=omega)[w3,c]
   ·have:A=false:=by rw[a];simp;omega
    subst this;rw[show(m+n)%2=0 by omega]at c;simp(disch:=omega)[w3,c]
  ·have f:gZ y 0 (2*X.2.1)=false:=by
    cases e:gZ y 0 (2*X.2.1)
    ·rfl
    ·exact absurd (fM.1 e) q2
   have:A=false:=by rw[a];simp;omega
   subst this;rw[f];simp(disch:=omega)
 ·have d:gZ x 0 (2*X.1)=false:=by
   cases e:gZ x 0 (2*X.1)
   ·rfl
   ·exact absurd (fM.1 e) q1
  have:A=false:=by rw[a];simp;omega
  subst this;rw[d];simp(disch:=omega)
theorem aC7(h:a9)(v:Value)(X:bW)(x y:Nat)(a:gY h v X)(ok:fg X)(hx:x<=16)(hy:y<=16):aN aE 447 [v,.agg #[I x,I y]] h λr h'=>r=B (qP X.1 X.2.1 x y)∧h'=h:=
 akQ h v X x y a ok
structure wg (h0 h:a9) (v:Value) (L:List (List UInt8)):Prop where
 ex:∃Z,bP h0 h v 1 Z∧Z.length=L.length∧∀i (hi:i<L.length),∃b,Z[i]?=some (sl b 0 L[i].length 1)∧h[b]?=some ⟨cD L[i],true⟩∧∀n y,v≠sl b 0 n y
theorem wg.nil:wg h0 h (sl 0 0 0 1) []:=⟨[],bP.nil,rfl,by simp⟩
theorem wg.grow{v:Value}{L:List (List UInt8)}(x:wg h0 h v L)(g:ae h h'):wg h0 h' v L:=by obtain⟨Z,b,l,c⟩:=x.ex;exact⟨Z,b.grow g,l,λi hi=>by obtain⟨w,a,d,e⟩:=c i hi;exact⟨w,a,g.at d,e⟩⟩
theorem wg.app{v w:Value}{L:List (List UInt8)}{R:List UInt8}(hp:0<h0.length)(g:ae h0 h)(x:wg h0 h v L)(g1:ae h h1)(r:bP h h1 w 1 (cD R))(D:R≠[])(hl:L.length<=1000)
  (C:∀d h',ae h0 h'->wg h0 h' d (L++[R])->K d h'):gE (aW 1 1 h1 [(0,.agg #[sl 0 0 0 0]),(1,w)]) (λy B=>gE (cu 1 B y v) K):=by
 obtain⟨Z,s,a,t⟩:=(x.grow g1).ex;obtain⟨wb,wn,rfl,f,k,c⟩:∃b n,w=sl b 0 n 1∧n=R.length∧h.length<=b∧h1[b]?=some ⟨cD R,true⟩:=by
  rcases r with⟨e,_⟩|⟨b,n,u,f,k,c⟩
  ·exact absurd (by simpa [cD]using e) D
  ·exact⟨b,n,u,by simpa [cD]using f,k,c⟩
 have z:aW 1 1 h1 [(0,.agg #[sl 0 0 0 0]),(1,sl wb 0 wn 1)]=some (sl h1.length 0 1 1,h1++[⟨[sl wb 0 wn 1],true⟩]):=by simp[aW]
 rw[z];simp only[bI];have F:=g.le;refine AU hp (g.trans g1) (aa _) (g.trans g1).le s rfl (by omega) (by rw[a];simp[maxSize];omega) λd h' A l' b' l fr=>?_;refine C d h' A ⟨_,b',by simp[a],λi hi=>?_⟩;by_cases q:i<L.length
 ·obtain⟨b,o,j,p⟩:=t i q;rw[dY q,ai (by rw[a];exact q)];refine⟨b,o,fr b _ j λn=>p n 1,λn y e=>?_⟩;have:=l _ _ _ e;have:=bZ j;omega
 ·have:i=L.length:=by simp at hi;omega
  subst this;rw[fG (by omega),aX (by rw[a];exact aa _),a];simp only[gN,gG,gd];refine⟨wb,by rw[f],?_,λm y e=>?_⟩
  ·refine fr wb _ c λm e=>?_;rcases x.ex with⟨G,q,_⟩;rcases q with⟨_,q2⟩|⟨b2,n2,q2,_,_,E⟩
   ·rw[q2]at e;simp[sl]at e<;>omega
   ·rw[q2]at e;simp[sl]at e;have:=bZ E;omega
  ·have:=l _ _ _ e;have:=bZ c;omega
theorem wg.sl{v:Value}{L:List (List UInt8)}(x:wg h0 h v L):∃b,v=Am.sl b 0 L.length 1:=by obtain⟨Z,b,l,c⟩:=x.ex;rw[<-l];exact b.nw
theorem aDd(h:a9)(hp:0<h.length)(pv:Value)(X:bW)(pp:gY h pv X)(ok:fg X):aN aE 469 [pv] h λr h'=>ae h h'∧wg h h' r (vL X (2*X.2.1.toNat+1)):=by
 have w8:=ok.w;have h8:=ok.h;have iJ:=ok.row;have ls:=OO X;have ll:=FK X;have ps:=Sc X;have pl:=pO X;have Dg:=pp;have ca:=λh' x y t hx hy=>aC7 h' pv X x y t ok hx hy;have ce:=λh' x y t=>ZA h' pv X x y t ok;have cn:=λh' x y t hx hy=>PX h' pv X X.1.toNat x y t (by omega) (by omega) (by omega) hx hy;have kb:=λx y=>Vy ok (x:=x) (y:=y);obtain⟨G,T⟩:∃F,F=HK X:=⟨_,rfl⟩;have UW:∀x y,G x y=if qP X.1 X.2.1 x y then(if gr X.1.toNat X.2.1.toNat x y then 46 else mW (fZ X.1.toNat X.2.1.toNat X.2.2 x y))else 32:=λx y=>by rw[T];rfl
 obtain⟨z,U⟩:∃F,F=D4 X:=⟨_,rfl⟩;obtain⟨R,V⟩:∃F,F=vL X:=⟨_,rfl⟩;obtain⟨m,em⟩:=aC (2*X.1.toNat);obtain⟨n,en⟩:=aC (2*X.2.1.toNat);have f0:∀y,z y 0=[]:=λy=>by rw[U];rfl
 have p0:R 0=[]:=by rw[V];rfl
 simp only[<-U,<-V,<-T,<-em,<-en]at ls ll ps pl ⊢;have hH:=cQ (2*X.2.1) n;have hW:=cQ (2*X.1) m;obtain⟨b,o,s,rfl,k1,k2,k3,hs,_,_⟩:=pp;obtain⟨sb,so,sz,rfl,is1,is2,is3,hc⟩:=hs.ints;refine afq ?_;refine bg λK k=>?_
 try simp(disch:=omega)
 refine k ?_;refine bg λK k=>?_
 try simp(disch:=omega)
 refine k ?_;rw[aw];generalize hP:aP aE _ _=PP
 try simp(disch:=omega)
 refine aU (λy σ h'=>y<=n+1∧ae h h'∧wg h h' (σ 3) (R y)∧σ 0=pt b o∧σ 4=I y) (λy=>n+1-y) 0 ?_ ?_
 ·exact⟨by omega,ae.refl _,by rw[p0];simpa using wg.nil,by simp,by simp⟩
 rintro y σ h'⟨hy,v,b3,Z,q4⟩;have EW:=v.cell k2;simp(disch:=omega)[Z,q4,EW,hH];refine aG (λbB=>?_) (λdG=>?_)
 ·have y1:y<=n:=by omega
  have N:=aL hp v;rw[oQ,pI,aq,aw];generalize hB:aP aE _ _=BB;rw[gJ];generalize vV:eY _ BB=B1;refine bg λK k=>?_
  try simp(disch:=omega)
  refine k ?_;rw[aw];generalize k:aP aE _ _=K
  try simp(disch:=omega)
  refine aU (λx τ B=>x<=m+1∧ae h' B∧bP h' B (τ 5) 1 (cD (z y x))∧τ 0=pt b o∧τ 3=σ 3∧τ 4=I y∧τ 6=I x) (λx=>m+1-x) 0 ?_ ?_
  ·exact⟨by omega,ae.refl _,by rw[f0];simpa [cD]using bP.nil,by simpa using Z,by simp,by simpa using q4,by simp⟩
  rintro x τ B⟨hx,u,A,f,p,j,i⟩;have g2:=v.trans u;have AH:=g2.cell k1;simp(disch:=omega)[f,i,AH,hW];refine aG (λbB=>?_) (λdG=>?_)
  ·have x1:x<=m:=by omega
   rw[oQ,pI,aq,aw];generalize Y:aP aE _ _=CC;rw[gJ];generalize Q:eY _ CC=E;have post:∀(τ:Nat->Value) (v4:Value) (a:a9),ae h' a->bP h' a v4 1 (cD (z y x++[G (x:Nat) (y:Nat)]))->τ 5=v4->τ 0=pt b o->τ 3=σ 3->τ 4=I y->τ 6=I x->E 0 τ a:=by intro τ v4 a g c P f p j i;rw[<-ls,<-P]at c;subst Q;rw[fk,if_neg (by omega)];subst Y;simp only[aq];simp(disch:=omega)[i,wrap64];refine⟨x+1,?_,by omega⟩;and_intros<;>first|assumption|omega|rfl
   clear Q Y;refine bg λD hD=>?_;simp(disch:=omega)[j,i];refine hD ?_;rw[gJ];have C:∀(τ:Nat->Value) (v4:Value) (a:a9),ae h' a->bP h' a v4 1 (cD (z y x++[G (x:Nat) (y:Nat)]))->τ 5=v4->τ 0=pt b o->τ 3=σ 3->τ 4=I y->τ 6=I x->eY 4 E 0 τ a:=by intro τ v4 a g c P f p j i;rw[fk,if_neg (by omega)];exact post τ v4 a g c P f p j i
   clear post;generalize eY 4 E=C2 at C ⊢;have d:=UW (x:Nat) (y:Nat);have l:=Dg.grow g2;simp(disch:=omega)[f];refine aO (ca B x y l (by omega) (by omega)) ?_;rintro _ _⟨rfl,rfl⟩;cases J:qP X.1 X.2.1 x y
   ·rw[J]at d;simp only[ax,if_false]at d
    try simp(disch:=omega)
    refine HD (b:=32) N (by rw[ll];omega) u A λv4 a g c=>?_;rw[<-d]at c
    try simp(disch:=omega)
    exact C _ v4 a g c (by simp) (by simpa using f) (by simpa using p) (by simpa using j) (by simpa using i)
   ·rw[J]at d;simp only[if_true]at d;obtain⟨p1,p2,p3⟩:=YI.1 J;simp(disch:=omega)[f];refine aO (ce _ x y l) ?_;rintro _ _⟨rfl,rfl⟩;by_cases q:gr X.1.toNat X.2.1.toNat (x:Int) (y:Int)
    ·rw[if_pos q]at d;simp(disch:=omega)[q];refine HD (b:=46) N (by rw[ll];omega) u A λv4 a g c=>?_;rw[<-d]at c
     try simp(disch:=omega)
     exact C _ v4 a g c (by simp) (by simpa using f) (by simpa using p) (by simpa using j) (by simpa using i)
    ·rw[if_neg q]at d;have ne:=q;unfold gr at ne;have hk:=Cp (W:=X.1.toNat) (H:=X.2.1.toNat) (x:=x) (y:=y) (by omega) (by omega) (by omega);have M:jd X.1.toNat x y<X.2.2.length:=by rw[iJ];exact hk
     have A9:fZ X.1.toNat X.2.1.toNat X.2.2 (x:Int) (y:Int)=X.2.2[jd X.1.toNat x y]:=by unfold fZ;rw[if_neg q];simp only[aM];exact ng M
     have O:=eG (hc.imp id λe=>g2.aZ e) M;have L:=g2.cell k3;rw[<-A9]at O;obtain⟨kd,Mz⟩:=aC (fZ X.1.toNat X.2.1.toNat X.2.2 (x:Int) (y:Int));rw[<-Mz]at O d;simp(disch:=omega)[q,f,L];refine aO (cn _ x y l (by omega) (by omega)) ?_;rintro _ _⟨rfl,rfl⟩;simp(disch:=omega)[M,O];refine aO (aoR kd _) ?_;rintro _ _⟨rfl,rfl⟩
     try simp(disch:=omega)
     refine HD N (by rw[ll];omega) u A λv4 a g c=>?_;rw[<-d]at c
     try simp(disch:=omega)
     exact C _ v4 a g c (by simp) (by simpa using f) (by simpa using p) (by simpa using j) (by simpa using i)
  ·have:x=m+1:=by omega
   subst this
   try simp(disch:=omega)
   subst k;simp only[aq];rw[cy];simp(disch:=omega)[p];refine wg.app hp v b3 u A (by intro e;have:=congrArg List.length e;rw[ll]at this;simp at this) (by rw[pl];omega) λv4 a g c=>?_;rw[<-ps]at c
   try simp(disch:=omega)
   subst vV;rw[fk,if_neg (by omega)];subst hB;simp only[aq];simp(disch:=omega)[j,wrap64];refine⟨y+1,?_,by omega⟩;and_intros<;>first|assumption|omega|rfl
 ·have:y=n+1:=by omega
  subst this
  try simp(disch:=omega)
  subst hP;obtain⟨bb,S⟩:=b3.sl;rw[S]at b3;simp(disch:=omega)[S];exact⟨v,b3⟩
theorem aDe(h:a9)(hp:0<h.length)(h0:a9)(v:Value)(L:List (List UInt8))(l:wg h0 h v L)(hl:L.length<=1000):aN aE 471 [v] h λr h'=>ae h h'∧bP h h' r 1 (texts L):=by
 obtain⟨b,rfl⟩:=l.sl;obtain⟨Z,g,y,t⟩:=l.ex;obtain⟨N,u⟩:=aC L.length;rw[<-u]at y hl g ⊢;refine afq ?_;refine bg λK e=>?_
 try simp(disch:=omega)
 refine e ?_;refine bg λK e=>?_
 try simp(disch:=omega)
 refine e ?_;rw[aw];generalize w:aP aE _ _=PP
 try simp(disch:=omega)
 refine aU (λk σ h'=>k<=N∧ae h h'∧bP h h' (σ 3) 1 (texts (L.take k))∧σ 0=sl b 0 N 1∧σ 4=I k) (λk=>N-k) 0 ?_ ?_
 ·exact⟨by omega,ae.refl _,by simpa [texts]using bP.nil,by simp,by simp⟩
 rintro k σ h'⟨G,d,b3,p,f⟩;simp(disch:=omega)[p,f];refine aG (λB=>?_) (λD=>?_)
 ·have x:k<N:=by omega
  have m:k<L.length:=by omega
  obtain⟨wb,a,q,_⟩:=t k m;have n:k<Z.length:=by omega
  rw[ah n]at a;injection a with a;have c:=g.Jc (i:=k) n;rw[a]at c;have c:=d.cell c;have A:=Iw (h:=h') (b:=wb) (o:=0) (z:=1) rfl (.inr (cI (d.at q) (by simp[cD])));have es:L.take k++[L[k]]=L.take (k+1):=by rw[jT,ah m];rfl
  simp(disch:=omega)[p,f,x,c,A];refine lN hp (by rw[bu];omega) d b3 λv4 F E s=>?_;rw[es]at s;simp(disch:=omega)[f,wrap64];refine⟨k+1,?_,by omega⟩;and_intros<;>first|assumption|omega|rfl
 ·have:k=N:=by omega
  subst this;rw[aY (by omega)]at b3;obtain⟨C,j⟩:=b3.nw;rw[j]at b3
  try simp(disch:=omega)
  subst w;simp(disch:=omega)[j];exact⟨d,b3⟩
theorem aCS(h:a9)(hp:0<h.length)(v:Value)(X:bW)(u:Vr h bU v X)(ok:fg X):aN aE 401 [v] h λr h'=>ae h h'∧∃w,r=.tuple #[w,I 0]∧bP h h' w 1 (texts (vL X (2*X.2.1.toNat+1))):=by
 have B:=ok.h;have i:=λh hp pv pp=>aDd h hp pv X pp ok;obtain⟨P,d⟩:=aC (vL X (2*X.2.1.toNat+1));have C:P.length<=17:=by rw[d,pO];omega
 rw[<-d];simp only[<-d]at i;obtain⟨W,H,br⟩:=X;obtain⟨s,rfl,w1,w2,r⟩:=u.dE;refine afq ?_;refine bg λK a=>?_
 try simp(disch:=omega)
 obtain⟨h1,c⟩:=aC (h++[⟨[I W,I H,s],true⟩]);rw[<-c];have g1:ae h h1:=⟨_,c⟩;have x:h1[h.length]?=some ⟨[I W,I H,s],true⟩:=by rw[c];simp
 have pp:gY h1 (pt h.length 0) (W,H,br):=gY.at x (r.grow g1) w1 w2;obtain⟨pv,l⟩:=aC (pt h.length 0);rw[<-l]at pp ⊢;refine a ?_;rw[aw];generalize a:aP aE _ _=K
 try simp(disch:=omega)
 refine aO (An _ (W,H,br) h1 pp) ?_;rintro _ j⟨rfl,rfl⟩;rw[dK.2 ok]
 try simp(disch:=omega)
 subst a;simp only[aq];have k:=aL hp g1;refine bg λK a=>?_
 try simp(disch:=omega)
 refine aO (i j k _ pp) ?_;rintro w t⟨f,b3⟩
 try simp(disch:=omega)
 refine aO (aDe t (aL k f) j w P b3 (by omega)) ?_;rintro w2 A⟨q,g⟩;obtain⟨y,rfl⟩:=g.nw
 try simp(disch:=omega)
 refine a ?_
 try simp(disch:=omega)
 refine⟨(g1.trans f).trans q,?_⟩;rcases g with e|⟨b,n,m,o,z,p⟩
 ·exact .inl e
 ·exact .inr ⟨b,n,m,o,by have:=(g1.trans f).le;omega,p⟩
abbrev Poly:=Int×List Int
def w64(n:Int):Int:=IntKind.i64.wrap n
structure Trim (cs:List Int) (f m:Nat):Prop where
 le:f+m<=cs.length
 lo:∀i,i<f->cs.getD i 0=0
 hi:∀i,f+m<=i->i<cs.length->cs.getD i 0=0
 ends:m=0∨(cs.getD f 0≠0∧cs.getD (f+m-1) 0≠0)
open Classical in
noncomputable def uN(low:Int)(cs:List Int):Poly:=if h:∃p:Nat×Nat,Trim cs p.1 p.2∧p.2≠0 then(low+(Classical.choose h).1,(cs.drop (Classical.choose h).1).take (Classical.choose h).2)else(0,[])
theorem Trim.uniq{cs:List Int}(a:Trim cs f m)(b:Trim cs f' m')(hm:m≠0):f'=f∧m'=m:=by
 obtain⟨c,d⟩:=a.ends.resolve_left hm;have g:m'≠0:=by
  intro e;subst e;by_cases q:f<f'
  ·exact c (b.lo f q)
  ·exact c (b.hi f (by omega) (by have:=a.le;omega))
 obtain⟨b1,b2⟩:=b.ends.resolve_left g;have k:=a.le;have lb:=b.le;have h1:¬f<f':=λq=>c (b.lo f q);have h:¬f'<f:=λq=>b1 (a.lo f' q);have i:¬f'+m'<=f+m-1:=λq=>d (b.hi _ q (by omega));have j:¬f+m<=f'+m'-1:=λq=>b2 (a.hi _ q (by omega));omega
theorem CD{low:Int}{cs:List Int}(a:Trim cs f m):uN low cs=if m=0 then(0,[])else(low+f,(cs.drop f).take m):=by
 unfold uN;by_cases hm:m=0
 ·rw[if_pos hm,dif_neg];rintro⟨⟨f',m'⟩,b,c⟩;have:=b.uniq a c;exact c (by simp only at c this;omega)
 ·rw[if_neg hm,dif_pos ⟨(f,m),a,hm⟩];have hx:∃p:Nat×Nat,Trim cs p.1 p.2∧p.2≠0:=⟨(f,m),a,hm⟩;obtain⟨h1,g⟩:=Classical.choose_spec hx;obtain⟨d,e⟩:=a.uniq h1 hm;rw[d,e]
structure sU (B:Nat) (p:Poly):Prop where
 ends:p.2=[]∧p.1=0∨(p.2≠[]∧Trim p.2 0 p.2.length)
 bd:p.2≠[]->-(B:Int)<=p.1∧p.1+p.2.length<=B
 i64:∀x∈p.2,bK x
theorem Trim.ex(cs:List Int):∃f m,Trim cs f m:=by
 by_cases h:∃f m,Trim cs f m∧m≠0
 ·obtain⟨f,m,a,_⟩:=h;exact⟨f,m,a⟩
 refine⟨0,0,by omega,by intro i hi;omega,?_,.inl rfl⟩
 intro i _ hi
 refine Classical.byContradiction λcG=>h ?_
 -- the first that is not zero, and the last
 have p1:∃f,cs.getD f 0≠0∧∀j,j<f->cs.getD j 0=0:=by
  have:∀n,(∃f,f<n∧cs.getD f 0≠0∧∀j,j<f->cs.getD j 0=0)∨∀j,j<n->cs.getD j 0=0:=by
   intro n
   induction n with
   |zero=>right;intro j hj;omega
   |succ n ih=>
    rcases ih with⟨f,hf,a,b⟩|ih
    ·exact .inl ⟨f,by omega,a,b⟩
    ·by_cases q:cs.getD n 0=0
     ·right;intro j hj
      by_cases e:j=n
      ·rw[e];exact q
      ·exact ih j (by omega)
     ·exact .inl ⟨n,by omega,q,ih⟩
  rcases this (i+1)with⟨f,_,a,b⟩|a
  ·exact⟨f,a,b⟩
  ·exact absurd (a i (by omega)) cG
 have p2:∃l,l<cs.length∧cs.getD l 0≠0∧∀j,l<j->j<cs.length->cs.getD j 0=0:=by
  have:∀n,n<=cs.length->(∃l,l<cs.length∧cs.length-n<=l∧cs.getD l 0≠0∧∀j,l<j->j<cs.length->cs.getD j 0=0)∨∀j,cs.length-n<=j->j<cs.length->cs.getD j 0=0:=by
   intro n
   induction n with
   |zero=>intro _;right;intro j hj LM;omega
   |succ n ih=>
    intro hn
    rcases ih (by omega)with⟨l,a0,a,b,c⟩|ih
    ·exact .inl ⟨l,a0,by omega,b,c⟩
    ·by_cases q:cs.getD (cs.length-(n+1)) 0=0
     ·right;intro j hj LM
      by_cases e:j=cs.length-(n+1)
      ·rw[e];exact q
      ·exact ih j (by omega) LM
     ·exact .inl ⟨cs.length-(n+1),by omega,by omega,q,λj h1 h2=>ih j (by omega) h2⟩
  rcases this cs.length (aa _)with⟨l,a0,_,a,b⟩|a
  ·exact⟨l,a0,a,b⟩
  ·exact absurd (a i (by omega) hi) cG
 obtain⟨f,f1,f2⟩:=p1
 obtain⟨l,l0,l1,l2⟩:=p2
 have IL:f<=l:=by
  by_cases q:l<f
  ·exact absurd (f2 l q) l1
  ·omega
 refine⟨f,l+1-f,⟨by omega,f2,λi h1 h2=>l2 i (by omega) h2,.inr ⟨f1,?_⟩⟩,by omega⟩
 rw[show f+(l+1-f)-1=l by omega]
 exact l1
theorem Ri{cs:List Int}(hi:i<m)(hm:f+m<=cs.length):((cs.drop f).take m).getD i 0=cs.getD (f+i) 0:=by simp[aA,bO hi]
theorem Ss{B:Nat}{low:Int}{cs:List Int}(hx:∀x∈cs,bK x)(j:-(B:Int)<=low∧low+cs.length<=B):sU B (uN low cs):=by
 obtain⟨f,m,a⟩:=Trim.ex cs;rw[CD a];by_cases hm:m=0
 ·rw[if_pos hm];exact⟨.inl ⟨rfl,rfl⟩,by simp,by simp⟩
 ·rw[if_neg hm];have hl:((cs.drop f).take m).length=m:=by have:=a.le;simp;omega
  have d:(cs.drop f).take m≠[]:=by intro e;rw[e]at hl;simp at hl;omega
  obtain⟨b,c⟩:=a.ends.resolve_left hm;refine⟨.inr ⟨d,⟨by omega,by intro i hi;omega,by intro i h1 h;omega,.inr ⟨?_,?_⟩⟩⟩,λ_=>?_,λx g=>hx x ?_⟩
  ·simp only;rw[Ri (by omega) a.le];exact b
  ·simp only;rw[hl,Ri (by omega) a.le,show f+(0+m-1)=f+m-1 by omega];exact c
  ·have:=a.le;simp only[hl];omega
  ·exact List.mem_of_mem_drop (gL g)
theorem Su{B:Nat}{p:Poly}(h:sU B p):uN p.1 p.2=p:=by
 rcases h.ends with⟨a,b⟩|⟨a,b⟩
 ·have t:Trim p.2 0 0:=by rw[a];exact⟨by simp,by simp,by simp,.inl rfl⟩
  rw[CD t,if_pos rfl];obtain⟨x,y⟩:=p;simp only at a b;rw[a,b]
 ·have hl:p.2.length≠0:=by intro e;exact a (aB.1 e)
  rw[CD b,if_neg hl];simp
def pP(k:Int)(p:Poly):Poly:=if p.2=[]then(0,[])else(p.1+k,p.2)
theorem PH{low k:Int}{cs:List Int}:uN (low+k) cs=pP k (uN low cs):=by
 obtain⟨f,m,a⟩:=Trim.ex cs;rw[CD a,CD a];by_cases hm:m=0
 ·rw[if_pos hm,if_pos hm];rfl
 ·rw[if_neg hm,if_neg hm];have hl:((cs.drop f).take m).length=m:=by have:=a.le;simp;omega
  have b:(cs.drop f).take m≠[]:=by intro e;rw[e]at hl;simp at hl;omega
  unfold pP;rw[if_neg b];simp only
  congr 1
  omega
def Ny(out:List Int)(i:Nat)(x:Int):List Int:=out.set i (w64 (out.getD i 0+x))
def mD(A:List Int)(off:Nat):Nat->List Int->List Int
 |0,out=>out
 |k+1,out=>Ny (mD A off k out) (off+k) (A.getD k 0)
def tw(A B:List Int)(i:Nat):Nat->List Int->List Int
 |0,out=>out
 |k+1,out=>Ny (tw A B i k out) (i+k) (w64 (A.getD i 0*B.getD k 0))
def mP(A B:List Int):Nat->List Int
 |0=>List.replicate (A.length+B.length-1) 0
 |i+1=>tw A B i B.length (mP A B i)
noncomputable def Ar(a b:Poly):Poly:=if a.2=[]∨b.2=[]then(0,[])else uN (a.1+b.1) (mP a.2 b.2 a.2.length)
def Zi(a b:Poly):List Int:=mD b.2 (b.1-min a.1 b.1).toNat b.2.length (mD a.2 (a.1-min a.1 b.1).toNat a.2.length (List.replicate (max (a.1+a.2.length) (b.1+b.2.length)-min a.1 b.1).toNat 0))
noncomputable def Eo(a b:Poly):Poly:=if a.2=[]then uN b.1 b.2 else if b.2=[]then uN a.1 a.2 else uN (min a.1 b.1) (Zi a b)
theorem awB(n:Int):bK (w64 n):=by unfold w64 bK IntKind.wrap;have e:(2:Int)^64=18446744073709551616:=rfl;have a:(2:Int)^(64-1)=9223372036854775808:=rfl;simp only[IntKind.signed,IntKind.bits,iN,decide_eq_true_eq,e,a];split<;>constructor<;>omega
theorem QM{out:List Int}:(Ny out i x).length=out.length:=by simp[Ny]
theorem QL{out:List Int}(h:∀y∈out,bK y):∀y∈Ny out i x,bK y:=by
 intro y hy;rcases bJ hy with h1|h1
 ·exact h y h1
 ·rw[h1];exact awB _
theorem Ak{A:List Int}{off:Nat}:∀(k:Nat) (out:List Int),(mD A off k out).length=out.length
 |0,_=>rfl
 |k+1,out=>by rw[mD,QM,Ak k]
theorem Aj{A:List Int}{off:Nat}:∀(k:Nat) (out:List Int),(∀y∈out,bK y)->∀y∈mD A off k out,bK y
 |0,_,h=>h
 |k+1,out,h=>QL (Aj k out h)
theorem H9{A B:List Int}{i:Nat}:∀(k:Nat) (out:List Int),(tw A B i k out).length=out.length
 |0,_=>rfl
 |k+1,out=>by rw[tw,QM,H9 k]
theorem VE{A B:List Int}{i:Nat}:∀(k:Nat) (out:List Int),(∀y∈out,bK y)->∀y∈tw A B i k out,bK y
 |0,_,h=>h
 |k+1,out,h=>QL (VE k out h)
theorem Gg{n:Nat}:∀y∈List.replicate n (0:Int),bK y:=by intro y hy;rw[jf hy];exact⟨by omega,by omega⟩
theorem H8{A B:List Int}:∀i,(mP A B i).length=A.length+B.length-1
 |0=>by simp[mP]
 |i+1=>by rw[mP,H9,H8 i]
theorem H7{A B:List Int}:∀i,∀y∈mP A B i,bK y
 |0=>Gg
 |i+1=>VE _ _ (H7 i)
theorem ajz{B:Nat}{a b:Poly}(d:sU B a)(f:sU C b):sU (B+C) (Ar a b):=by
 unfold Ar;split
 ·exact⟨.inl ⟨rfl,rfl⟩,by simp,by simp⟩
 ·rename_i h;have h1:a.2≠[]:=λe=>h (.inl e);have c:b.2≠[]:=λe=>h (.inr e);have l1:a.2.length≠0:=by intro e;exact h1 (aB.1 e)
  have l2:b.2.length≠0:=by intro e;exact c (aB.1 e)
  refine Ss (H7 _) ?_;rw[H8];have:=d.bd h1;have:=f.bd c;omega
theorem RU{B:Nat}{p:Poly}(h:sU B p):sU B (uN p.1 p.2):=by rw[Su h];exact h
theorem ahD{B:Nat}{a b:Poly}(c:sU B a)(d:sU B b):sU B (Eo a b):=by
 unfold Eo;split
 ·exact RU d
 ·rename_i h1;split
  ·exact RU c
  ·rename_i e;refine Ss (Aj _ _ (Aj _ _ Gg)) ?_;unfold Zi;rw[Ak,Ak,fU];have:=c.bd h1;have:=d.bd e;omega
theorem af7{k:Int}{a b:Poly}:Ar (pP k a) b=pP k (Ar a b):=by
 unfold Ar;by_cases h1:a.2=[]
 ·have e:(pP k a).2=[]:=by unfold pP;rw[if_pos h1]
  rw[if_pos (.inl e),if_pos (.inl h1)];rfl
 ·have e:pP k a=(a.1+k,a.2):=by unfold pP;rw[if_neg h1]
  rw[e];by_cases c:b.2=[]
  ·rw[if_pos (.inr c),if_pos (.inr c)];rfl
  ·rw[if_neg (by simp[h1,c]),if_neg (by simp[h1,c])];simp only;rw[show a.1+k+b.1=a.1+b.1+k by omega];exact PH
def CR:Poly:=(-2,[-1,0,0,0,-1])
def Tl:Poly:=(0,[1])
noncomputable def BD:Nat->Poly
 |0=>Tl
 |k+1=>Ar (BD k) CR
noncomputable def Pn(p:Int):Nat->Poly
 |0=>(p,[1])
 |k+1=>Ar (Pn p k) CR
theorem V8(p:Int):∀k,Pn p k=pP p (BD k)
 |0=>by simp[Pn,BD,pP,Tl]
 |k+1=>by rw[Pn,BD,V8 p k,af7]
theorem J0:sU 3 CR:=⟨.inr ⟨by decide,⟨by decide,by decide,λi h1 a=>by omega,.inr ⟨by decide,by decide⟩⟩⟩,by decide,λx hx=>by simp[CR]at hx;unfold bK;omega⟩
def mq(h:a9)(v:Value)(p:Poly):Prop:=∃s,v=.agg #[I p.1,s]∧Vr h cZ s p.2
def CI(h h':a9)(r:Value)(p:Poly):Prop:=ae h h'∧mq h' r p
theorem mq.grow{v:Value}{p:Poly}(x:mq h v p)(g:ae h h'):mq h' v p:=by obtain⟨s,e,r⟩:=x;exact⟨s,e,r.grow g⟩
def B4(cs:List Int)(f:Nat):Prop:=∀i,i<f->cs.getD i 0=0
def B5(cs:List Int)(k:Nat):Prop:=∀i,k<=i->i<cs.length->cs.getD i 0=0
theorem B4.succ{cs:List Int}(x:B4 cs f)(h:cs.getD f 0=0):B4 cs (f+1):=by
 intro i hi;by_cases e:i=f
 ·rw[e];exact h
 ·exact x i (by omega)
theorem B5.pred{cs:List Int}{k:Nat}(x:B5 cs (k+1))(h:cs.getD k 0=0):B5 cs k:=by
 intro i hi a;by_cases e:i=k
 ·rw[e];exact h
 ·exact x i (by omega) a
theorem XH{o n:Nat}(hn:1<=n):gS 3 h (sl b o n 1) (some (I 1)) none none=some (sl b (o+1) (n-1) 1,h):=by have:=Ug (h:=h) (b:=b) (o:=o) (n:=n) (k:=1) hn;simpa using this
theorem k9{o k:Nat}(c:X=[]∨aZ h b o X.length=some (ints X))(a:k<X.length):cell h b (o+k)=some (I (X.getD k 0)):=by rw[eG c a,fR a]
theorem Vr.part{o:Nat}(g:z=1∨X.length=0)(hl:X.length<=100000)(hx:∀x∈X,bK x)(a:X=[]∨aZ h b o X.length=some (Am.ints X))(hm:m≠0)(c:f+m<=X.length):Vr h cZ (sl b (o+f) m 1) ((X.drop f).take m):=by
 have lm:((X.drop f).take m).length=m:=by simp;omega
 have r:=Vr.fY (h:=h) (b:=b) (o:=o+f) (z:=1) (X:=(X.drop f).take m) (.inl rfl) (by rw[lm,cH];omega) (λx d=>hx x (List.mem_of_mem_drop (gL d))) (by
  right;rw[lm];have a:=a.resolve_left (by intro e;rw[e]at c;simp at c;omega);have:=AX (i:=f) (m:=m) a (by omega);rw[this];simp[Am.ints,bH,sy])
 rw[lm]at r;exact r
theorem Zu(h:a9)(hp:0<h.length)(low:Int)(s:Value)(cs:List Int)(Q:Vr h cZ s cs)(hl:cs.length<=100000)(Ap:-1000000<=low∧low<=1000000):aN aE 193 [.agg #[I low,s]] h λr h'=>CI h h' r (uN low cs):=by
 obtain⟨T,eT⟩:=aC (uN low);have tr:=λf m a=>CD (low:=low) (cs:=cs) (f:=f) (m:=m) a;simp only[<-eT]at tr ⊢;obtain⟨b,o,z,rfl,hz,_,hx,c⟩:=Q.ints;have M:z=1∨cs.length=0:=hz.imp id λe=>by rw[e.2];rfl
 have G:=λk hk=>k9 c (k:=k) hk;have N:=λf m hm W=>Vr.part (z:=z) M hl hx c (f:=f) (m:=m) hm W;obtain⟨n,en⟩:=aC cs.length;simp only[<-en]at G hl M N ⊢;clear Q c;refine afq ?_;rw[aw,cy];generalize g:aP aE _ _ 0=K;simp(disch:=omega);subst g;simp only[aq];rw[aw];generalize v:aP aE _ _=PP;have post:∀(σ:Nat->Value) (f:Nat),f<=n->B4 cs f->(n<=f∨cs.getD f 0≠0)->σ 1=.agg #[I (low+f),sl b (o+f) (n-f) z]->σ 2=.agg #[I 0,sl 0 0 0 0]->PP 0 σ h:=by
  intro σ f J zf Y q1 q2;subst v;simp only[aq];rw[aw];generalize v:aP aE _ _=PP;have L:∀(σ:Nat->Value) (m:Nat),f+m<=n->B5 cs (f+m)->(m=0∨cs.getD (f+m-1) 0≠0)->σ 1=.agg #[I (low+f),sl b (o+f) m z]->σ 2=.agg #[I 0,sl 0 0 0 0]->PP 0 σ h:=by
   intro σ m hm A X q1 q2;have t:Trim cs f m:=⟨by omega,zf,λi a b=>A i a b,by
    by_cases e:m=0
    ·exact .inl e
    ·exact .inr ⟨Y.resolve_left (by omega),X.resolve_left e⟩⟩
   subst v;simp only[aq];rw[tr f m t];by_cases q:m=0
   ·subst q;rw[if_pos rfl,aw];generalize g:aP aE _ _=K;simp(disch:=omega)[q1,q2];subst g;simp(disch:=omega);exact⟨ae.refl _,_,rfl,Vr.fY (.inr ⟨rfl,rfl⟩) (by simp) (by simp) (.inl rfl)⟩
   ·have V:¬(m:Int)=0:=by omega
    have d:z=1:=by omega
    have hv:=N f m q (by omega);rw[if_neg q,aw];generalize g:aP aE _ _=K;simp(disch:=omega)[q1,q2,q,V];subst g;simp only[aq];rw[aw,cy];generalize g:aP aE _ _ 0=K;simp(disch:=omega)[q1,q2,d];refine aO (aoJ h _ _ hp hv (by simp;omega)) ?_;rintro w h2⟨g2,o2⟩;obtain⟨wb,wz,rfl,_⟩:=o2.ints;have lm:((cs.drop f).take m).length=m:=by simp;omega
    have S:=o2.vr;rw[lm]at S ⊢;simp(disch:=omega)[q2];subst g;simp(disch:=omega);exact⟨g2,_,rfl,S⟩
  rw[gJ];have l:∀(σ:Nat->Value) (m:Nat),f+m<=n->B5 cs (f+m)->(m=0∨cs.getD (f+m-1) 0≠0)->σ 1=.agg #[I (low+f),sl b (o+f) m z]->σ 2=.agg #[I 0,sl 0 0 0 0]->eY 2 PP 4 σ h:=by intro σ m B C D E F;rw[fk,if_pos (by omega)];exact L σ m B C D E F
  clear L v;generalize eY 2 PP=U at l ⊢;refine aU (λm σ h'=>f+m<=n∧B5 cs (f+m)∧h'=h∧σ 1=.agg #[I (low+f),sl b (o+f) m z]∧σ 2=.agg #[I 0,sl 0 0 0 0]) (λm=>m) (n-f) ?_ ?_
  ·exact⟨by omega,by intro i h1 h2;omega,rfl,q1,q2⟩
  rintro m σ h'⟨hm,A,rfl,q1,q2⟩;by_cases q:m=0
  ·subst q;simp(disch:=omega)[q1];exact l _ 0 hm A (.inl rfl) (by simpa using q1) (by simpa using q2)
  ·obtain⟨j,rfl⟩:∃j,m=j+1:=⟨m-1,by omega⟩;have mp:0<j+1:=by omega
   have u:(0:Int)<(j:Int)+1:=by omega
   have d:z=1:=by omega
   have wk:=cQ ((j:Int)+1-1) j;have O:=cQ (j:Int) j;have c:=G (f+j) (by omega);have R:j<j+1:=by omega
   have y:(j:Int)<(j:Int)+1:=by omega
   rw[<-dR]at c;obtain⟨x,ex⟩:=aC (cs.getD (f+j) 0);rw[<-ex]at c;by_cases p:x=0
   ·subst p;have zm':B5 cs (f+j):=B5.pred A ex.symm;have cut:=Uh (h:=h') (b:=b) (o:=o+f) (n:=j+1) (k:=j) (by omega);simp(disch:=omega)[q1,d,wk,O,mp,u,R,y,c,cut];refine⟨j,?_,by omega⟩;rw[d]at q1;and_intros<;>first|assumption|omega|rfl
   ·simp(disch:=omega)[q1,d,wk,O,mp,u,R,y,c,p];exact l _ (j+1) hm A (.inr (by rw[show f+(j+1)-1=f+j by omega,<-ex];exact p)) (by simpa using q1) (by simpa using q2)
 rw[gJ];have l:∀(σ:Nat->Value) (f:Nat),f<=n->B4 cs f->(n<=f∨cs.getD f 0≠0)->σ 1=.agg #[I (low+f),sl b (o+f) (n-f) z]->σ 2=.agg #[I 0,sl 0 0 0 0]->eY 0 PP 2 σ h:=by intro σ f B C D E F;rw[fk,if_pos (by omega)];exact post σ f B C D E F
 clear post v;generalize eY 0 PP=U at l ⊢;refine aU (λf σ h'=>f<=n∧B4 cs f∧h'=h∧σ 1=.agg #[I (low+f),sl b (o+f) (n-f) z]∧σ 2=.agg #[I 0,sl 0 0 0 0]) (λf=>n-f) 0 ?_ ?_
 ·exact⟨by omega,by intro i h1;omega,rfl,by simp,by simp⟩
 rintro f σ h'⟨J,zf,rfl,q1,q2⟩;by_cases f0:f=n
 ·have Z:n-f=0:=by omega
  simp(disch:=omega)[q1,Z];exact l _ f J zf (.inl (by omega)) (by simpa using q1) (by simpa using q2)
 ·obtain⟨j,P⟩:∃j,n-f=j+1:=⟨n-f-1,by omega⟩;have H:n-(f+1)=j:=by omega
  have mp:0<j+1:=by omega
  have u:(0:Int)<(j:Int)+1:=by omega
  have d:z=1:=by omega
  have c:=G f (by omega);obtain⟨x,ex⟩:=aC (cs.getD f 0);rw[<-ex]at c;have wl:=cQ (low+f+1) (low+((f+1:Nat):Int));rw[P]at q1;by_cases p:x=0
  ·subst p;have zf':B4 cs (f+1):=B4.succ zf ex.symm;have cut:=XH (h:=h') (b:=b) (o:=o+f) (n:=j+1) (by omega);simp only[dV]at cut;simp(disch:=omega)[q1,d,mp,u,c,cut];rw[wl];refine⟨f+1,?_,by omega⟩;rw[d,H]at*;and_intros<;>first|assumption|omega|rfl
  ·simp(disch:=omega)[q1,d,mp,u,c,p];exact l _ f J zf (.inr (by rw[<-ex];exact p)) (by rw[P];simpa using q1) (by simpa using q2)
def SW(h h':a9)(r:Value)(p:Poly):Prop:=ae h h'∧∃s,r=.agg #[I p.1,s]∧Vo h' h.length h'.length cZ s p.2
theorem SW.o{r:Value}{p:Poly}(x:SW h h' r p):CI h h' r p:=by obtain⟨g,s,e,v⟩:=x;exact⟨g,s,e,v.vr⟩
theorem SZ(h:a9)(hp:0<h.length)(low:Int)(s:Value)(cs:List Int)(V:Vr h cZ s cs)(hl:cs.length<=100000)(Ap:-1000000<=low∧low<=1000000):aN aE 527 [I low,s] h λr h'=>SW h h' r (uN low cs):=by
 obtain⟨T,eT⟩:=aC (uN low);have tr:=λf m a=>CD (low:=low) (cs:=cs) (f:=f) (m:=m) a;simp only[<-eT]at tr ⊢;obtain⟨b,o,z,rfl,hz,_,hx,d⟩:=V.ints;have Q:z=1∨cs.length=0:=hz.imp id λe=>by rw[e.2];rfl
 have M:=λk hk=>k9 d (k:=k) hk;have R:=λf m hm LJ=>Vr.part (z:=z) Q hl hx d (f:=f) (m:=m) hm LJ;obtain⟨n,en⟩:=aC cs.length;simp only[<-en]at M hl Q R ⊢;clear V d;refine afq ?_;rw[aw,cy];generalize p:aP aE _ _ 0=K;simp(disch:=omega);subst p;simp only[aq];rw[aw];generalize A:aP aE _ _=PP;have post:∀(σ:Nat->Value) (e:Nat),e<=n->B5 cs e->(e=0∨cs.getD (e-1) 0≠0)->σ 0=I low->σ 1=sl b o e z->σ 4=.agg #[I 0,sl 0 0 0 0]->PP 0 σ h:=by
  intro σ e he D cG g q1 c;subst A;simp only[aq];rw[aw];generalize A:aP aE _ _=PP;have P:∀(σ:Nat->Value) (f:Nat),f<=e->B4 cs f->(e<=f∨cs.getD f 0≠0)->σ 0=I (low+f)->σ 1=sl b (o+f) (e-f) z->σ 4=.agg #[I 0,sl 0 0 0 0]->PP 0 σ h:=by
   intro σ f O zf ML g q1 c;have t:Trim cs f (e-f):=⟨by omega,zf,λi a b=>D i (by omega) b,by
    by_cases y:e-f=0
    ·exact .inl y
    ·exact .inr ⟨ML.resolve_left (by omega),by rw[show f+(e-f)-1=e-1 by omega];exact cG.resolve_left (by omega)⟩⟩
   subst A;simp only[aq];rw[tr f (e-f) t];obtain⟨m,em⟩:=aC (e-f);rw[<-em]at q1 ⊢;by_cases C:m=0
   ·rw[C]at q1;rw[if_pos C,aw];generalize p:aP aE _ _=K;simp(disch:=omega)[q1,c];subst p;simp(disch:=omega);exact⟨ae.refl _,_,rfl,Vo.fY (X:=[]) (.inl rfl) (by simp) (by simp) (.inl rfl)⟩
   ·have EZ:¬(m:Int)=0:=by omega
    have l:z=1:=by omega
    have hv:=R f m C (by omega);rw[if_neg C,aw];generalize p:aP aE _ _=K;simp(disch:=omega)[q1,c,C,EZ];subst p;simp only[aq];rw[aw,cy];generalize p:aP aE _ _ 0=K;simp(disch:=omega)[g,q1,c,l];refine aO (aoM h _ _ hp hv (by simp;omega)) ?_;rintro w h2⟨g2,o2⟩;obtain⟨wb,wz,rfl,_⟩:=o2.ints;have lm:((cs.drop f).take m).length=m:=by simp;omega
    have Y:=o2;rw[lm]at Y ⊢;simp(disch:=omega)[c];subst p;simp(disch:=omega);exact⟨g2,_,rfl,Y⟩
  rw[gJ];have q:∀(σ:Nat->Value) (f:Nat),f<=e->B4 cs f->(e<=f∨cs.getD f 0≠0)->σ 0=I (low+f)->σ 1=sl b (o+f) (e-f) z->σ 4=.agg #[I 0,sl 0 0 0 0]->eY 2 PP 4 σ h:=by intro σ f E F G H J L;rw[fk,if_pos (by omega)];exact P σ f E F G H J L
  clear P A;generalize eY 2 PP=Z at q ⊢;refine aU (λf σ h'=>f<=e∧B4 cs f∧h'=h∧σ 0=I (low+f)∧σ 1=sl b (o+f) (e-f) z∧σ 4=.agg #[I 0,sl 0 0 0 0]) (λf=>e-f) 0 ?_ ?_
  ·exact⟨by omega,by intro i h1;omega,rfl,by simpa using g,by simpa using q1,c⟩
  rintro f σ h'⟨O,zf,rfl,g,q1,c⟩;by_cases f0:f=e
  ·have y:e-f=0:=by omega
   simp(disch:=omega)[q1,y];exact q _ f O zf (.inl (by omega)) (by simpa using g) (by simpa using q1) (by simpa using c)
  ·obtain⟨j,U⟩:∃j,e-f=j+1:=⟨e-f-1,by omega⟩;have N:e-(f+1)=j:=by omega
   have mp:0<j+1:=by omega
   have v:(0:Int)<(j:Int)+1:=by omega
   have l:z=1:=by omega
   have d:=M f (by omega);obtain⟨x,ex⟩:=aC (cs.getD f 0);rw[<-ex]at d;have wl:=cQ (low+f+1) (low+((f+1:Nat):Int));rw[U]at q1;by_cases u:x=0
   ·subst u;have zf':B4 cs (f+1):=B4.succ zf ex.symm;have cut:=XH (h:=h') (b:=b) (o:=o+f) (n:=j+1) (by omega);simp only[dV]at cut;simp(disch:=omega)[g,q1,l,mp,v,d,cut];rw[wl];refine⟨f+1,?_,by omega⟩;rw[l,N]at*;and_intros<;>first|assumption|omega|rfl
   ·simp(disch:=omega)[q1,l,mp,v,d,u];exact q _ f O zf (.inr (by rw[<-ex];exact u)) (by simpa using g) (by rw[U];simpa using q1) (by simpa using c)
 rw[gJ];have q:∀(σ:Nat->Value) (e:Nat),e<=n->B5 cs e->(e=0∨cs.getD (e-1) 0≠0)->σ 0=I low->σ 1=sl b o e z->σ 4=.agg #[I 0,sl 0 0 0 0]->eY 0 PP 2 σ h:=by intro σ e E F G H J L;rw[fk,if_pos (by omega)];exact post σ e E F G H J L
 clear post A;generalize eY 0 PP=Z at q ⊢;refine aU (λe σ h'=>e<=n∧B5 cs e∧h'=h∧σ 0=I low∧σ 1=sl b o e z∧σ 4=.agg #[I 0,sl 0 0 0 0]) (λe=>e) n ?_ ?_
 ·exact⟨by omega,by intro i h1 h2;omega,rfl,by simp,by simp,by simp⟩
 rintro e σ h'⟨he,D,rfl,g,q1,c⟩;by_cases y:e=0
 ·subst y;simp(disch:=omega)[q1];exact q _ 0 he D (.inl rfl) (by simpa using g) (by simpa using q1) (by simpa using c)
 ·obtain⟨j,rfl⟩:∃j,e=j+1:=⟨e-1,by omega⟩;have mp:0<j+1:=by omega
  have v:(0:Int)<(j:Int)+1:=by omega
  have l:z=1:=by omega
  have wk:=cQ ((j:Int)+1-1) j;have S:=cQ (j:Int) j;have d:=M j (by omega);have W:j<j+1:=by omega
  have B:(j:Int)<(j:Int)+1:=by omega
  obtain⟨x,ex⟩:=aC (cs.getD j 0);rw[<-ex]at d;by_cases u:x=0
  ·subst u;have ze':B5 cs j:=B5.pred D ex.symm;have cut:=Uh (h:=h') (b:=b) (o:=o) (n:=j+1) (k:=j) (by omega);simp(disch:=omega)[q1,l,wk,S,mp,v,W,B,d,cut];refine⟨j,?_,by omega⟩;rw[l]at q1;and_intros<;>first|assumption|omega|rfl
  ·simp(disch:=omega)[q1,l,wk,S,mp,v,W,B,d,u];exact q _ (j+1) he D (.inr (by rw[show j+1-1=j by omega,<-ex];exact u)) (by simpa using g) (by simpa using q1) (by simpa using c)
theorem ao3(h:a9)(hp:0<h.length)(low:Int)(s:Value)(cs:List Int)(b:Vr h cZ s cs)(hl:cs.length<=100000)(a:-1000000<=low∧low<=1000000):aN aE 527 [I low,s] h λr h'=>CI h h' r (uN low cs):=
 (SZ h hp low s cs b hl a).mono λ_ _ x=>x.o
theorem GZ{n:Nat}(hn:n<=1000000):nR 1 h (I n) (I n) (.agg #[I 0])=some (sl h.length 0 n 1,h++[⟨ints (List.replicate n 0),true⟩]):=by
 have e:jN n [I 0]=ints (List.replicate n 0):=by
  unfold jN ints;rw[List.map_replicate]
  induction n with
  |zero=>rfl
  |succ n ih=>rw[fJ,cK,ih (by omega)];rfl
 simp only[nR];rw[if_pos ⟨by omega,by omega,by simp[maxSize];omega,rfl⟩];simp[e]
theorem ints_at{k:Nat}{l:List Int}(a:h[b]?=some ⟨ints l,true⟩)(c:k<l.length):cell h b k=some (I (l.getD k 0)):=by have:=k9 (h:=h) (b:=b) (o:=0) (X:=l) (k:=k) (.inr (cI a (by simp[ints]))) c;simpa using this
structure Small (p:Poly):Prop where
 len:p.2.length<=2000
 low:-10000<=p.1∧p.1<=10000
theorem BN{l:List Int}(a:h[b]?=some ⟨ints l,true⟩)(hx:∀x∈l,bK x)(hl:l.length<=1000000):Vr h cZ (sl b 0 l.length 1) l:=
 Vr.fY (.inl rfl) (by rw[cH];omega) hx (.inr (cI a (by simp[ints])))
theorem aoA(h:a9)(hp:0<h.length)(z C:Value)(a b:Poly)(pa:mq h z a)(pb:mq h C b)(sa:Small a)(sb:Small b):aN aE 175 [z,C] h λr h'=>CI h h' r (Ar a b):=by
 obtain⟨o,A⟩:=a;obtain⟨lb,B⟩:=b;obtain⟨s1,rfl,z⟩:=pa;obtain⟨s2,rfl,C⟩:=pb;obtain⟨W,Pv⟩:=sa;obtain⟨V,Hg⟩:=sb;simp only at z C W Pv V Hg ⊢;have mi:=λi=>H7 (A:=A) (B:=B) i;have t:=λi=>H8 (A:=A) (B:=B) i;have s:=λi k=>H9 (A:=A) (B:=B) (i:=i) k (mP A B i);obtain⟨P,eP⟩:=aC (Ar (o,A) (lb,B));have f:=eP;unfold Ar at f;rw[<-eP];obtain⟨b1,o1,z1,rfl,jD,_,lS,uE⟩:=z.ints;obtain⟨b2,o2,z2,rfl,DO,_,Bo,mA⟩:=C.ints;obtain⟨m,em⟩:=aC A.length;obtain⟨n,l⟩:=aC B.length;simp only[<-em,<-l]at uE mA W V t s ⊢;have hA:∀h',ae h h'->∀k,k<m->cell h' b1 (o1+k)=some (I (A.getD k 0)):=λh' g k hk=>g.cell (k9 (em▸uE) (by omega));have hB:∀h',ae h h'->∀k,k<n->cell h' b2 (o2+k)=some (I (B.getD k 0)):=λh' g k hk=>g.cell (k9 (l▸mA) (by omega));refine ag8 λK c=>?_;refine c ?_;rw[aw];generalize c:aP aE _ _=K;by_cases J:m=0
 ·have:A=[]:=aB.1 (by omega);simp only[this,true_or,if_true]at f;simp(disch:=omega)[J];subst c;simp(disch:=omega);rw[f];exact⟨ae.refl _,_,rfl,Vr.fY (.inr ⟨rfl,rfl⟩) (by simp) (by simp) (.inl rfl)⟩
 have U:¬(m:Int)=0:=by omega
 by_cases n0:n=0
 ·have:B=[]:=aB.1 (by omega);simp only[this,or_true,if_true]at f;simp(disch:=omega)[J,U,n0];subst c;simp(disch:=omega);rw[f];exact⟨ae.refl _,_,rfl,Vr.fY (.inr ⟨rfl,rfl⟩) (by simp) (by simp) (.inl rfl)⟩
 have E5:¬(n:Int)=0:=by omega
 have No:A≠[]:=by intro e;rw[e]at em;simp at em;omega
 have Nq:B≠[]:=by intro e;rw[e]at l;simp at l;omega
 simp only[No,Nq,or_self,if_false]at f;rw[<-em]at f;simp(disch:=omega)[J,U,n0,E5];subst c;simp only[aq];obtain⟨N,eN⟩:=aC (m+n-1);have w1:=cQ ((m:Int)+n) ((m:Int)+n);have w2:=cQ ((m:Int)+n-1) N;have w3:=cQ (o+lb) (o+lb);refine bg λK c=>?_;simp(disch:=omega)[w1,w2,w3];rw[GZ (by omega)];simp only[bI];obtain⟨ob,vB⟩:=aC h.length;obtain⟨h1,G⟩:=aC (h++[⟨ints (List.replicate N 0),true⟩]);rw[<-G,<-vB];have g1:ae h h1:=⟨_,G⟩;have E:h1[ob]?=some ⟨ints (mP A B 0),true⟩:=by rw[G,vB];simp[mP,eN,em,l]
 have zL:h.length<=ob:=by omega
 simp(disch:=omega);refine c ?_;obtain⟨S2,Ex⟩:∃S,S=Value.agg #[I o,sl b1 o1 m z1]:=⟨_,rfl⟩;obtain⟨X,yY⟩:∃S,S=Value.agg #[I lb,sl b2 o2 n z2]:=⟨_,rfl⟩;obtain⟨Y,d⟩:∃S,S=Value.agg #[I (o+lb),sl ob 0 N 1]:=⟨_,rfl⟩;rw[aw];generalize hP:aP aE _ _=PP;simp(disch:=omega);refine aU (λi σ h'=>i<=m∧ae h h'∧h'[ob]?=some ⟨ints (mP A B i),true⟩∧σ 3=X∧σ 4=.agg #[I 0,sl 0 0 0 0]∧σ 5=Y∧σ 37=sl b1 o1 m z1∧σ 38=I m∧σ 39=I i) (λi=>m-i) 0 ?_ ?_
 ·exact⟨by omega,g1,E,by simp[yY],by simp,by simp[d],by simp,by simp,by simp⟩
 rintro i σ h'⟨hi,D,hO,q3,M,q5,Se,Z,YL⟩;simp(disch:=omega)[Z,YL];refine aG (λbB=>?_) (λdG=>?_)
 ·have i1:i<m:=by omega
  have ci:=hA h' D i i1;have es:mP A B (i+1)=tw A B i n (mP A B i):=by rw[l];rfl
  have e0:tw A B i 0 (mP A B i)=mP A B i:=rfl;obtain⟨x,ex⟩:=aC (A.getD i 0);rw[<-ex]at ci;rw[oQ,pI,aq,aw];generalize BS:aP aE _ _=BB;rw[gJ];generalize vV:eY _ BB=B1;refine bg λK c=>?_;simp(disch:=omega)[Se,YL,i1,ci];refine c ?_;refine bg λK c=>?_;simp(disch:=omega)[q3,yY];refine c ?_;rw[gJ];refine aU (λk τ p=>k<=n∧ae h p∧p[ob]?=some ⟨ints (tw A B i k (mP A B i)),true⟩∧τ 3=X∧τ 4=.agg #[I 0,sl 0 0 0 0]∧τ 5=Y∧τ 37=sl b1 o1 m z1∧τ 38=I m∧τ 39=I i∧τ 6=I i∧τ 7=I x∧τ 45=sl b2 o2 n z2∧τ 46=I n∧τ 47=I k) (λk=>n-k) 0 ?_ ?_
  ·exact⟨by omega,D,by rw[e0];exact hO,by simpa using q3,by simpa using M,by simpa using q5,by simpa using Se,by simpa using Z,by simpa using YL,by simp,by simp,by simp,by simp,by simp⟩
  rintro k τ p⟨hk,gk,u,t3,t4,t5,t37,t38,O,t6,t7,Q,R,j⟩;simp(disch:=omega)[R,j];refine aG (λbB=>?_) (λdG=>?_)
  ·have E:k<n:=by omega
   have ck:=hB p gk k E;have lK:=s i k;have lI:=t i;have F:tw A B i (k+1) (mP A B i)=(tw A B i k (mP A B i)).set (i+k) (IntKind.i64.wrap ((tw A B i k (mP A B i)).getD (i+k) 0+IntKind.i64.wrap (A.getD i 0*B.getD k 0))):=rfl;obtain⟨y,ey⟩:=aC (B.getD k 0);rw[<-ex,<-ey]at F;rw[<-ey]at ck;obtain⟨L,eL⟩:=aC (tw A B i k (mP A B i));rw[<-eL]at F lK u;have ik:i+k<L.length:=by omega
   have co:=ints_at u ik;obtain⟨v,ev⟩:=aC (L.getD (i+k) 0);rw[<-ev]at co F;have st:=iF (x:=IntKind.i64.wrap (v+IntKind.i64.wrap (x*y))) u (k:=i+k) ik;rw[<-F]at st;obtain⟨h5,H⟩:=aC (p.set ob ⟨ints (tw A B i (k+1) (mP A B i)),true⟩);rw[<-H]at st;have g5:ae h h5:=by rw[H];exact gk.put zL _
   have IJ:h5[ob]?=some ⟨ints (tw A B i (k+1) (mP A B i)),true⟩:=by rw[H];exact jy u
   have T:=cQ ((i:Int)+k) (((i+k:Nat):Int));obtain⟨q,eq⟩:=aC (i+k);rw[<-eq]at T co st;have qN:q<N:=by omega
   simp(disch:=omega)[t5,t6,t7,Q,j,d,E,ck,T,qN,co,st]
   try simp(disch:=omega)[j,wrap64]
   refine⟨k+1,?_,by omega⟩
   try rw[<-d]
   and_intros<;>first|assumption|omega|rfl
  ·have:k=n:=by omega
   subst this;rw[<-es]at u;simp(disch:=omega);subst vV;rw[fk,if_neg (by omega)];subst BS;simp only[aq];simp(disch:=omega)[O,wrap64];refine⟨i+1,?_,by omega⟩;and_intros<;>first|assumption|omega|rfl
 ·have:i=m:=by omega
  subst this;simp(disch:=omega);subst hP;simp only[aq];have hv:=BN hO (mi i) (by rw[t];omega);rw[t i,<-eN]at hv;refine bg λK c=>?_;simp(disch:=omega)[M,q5,d];refine aO (Zu h' (aL hp D) (o+lb) _ _ hv (by rw[t];omega) (by omega)) ?_;rintro r h2⟨g2,w,rfl,v8⟩;obtain⟨wb,wo,wz,rfl,_⟩:=v8.ints;simp(disch:=omega)[M];refine c ?_;simp(disch:=omega);rw[f];exact⟨D.trans g2,_,rfl,v8⟩
theorem aDC(h:a9)(hp:0<h.length)(C D:Value)(a b:Poly)(pa:mq h C a)(pb:mq h D b)(sa:Small a)(sb:Small b):aN aE 523 [C,D] h λr h'=>CI h h' r (Ar a b):=by
 obtain⟨s,A⟩:=a;obtain⟨lb,B⟩:=b;obtain⟨s1,rfl,C⟩:=pa;obtain⟨s2,rfl,D⟩:=pb;obtain⟨X,Pv⟩:=sa;obtain⟨W,Hg⟩:=sb;simp only at C D X Pv W Hg ⊢;have mi:=λi=>H7 (A:=A) (B:=B) i;have u:=λi=>H8 (A:=A) (B:=B) i;have t:=λi k=>H9 (A:=A) (B:=B) (i:=i) k (mP A B i);obtain⟨P,eP⟩:=aC (Ar (s,A) (lb,B));have d:=eP;unfold Ar at d;rw[<-eP];obtain⟨b1,o1,z1,rfl,jD,_,lS,uE⟩:=C.ints;obtain⟨b2,o2,z2,rfl,DO,_,Bo,mA⟩:=D.ints;obtain⟨m,em⟩:=aC A.length;obtain⟨n,j⟩:=aC B.length;simp only[<-em,<-j]at uE mA X W u t ⊢;have hA:∀h',ae h h'->∀k,k<m->cell h' b1 (o1+k)=some (I (A.getD k 0)):=λh' g k hk=>g.cell (k9 (em▸uE) (by omega));have hB:∀h',ae h h'->∀k,k<n->cell h' b2 (o2+k)=some (I (B.getD k 0)):=λh' g k hk=>g.cell (k9 (j▸mA) (by omega));refine ag8 λK c=>?_;refine c ?_;rw[aw];generalize c:aP aE _ _=K;by_cases Q:m=0
 ·have:A=[]:=aB.1 (by omega);simp only[this,true_or,if_true]at d;simp(disch:=omega)[Q];subst c;simp(disch:=omega);rw[d];exact⟨ae.refl _,_,rfl,Vr.fY (.inl rfl) (by simp) (by simp) (.inl rfl)⟩
 have V:¬(m:Int)=0:=by omega
 by_cases n0:n=0
 ·have:B=[]:=aB.1 (by omega);simp only[this,or_true,if_true]at d;simp(disch:=omega)[Q,V,n0];subst c;simp(disch:=omega);rw[d];exact⟨ae.refl _,_,rfl,Vr.fY (.inl rfl) (by simp) (by simp) (.inl rfl)⟩
 have E5:¬(n:Int)=0:=by omega
 have No:A≠[]:=by intro e;rw[e]at em;simp at em;omega
 have Nq:B≠[]:=by intro e;rw[e]at j;simp at j;omega
 simp only[No,Nq,or_self,if_false]at d;rw[<-em]at d;simp(disch:=omega)[Q,V,n0,E5];subst c;simp only[aq];obtain⟨N,eN⟩:=aC (m+n-1);have w1:=cQ ((m:Int)+n) ((m:Int)+n);have w2:=cQ ((m:Int)+n-1) N;have w3:=cQ (s+lb) (s+lb);refine bg λK c=>?_;simp(disch:=omega)[w1,w2];rw[GZ (by omega)];simp only[bI];obtain⟨ob,vB⟩:=aC h.length;obtain⟨h1,H⟩:=aC (h++[⟨ints (List.replicate N 0),true⟩]);rw[<-H,<-vB];have g1:ae h h1:=⟨_,H⟩;have F:h1[ob]?=some ⟨ints (mP A B 0),true⟩:=by rw[H,vB];simp[mP,eN,em,j]
 have zL:h.length<=ob:=by omega
 try simp(disch:=omega)
 refine c ?_;obtain⟨Y,f⟩:∃S,S=Value.agg #[I s,sl b1 o1 m z1]:=⟨_,rfl⟩;obtain⟨Z,o⟩:∃S,S=Value.agg #[I lb,sl b2 o2 n z2]:=⟨_,rfl⟩;rw[aw];generalize hP:aP aE _ _=PP;simp(disch:=omega);refine aU (λi σ h'=>i<=m∧ae h h'∧h'[ob]?=some ⟨ints (mP A B i),true⟩∧σ 2=Y∧σ 3=Z∧σ 4=.agg #[I 0,sl 0 0 0 0]∧σ 5=sl ob 0 N 1∧σ 6=I i) (λi=>m-i) 0 ?_ ?_
 ·exact⟨by omega,g1,F,by simp[f],by simp[o],by simp,by simp,by simp⟩
 rintro i σ h'⟨hi,E,hO,q2,q3,R,q5,q6⟩;simp(disch:=omega)[q2,q6,f];refine aG (λbB=>?_) (λdG=>?_)
 ·have O:i<m:=by omega
  have ci:=hA h' E i O;have es:mP A B (i+1)=tw A B i n (mP A B i):=by rw[j];rfl
  have e0:tw A B i 0 (mP A B i)=mP A B i:=rfl;obtain⟨x,ex⟩:=aC (A.getD i 0);rw[<-ex]at ci;rw[oQ,pI,aq,aw];generalize BS:aP aE _ _=BB;rw[gJ];generalize vV:eY _ BB=B1;refine akW λK c=>?_;refine c ?_;rw[gJ];refine aU (λk τ l=>k<=n∧ae h l∧l[ob]?=some ⟨ints (tw A B i k (mP A B i)),true⟩∧τ 2=Y∧τ 3=Z∧τ 4=.agg #[I 0,sl 0 0 0 0]∧τ 5=sl ob 0 N 1∧τ 6=I i∧τ 7=I k) (λk=>n-k) 0 ?_ ?_
  ·exact⟨by omega,E,by rw[e0];exact hO,by simpa [f]using q2,by simpa using q3,by simpa using R,by simpa using q5,by simpa using q6,by simp⟩
  rintro k τ l⟨hk,M,z,t2,t3,t4,t5,t6,T⟩;simp(disch:=omega)[t3,T,o];refine aG (λbB=>?_) (λdG=>?_)
  ·have F:k<n:=by omega
   have ck:=hB l M k F;have p:=hA l M i O;rw[<-ex]at p;have lK:=t i k;have lI:=u i;have G:tw A B i (k+1) (mP A B i)=(tw A B i k (mP A B i)).set (i+k) (IntKind.i64.wrap ((tw A B i k (mP A B i)).getD (i+k) 0+IntKind.i64.wrap (A.getD i 0*B.getD k 0))):=rfl;obtain⟨y,ey⟩:=aC (B.getD k 0);rw[<-ex,<-ey]at G;rw[<-ey]at ck;obtain⟨L,eL⟩:=aC (tw A B i k (mP A B i));rw[<-eL]at G lK z;have ik:i+k<L.length:=by omega
   have co:=ints_at z ik;obtain⟨v,ev⟩:=aC (L.getD (i+k) 0);rw[<-ev]at co G;have st:=iF (x:=IntKind.i64.wrap (v+IntKind.i64.wrap (x*y))) z (k:=i+k) ik;rw[<-G]at st;obtain⟨h5,J⟩:=aC (l.set ob ⟨ints (tw A B i (k+1) (mP A B i)),true⟩);rw[<-J]at st;have g5:ae h h5:=by rw[J];exact M.put zL _
   have IJ:h5[ob]?=some ⟨ints (tw A B i (k+1) (mP A B i)),true⟩:=by rw[J];exact jy z
   have U:=cQ ((i:Int)+k) (((i+k:Nat):Int));obtain⟨q,eq⟩:=aC (i+k);rw[<-eq]at U co st;have qN:q<N:=by omega
   simp(disch:=omega)[t2,t3,t5,t6,T,f,o,F,O,ck,p,U,qN,co,st]
   try simp(disch:=omega)[T,wrap64]
   refine⟨k+1,?_,by omega⟩
   try rw[<-f]
   try rw[<-o]
   and_intros<;>first|assumption|omega|rfl
  ·have:k=n:=by omega
   subst this;rw[<-es]at z;simp(disch:=omega);subst vV;rw[fk,if_neg (by omega)];subst BS;simp only[aq];simp(disch:=omega)[t6,wrap64];refine⟨i+1,?_,by omega⟩;and_intros<;>first|assumption|omega|(rw[<-f];assumption)|(rw[<-o];assumption)|rfl
 ·have:i=m:=by omega
  subst this;simp(disch:=omega);subst hP;simp only[aq];have hv:=BN hO (mi i) (by rw[u];omega);rw[u i,<-eN]at hv;refine bg λK c=>?_;simp(disch:=omega)[q2,q3,R,q5,f,o,w3];refine aO (ao3 h' (aL hp E) (s+lb) _ _ hv (by rw[u];omega) (by omega)) ?_;rintro r h2⟨g2,w,rfl,v8⟩;obtain⟨wb,wo,wz,rfl,_⟩:=v8.ints;simp(disch:=omega)[R];refine c ?_;simp(disch:=omega);rw[d];exact⟨E.trans g2,_,rfl,v8⟩
end Am

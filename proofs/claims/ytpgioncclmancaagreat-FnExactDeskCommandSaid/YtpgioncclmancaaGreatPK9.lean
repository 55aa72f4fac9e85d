/- Contracts of functions. -/
import Derived.Test.YtpgioncclmancaaGreatPK8
set_option linter.unusedVariables false
set_option linter.unusedSimpArgs false
set_option maxHeartbeats 4000000
set_option maxRecDepth 40000
namespace Am
open Go
variable{h B0 h0 h' h1:a9}{b lo b1 z y m i:Nat}{c x:Int}{Z:List Value}{L:List (List Int)}{K:Value->a9->Prop}{br V:List Int}
theorem Rw.one(a:h[b]?=some ⟨[I c],true⟩):Rw h (Am.sl b 0 1 1) 1 (ints [c]):=
 ⟨b,0,1,1,rfl,by simp[ints],.inr (by simpa [ints]using cI a (n:=1) rfl)⟩
theorem ZQ(X:bW)(c:Int):ke X [c]=(iD X c).2:=by
 unfold ke iD;split
 ·by_cases q:0<=c∧c<bC X
  ·rw[if_pos (by simpa using q),if_pos q]
  ·rw[if_neg (by simpa using q),if_neg q]
 ·rfl
theorem xu.cell{X:bW}(cr:xu h lo (sl b1 0 (bC X) z) Z (yH X))(f:bP B0 h (sl b1 0 (bC X) 1) 1 Z){c:Nat}(g:c<bC X):∃b,cell h b1 c=some (sl b 0 (fq X c).length 4)∧I3 h (sl b 0 (fq X c).length 4) (fq X c):=by
 have hl:c<(yH X).length:=by rw[Gp];exact g
 obtain⟨b,a,j,d,_⟩:=cr.2 c hl;rw[QV hl]at a d;have e:c<Z.length:=by rw[cr.1];exact hl
 have:=f.Jc (i:=c) e;rw[ah e]at a;refine⟨b,?_,AM d⟩;rw[this];simpa using a
theorem aB3(h:a9)(hp:0<h.length)(v:Value)(X:bW)(c:Int)(q:Vr h bU v X):aN aE 112 [v,I c] h λr h'=>RwC h h' r 2 (rN (iD X c).1) (iD X c).2:=by
 have u:=q;have w:=ZQ X c;obtain⟨W,H,br⟩:=X;obtain⟨s,rfl,w1,w2,r⟩:=q.dE;refine afq ?_;rw[aw,cy];generalize d:aP aE _ _ 0=K;simp(disch:=omega);subst d;simp only[aq];rw[aw];generalize d:aP aE _ _=K;have x:aW 1 1 h [(0,.agg #[I 0]),(1,I c)]=some (sl h.length 0 1 1,h++[⟨[I c],true⟩]):=by simp[aW]
 simp(disch:=omega);rw[x];simp only[bI]
 try simp(disch:=omega)
 obtain⟨h0,j⟩:=aC (h++[⟨[I c],true⟩]);rw[<-j];have l:ae h h0:=⟨_,j⟩;have l0:=l.le;have C:h0[h.length]?=some ⟨[I c],true⟩:=by rw[j];simp
 refine aO (aoy h0 (by omega) _ _ (W,H,br) [c] (u.grow l) (Rw.one C) (by simp)) ?_;rintro _ h1⟨g1,rfl⟩;rw[w];have a:=l.trans g1;obtain⟨A,e⟩:=aC (iD (W,H,br) c);have f:=e;unfold iD at e;by_cases k:iv (W,H,br)=true
 rotate_left
 ·rw[if_neg k]at e;rw[<-f,e]at d ⊢;simp(disch:=omega);subst d;simp(disch:=omega);exact⟨_,rfl,Rw.nil,⟨_,_,_,_,rfl⟩,a⟩
 rw[if_pos k]at e;by_cases m:0<=c∧c<bC (W,H,br)
 rotate_left
 ·rw[if_neg m]at e;rw[<-f,e]at d ⊢;simp(disch:=omega);subst d;simp(disch:=omega);exact⟨_,rfl,Rw.nil,⟨_,_,_,_,rfl⟩,a⟩
 rw[if_pos m]at e;rw[<-f,e]at d ⊢;have ok:=dK.1 k;simp(disch:=omega);subst d;simp only[aq];rw[aw,cy];generalize d:aP aE _ _ 0=K;simp(disch:=omega);refine aO (T7 h1 (aL hp a) W H br s ok (r.grow a)) ?_;rintro _ B⟨g2,b1,b2,Z,rfl,t,cr,F,J⟩;simp(disch:=omega);subst d;simp only[aq];obtain⟨p,rfl⟩:=bc m.1;have g:p<bC (W,H,br):=by omega
 obtain⟨E,D,wk⟩:=cr.cell t g;have i:=a.trans g2;simp(disch:=omega)[g,D];refine aO (c45 B (aL hp i) W H br s _ (fq (W,H,br) p) ok (r.grow i) wk (Ca ok g) (by have:=yG ok g;omega)) ?_;rintro L G⟨z,b3⟩;obtain⟨b,o,n,y,rfl⟩:=b3.rw.sl;simp(disch:=omega);exact⟨_,rfl,by simpa using b3.rw,⟨_,_,_,_,rfl⟩,i.trans z⟩
def qY(p:Int×Bool):List UInt8:=(if p.2 then 43 else 45)::bE p.1
def Ij(l:List (Int×Bool)):List UInt8:=du [32] (l.map qY)
theorem FY:∀(l:List (Int×Bool)),(∀p∈l,bK p.1)->∀k,k<=l.length->(du [32] ((l.take k).map qY)).length<=22*k
 |l,hx,0,_=>by simp[du]
 |l,hx,k+1,h=>by
  have ih:=FY l hx k (by omega);rw[aj (by omega),cq,bX,mZ,oI];have:=(dW (hx _ (aD (show k<l.length by omega)))).2;split
  ·simp[qY];omega
  ·simp only[af,dH,qY,az,aF];omega
theorem Ik{v:Value}{l:List (Int×Bool)}(c:Rw h v 2 (rN l)):∃b o y,v=sl b o l.length y∧∀i (hi:i<l.length),aZ h b (o+i*2) 2=some [I l[i].1,B l[i].2]:=by obtain⟨b,o,n,y,rfl,hn,a⟩:=c;obtain⟨e,d⟩:=HW (f:=λp:Int×Bool=>[I p.1,B p.2]) (λ_=>rfl) hn (by omega) a;subst e;exact⟨b,o,y,rfl,d⟩
theorem aB4(h:a9)(hp:0<h.length)(v:Value)(l:List (Int×Bool))(D:Rw h v 2 (rN l))(hl:l.length<=1000)(hx:∀p∈l,bK p.1):aN aE 113 [v] h λr h'=>ae h h'∧r=S (Ij l):=by
 obtain⟨b,o,y,rfl,A⟩:=Ik D;refine ag8 λK s=>?_;refine s ?_;refine akW λK s=>?_;refine s ?_;rw[aw];generalize C:aP aE _ _=PP;simp(disch:=omega);refine aU (λk σ h'=>k<=l.length∧ae h h'∧bP h h' (σ 3) 1 (texts ((l.take k).map qY))∧σ 8=sl b o l.length y∧σ 9=I l.length∧σ 10=I k) (λk=>l.length-k) 0 ?_ ?_
 ·exact⟨by omega,ae.refl _,by simpa [texts]using bP.nil,by simp,by simp,by simp⟩
 ·rintro k σ h'⟨H,a,g,i,x,c⟩;simp(disch:=omega)[x,c];refine aG (λF=>?_) (λG=>?_)
  ·have d:k<l.length:=by omega
   have f:=hx _ (aD d);have w:=a.aZ (A k d);have t:(l.take (k+1)).map qY=(l.take k).map qY++[qY l[k]]:=by rw[aj d,cq];rfl
   obtain⟨u,hu⟩:=aC (l[k]);rw[<-hu]at f w t;obtain⟨ci,cb⟩:=u;have j:=dW f;cases cb
   ·simp(disch:=omega)[i,c,d,w];refine aQ (zC ci f _ (aL hp a)) ?_;rintro _ z⟨rfl,g2⟩;have m:=a.trans g2
    try refine⟨λe=>(by first|exact g2|cases e),?_⟩
    have n:1+(bE ci).length<=4611686018427387904:=by simp only at j;omega
    simp(disch:=omega)[n];refine lN hp (by simp;omega) m (g.grow g2) λE B q b3=>?_
    try simp(disch:=omega)[i,x,c,wrap64]
    refine⟨k+1,⟨by omega,q,?_,by omega⟩,by omega⟩;rw[<-bH,t];exact b3
   ·simp(disch:=omega)[i,c,d,w];refine aQ (zC ci f _ (aL hp a)) ?_;rintro _ z⟨rfl,g2⟩;have m:=a.trans g2
    try refine⟨λe=>(by first|exact g2|cases e),?_⟩
    have n:1+(bE ci).length<=4611686018427387904:=by simp only at j;omega
    simp(disch:=omega)[n];refine lN hp (by simp;omega) m (g.grow g2) λE B q b3=>?_
    try simp(disch:=omega)[i,x,c,wrap64]
    refine⟨k+1,⟨by omega,q,?_,by omega⟩,by omega⟩;rw[<-bH,t];exact b3
  ·have:k=l.length:=by omega
   subst this;have j:=FY l hx l.length (aa _);rw[aK]at g j
   try simp(disch:=omega)
   subst C;simp(disch:=omega);refine aO (TZ _ _ [32] _ g.reads (by omega) (by simp;omega)) ?_;rintro _ z⟨rfl,rfl⟩;simp(disch:=omega);exact⟨a,rfl⟩
theorem aCV(h:a9)(hp:0<h.length)(v:Value)(l:List (Int×Bool))(T:Rw h v 2 (rN l))(hl:l.length<=1000)(hx:∀p∈l,bK p.1):aN aE 405 [v] h λr h'=>ae h h'∧r=S (Ij l):=by
 obtain⟨b,o,y,rfl,O⟩:=Ik T;refine ag8 λK H=>?_;refine H ?_;refine akW λK H=>?_;refine H ?_;rw[aw];generalize Q:aP aE _ _=PP;simp(disch:=omega);refine aU (λk σ h'=>k<=l.length∧ae h h'∧σ 3=S (du [32] ((l.take k).map qY))∧σ 0=sl b o l.length y∧σ 4=I k) (λk=>l.length-k) 0 ?_ ?_
 ·exact⟨by omega,ae.refl _,by simp[du],by simp,by simp⟩
 ·rintro k σ h'⟨R,d,C,p0,f⟩;simp(disch:=omega)[p0,f];refine aG (λU=>?_) (λV=>?_)
  ·have A:k<l.length:=by omega
   have B:=hx _ (aD A);have F:=d.aZ (O k A);have hlen:=FY l hx k R;have N:(l.take (k+1)).map qY=(l.take k).map qY++[qY l[k]]:=by rw[aj A,cq];rfl
   have D:du [32] ((l.take (k+1)).map qY)=(if k=0 then[]else du [32] ((l.take k).map qY)++[32])++qY l[k]:=by
    rw[N,oI];by_cases e:k=0
    ·subst e;simp
    ·have:¬(l.take k).map qY=[]:=by intro q;have:=congrArg List.length q;rw[bL,bu,aF]at this;omega
     rw[if_neg this,if_neg e]
   obtain⟨u,hu⟩:=aC (l[k]);rw[<-hu]at B F N D;obtain⟨ci,cb⟩:=u;simp only at B F;have W:=dW B;have a:=(fQ (i:=0) F (by simp)).1;have c:=(fQ (i:=1) F (by simp)).1;simp only[qI,kg,bA]at a c;obtain⟨J,M⟩:=aC (du [32] ((l.take k).map qY));rw[<-M]at C hlen D;have g:J.length+1<=4611686018427387904:=by omega
   have j:J.length+1+(bE ci).length<=4611686018427387904:=by omega
   have m:J.length+(1+(bE ci).length)<=4611686018427387904:=by omega
   have n:J.length+((bE ci).length+1)<=4611686018427387904:=by omega
   have s:J.length+1+1<=4611686018427387904:=by omega
   have t:J.length+1+1+(bE ci).length<=4611686018427387904:=by omega
   have w:1+(bE ci).length<=4611686018427387904:=by omega
   have x:J.length+(1+1)<=4611686018427387904:=by omega
   have z:J.length+(1+(1+(bE ci).length))<=4611686018427387904:=by omega
   by_cases E:k=0
   ·subst E;have P:J=[]:=by rw[M];simp[du]
    subst P;simp only[te,bA]at a c;cases cb
    ·skip
     simp(disch:=omega)[p0,C,f,A,c,a,g,j,m,n,s,t,w,x,z,wrap64];refine aO (pJ ci B h' (aL hp d)) ?_;rintro _ G⟨rfl,g2⟩;simp(disch:=omega)[p0,f,c,a,g,j,m,n,s,t,w,x,z,wrap64];refine⟨0+1,⟨by omega,d.trans g2,?_,by omega⟩,by omega⟩;rw[<-bH,D];simp[qY]
    ·skip
     simp(disch:=omega)[p0,C,f,A,c,a,g,j,m,n,s,t,w,x,z,wrap64];refine aO (pJ ci B h' (aL hp d)) ?_;rintro _ G⟨rfl,g2⟩;simp(disch:=omega)[p0,f,c,a,g,j,m,n,s,t,w,x,z,wrap64];refine⟨0+1,⟨by omega,d.trans g2,?_,by omega⟩,by omega⟩;rw[<-bH,D];simp[qY]
   ·have L:0<k:=by omega
    rw[if_neg E]at D;cases cb
    ·skip
     simp(disch:=omega)[p0,C,f,A,c,a,g,j,m,n,s,t,w,x,z,wrap64,E,L];refine aO (pJ ci B h' (aL hp d)) ?_;rintro _ G⟨rfl,g2⟩;simp(disch:=omega)[p0,f,c,a,g,j,m,n,s,t,w,x,z,wrap64];refine⟨k+1,⟨by omega,d.trans g2,?_,by omega⟩,by omega⟩;rw[<-bH,D];simp[qY]
    ·skip
     simp(disch:=omega)[p0,C,f,A,c,a,g,j,m,n,s,t,w,x,z,wrap64,E,L];refine aO (pJ ci B h' (aL hp d)) ?_;rintro _ G⟨rfl,g2⟩;simp(disch:=omega)[p0,f,c,a,g,j,m,n,s,t,w,x,z,wrap64];refine⟨k+1,⟨by omega,d.trans g2,?_,by omega⟩,by omega⟩;rw[<-bH,D];simp[qY]
  ·have:k=l.length:=by omega
   subst this;rw[aK]at C;simp(disch:=omega);subst Q;simp(disch:=omega)[C];exact⟨d,rfl⟩
structure uZ (h0 h:a9) (v:Value) (Z:List Value) (L:List (List Int)):Prop where
 buf:bP h0 h v 1 Z
 len:Z.length=L.length
 row:∀i (hi:i<L.length),(L[i]=[]∧Z[i]?=some (sl 0 0 0 1))∨∃b,Z[i]?=some (sl b 0 L[i].length 1)∧h0.length<=b∧h[b]?=some ⟨ints L[i],true⟩∧∀n y,v≠sl b 0 n y
theorem uZ.nil:uZ h0 h (sl 0 0 0 1) [] []:=⟨bP.nil,rfl,by simp⟩
theorem uZ.grow{v:Value}(x:uZ h0 h v Z L)(g:ae h h'):uZ h0 h' v Z L:=
 ⟨x.buf.grow g,x.len,λi hi=>(x.row i hi).imp id λ⟨b,a,c,d,e⟩=>⟨b,a,c,g.at d,e⟩⟩
theorem uZ.app{v w:Value}{R:List Int}(hp:0<h0.length)(g:ae h0 h)(x:uZ h0 h v Z L)(g1:ae h h1)(r:bP h h1 w 1 (ints R))(hl:L.length<=1000)
  (B:∀c h',ae h0 h'->uZ h0 h' c (Z++[w]) (L++[R])->K c h'):gE (aW 1 1 h1 [(0,.agg #[sl 0 0 0 0]),(1,w)]) (λy A=>gE (cu 1 A y v) K):=by
 have a:=x.grow g1;have hw:∃b n,w=sl b 0 n 1:=by
  rcases r with⟨_,e⟩|⟨b,n,e,_⟩
  ·exact⟨0,0,e⟩
  ·exact⟨b,n,e⟩
 obtain⟨wb,wn,rfl⟩:=hw;have t:aW 1 1 h1 [(0,.agg #[sl 0 0 0 0]),(1,sl wb 0 wn 1)]=some (sl h1.length 0 1 1,h1++[⟨[sl wb 0 wn 1],true⟩]):=by simp[aW]
 rw[t];simp only[bI];have D:=g.le;refine AU hp (g.trans g1) (aa _) (g.trans g1).le a.buf rfl (by omega) (by rw[a.len];simp[maxSize];omega) λc h' z l' b' l fr=>?_;refine B c h' z ⟨b',by simp[a.len],λi hi=>?_⟩;by_cases q:i<L.length
 ·rw[dY q,ai (by rw[a.len];exact q)];rcases a.row i q with e|⟨b,o,p,j,s⟩
  ·exact .inl e
  ·refine .inr ⟨b,o,p,fr b _ j λn=>s n 1,λn y e=>?_⟩;have:=l _ _ _ e;have:=bZ j;omega
 ·have:i=L.length:=by simp at hi;omega
  subst this;rw[fG (by omega),aX (by rw[a.len];exact aa _),a.len];simp only[gN,gG,gd];rcases r with⟨d,f⟩|⟨b,n,d,f,E,k⟩
  ·left;have:R=[]:=by simpa [ints]using d
   refine⟨this,by rw[f]⟩
  ·right;have u:n=R.length:=by simpa [ints]using f
   refine⟨b,by rw[d,u],by omega,?_,λm y e=>?_⟩
   ·refine fr b _ k λm e=>?_;rcases x.buf with⟨_,q2⟩|⟨b2,n2,q2,_,_,C⟩
    ·rw[q2]at e;simp[sl]at e<;>omega
    ·rw[q2]at e;simp[sl]at e;have:=bZ C;omega
   ·have:=l _ _ _ e;have:=bZ k;omega
def tJ(h:a9)(v:Value)(L:List (List Int)):Prop:=∃b o y,v=sl b o L.length y∧∀i (hi:i<L.length),∃w,cell h b (o+i)=some w∧Vr h cZ w L[i]
theorem tJ.grow{v:Value}(x:tJ h v L)(g:ae h h'):tJ h' v L:=by obtain⟨b,o,y,e,c⟩:=x;refine⟨b,o,y,e,λi hi=>?_⟩;obtain⟨w,c1,c2⟩:=c i hi;exact⟨w,g.cell c1,c2.grow g⟩
theorem tJ.nil:tJ h (sl 0 0 0 y) []:=⟨0,0,y,rfl,by simp⟩
theorem uZ.read{v:Value}(x:uZ h0 h v Z L)(hx:∀R∈L,R.length<=1048576∧∀x∈R,bK x):tJ h v L:=by
 obtain⟨b,e⟩:=x.buf.nw;have d:=x.buf;rw[e,x.len]at d;refine⟨b,0,1,by rw[e,x.len],λi hi=>?_⟩;have c:i<Z.length:=by rw[x.len];exact hi
 have g:=d.Jc (i:=i) c;obtain⟨l,j⟩:=hx _ (aD hi);refine⟨Z[i],by simpa using g,?_⟩;rcases x.row i hi with⟨q1,q2⟩|⟨b2,a,k,f,_⟩
 ·rw[ah c]at q2;injection q2 with q2;rw[q2,q1];exact Vr.fY (.inl rfl) (by simp) (by simp) (.inl rfl)
 ·rw[ah c]at a;injection a with a;rw[a];exact Vr.fY (.inl rfl) (by rw[cH];omega) j (.inr (cI f (by simp[ints])))
def qk(p:Int×Bool):Int:=if p.2 then p.1+1 else -p.1-1
noncomputable def ug(X:bW)(c:Nat):List Int:=(qq X.1.toNat X.2.1.toNat X.2.2 (fq X c)).map qk
noncomputable def wi(X:bW)(k:Nat):List (List Int):=(List.range k).map (ug X)
noncomputable def lQ(X:bW):List (List Int)×Int:=if iv X then(if 40<bC X then([],5)else(wi X (bC X),0))else([],1)
theorem NQ(X:bW)(k:Nat):wi X (k+1)=wi X k++[ug X k]:=by simp[wi,dN]
theorem Jj(X:bW)(k:Nat):(wi X k).length=k:=by simp[wi]
theorem V1{W H:Nat}{ws:List Wk}(a:br.length<=112):∀p∈qq W H br ws,0<=p.1∧p.1<=112:=by
 intro p hp;unfold qq at hp;obtain⟨w,_,e⟩:=pq.1 hp;unfold xd at e;split at e
 ·injection e with e;have h1:lU br (jd W (w.1+w.2.2.1).toNat (w.2.1+w.2.2.2).toNat)<=112:=by unfold lU;have h1:=mY (λx=>decide (x=0)) (br.take (jd W (w.1+w.2.2.1).toNat (w.2.1+w.2.2.2).toNat));rw[bu]at h1;omega
  rw[<-e];simp only;omega
 ·cases e
theorem HL{X:bW}(ok:fg X){c:Nat}(b:c<bC X):(ug X c).length<=256∧∀x∈ug X c,-113<=x∧x<=113:=by
 have a:X.2.2.length<=112:=by obtain⟨W,H,br⟩:=X;exact jH ok
 refine⟨?_,?_⟩
 ·unfold ug;rw[bL];exact a7 Ii (yG ok b)
 ·intro x hx;unfold ug at hx;obtain⟨p,hp,rfl⟩:=bj.1 hx;have:=V1 a p hp;unfold qk;split<;>omega
theorem Mv{X:bW}(ok:fg X){k:Nat}(d:k<=bC X):∀R∈wi X k,R.length<=256∧∀x∈R,-113<=x∧x<=113:=by intro R a;unfold wi at a;obtain⟨c,b,rfl⟩:=bj.1 a;exact HL ok (by have:=da.1 b;omega)
theorem oa{v:Value}{l:List Int}(hp:0<h.length)(g:ae h h')(hl:l.length<=100000)(e:bP h h' v 1 (ints l))
  (d:∀b a,ae h a->bP h a b 1 (ints (l++[x]))->K b a):gE (aW 1 1 h' [(0,.agg #[I 0]),(1,I x)]) (λy a=>gE (cu 1 a y v) K):=by
 have c:aW 1 1 h' [(0,.agg #[I 0]),(1,I x)]=some (sl h'.length 0 1 1,h'++[⟨[I x],true⟩]):=by simp[aW]
 rw[c];simp only[bI];refine AU hp g (aa _) g.le e rfl (by omega) (by simp[ints,maxSize];omega) λb a g2 _ b2 _ _=>?_;exact d b a g2 (by simpa [ints]using b2)
def akg(h h':a9)(r:Value)(L:List (List Int))(c:Int):Prop:=∃v,r=.tuple #[v,I c]∧tJ h' v L∧ae h h'
theorem c68(h:a9)(hp:0<h.length)(v:Value)(X:bW)(hv:Vr h bU v X):aN aE 68 [v] h λr h'=>akg h h' r (lQ X).1 (lQ X).2:=by
 have dD:=hv;obtain⟨W,H,br⟩:=X;obtain⟨s,rfl,w1,w2,r⟩:=hv.dE;refine afq ?_;rw[aw,cy];generalize d:aP aE _ _ 0=K;simp(disch:=omega);subst d;simp only[aq];rw[aw];generalize d:aP aE _ _=K;simp(disch:=omega);refine aO (B7 _ _ h dD) ?_;rintro _ h1⟨rfl,rfl⟩;cases A:iv (W,H,br)
 ·have m:lQ (W,H,br)=([],1):=by simp[lQ,A]
  rw[m]at d;simp(disch:=omega);subst d;simp(disch:=omega);exact⟨_,rfl,tJ.nil,ae.refl _⟩
 have ok:=dK.1 A;have hN:=mf ok;simp(disch:=omega);subst d;simp only[aq];rw[aw,cy];generalize d:aP aE _ _ 0=K;simp(disch:=omega);refine aO (T7 h1 hp W H br s ok r) ?_;rintro _ D⟨g2,b1,b2,Z,rfl,bz,cr,fC,hO⟩;simp(disch:=omega);subst d;simp only[aq];rw[aw];generalize d:aP aE _ _=K;simp(disch:=omega);refine aG (λOd=>?_) (λOd=>?_)
 ·have m:lQ (W,H,br)=([],5):=by simp[lQ,A];omega
  rw[m]at d;simp(disch:=omega);subst d;simp(disch:=omega);exact⟨_,rfl,tJ.nil,g2⟩
 have m:lQ (W,H,br)=(wi (W,H,br) (bC (W,H,br)),0):=by simp[lQ,A];omega
 rw[m]at d;simp(disch:=omega);subst d;simp only[aq];rw[aw,cy];generalize d:aP aE _ _ 0=K;simp(disch:=omega);subst d;simp only[aq];have E:=aL hp g2;obtain⟨N,eN⟩:=aC (bC (W,H,br));have db:∀c,c<N->∃b,cell D b1 c=some (sl b 0 (fq (W,H,br) c).length 4)∧I3 D (sl b 0 (fq (W,H,br) c).length 4) (fq (W,H,br) c):=λc Q=>cr.cell bz (by omega);have GP:∀c,c<N->(ug (W,H,br) c).length<=256∧∀x∈ug (W,H,br) c,-113<=x∧x<=113:=λc Q=>HL ok (by omega);have kx:=Mv ok (k:=N) (by omega);have T:∀c,c<N->(fq (W,H,br) c).length<=256:=λc Q=>yG ok (by omega);have Yo:∀c,c<N->∀w∈fq (W,H,br) c,sj W.toNat H.toNat w:=λc Q=>Ca ok (by omega);rw[<-eN]at hN Od ⊢;rw[aw];generalize hP:aP aE _ _=PP;simp(disch:=omega);refine aU (λk σ h'=>k<=N∧ae D h'∧(∃Z',uZ D h' (σ 6) Z' (wi (W,H,br) k))∧σ 1=.agg #[I W,I H,s]∧σ 24=sl b1 0 N 1∧σ 25=I N∧σ 26=I k) (λk=>N-k) 0 ?_ ?_
 ·exact⟨by omega,ae.refl _,⟨[],by simpa [wi]using uZ.nil⟩,by simp,by simp,by simp,by simp⟩
 ·rintro k σ h'⟨hk,g,⟨Z',ro⟩,q1,L4,L6,YJ⟩;simp(disch:=omega)[L6,YJ];refine aG (λbB=>?_) (λdG=>?_)
  ·have q:k<N:=by omega
   obtain⟨bb,sA,wk⟩:=db k q;have sA:=g.cell sA;have wk:=wk.grow g;have P:=GP k q;have Rn:=g2.trans g;simp(disch:=omega)[q1,L4,YJ,q,sA];refine aO (c45 h' (aL E g) W H br s _ (fq (W,H,br) k) ok (r.grow Rn) wk (Yo k q) (by have:=T k q;omega)) ?_;rintro r3 h3⟨B,b3⟩;obtain⟨a,n⟩:=aC (qq W.toNat H.toNat br (fq (W,H,br) k));rw[<-n]at b3;have iJ:ug (W,H,br) k=a.map qk:=by rw[n];rfl
   rw[iJ]at P;obtain⟨pb,po,py,rfl,L⟩:=Ik b3.rw;have oS:a.length<=256:=by have:=P.1;rw[bL]at this;exact this
   simp(disch:=omega);refine aU (λj τ S=>j<=a.length∧ae h3 S∧bP h3 S (τ 9) 1 (ints ((a.take j).map qk))∧τ 1=.agg #[I W,I H,s]∧τ 6=σ 6∧τ 24=sl b1 0 N 1∧τ 25=I N∧τ 26=I k∧τ 33=sl pb po a.length py∧τ 34=I a.length∧τ 35=I j) (λj=>a.length-j) 0 ?_ ?_
   ·exact⟨by omega,ae.refl _,by simpa [ints]using bP.nil,by simpa using q1,by simp,by simpa using L4,by simpa using L6,by simpa using YJ,by simp,by simp,by simp⟩
   ·rintro j τ S⟨hj,C,z,V,Y,G,J,i,f,l,e⟩;simp(disch:=omega)[l,e];refine aG (λOI=>?_) (λOH=>?_)
    ·have p:j<a.length:=by omega
     have U:=C.aZ (L j p);have mN:qk a[j]∈a.map qk:=bj.2 ⟨_,aD p,rfl⟩;have F:=P.2 _ mN;have t:(a.take (j+1)).map qk=(a.take j).map qk++[qk a[j]]:=by rw[aj p,cq];rfl
     have o:((a.take j).map qk).length<=100000:=by rw[bL,bu];omega
     obtain⟨u,hu⟩:=aC (a[j]);rw[<-hu]at U F t;obtain⟨ci,cb⟩:=u;cases cb
     ·have O:qk (ci,false)=-ci-1:=rfl;rw[O]at F t;have e2:=cQ (-ci) (-ci);simp(disch:=omega)[f,e,p,U];rw[e2,wrap64 (by omega) (by omega)];refine oa (aL (aL E g) B) C o z λv4 h4 g4 M=>?_;simp(disch:=omega)[V,Y,G,J,i,f,l,e,wrap64];rw[<-t]at M;refine⟨j+1,?_,by omega⟩;and_intros<;>first|assumption|omega|(rw[<-bH];assumption)
     ·have O:qk (ci,true)=ci+1:=rfl;rw[O]at F t;simp(disch:=omega)[f,e,p,U];rw[wrap64 (by omega) (by omega)];refine oa (aL (aL E g) B) C o z λv4 h4 g4 M=>?_;simp(disch:=omega)[V,Y,G,J,i,f,l,e,wrap64];rw[<-t]at M;refine⟨j+1,?_,by omega⟩;and_intros<;>first|assumption|omega|(rw[<-bH];assumption)
    ·have:j=a.length:=by omega
     subst this;rw[aK,<-iJ]at z;simp(disch:=omega)[Y];refine uZ.app E g ro (B.trans C) (z.base B.le) (by rw[Jj];omega) λv6 h6 g6 y=>?_;rw[<-NQ]at y;simp(disch:=omega)[V,G,J,i,wrap64];refine⟨k+1,?_,by omega⟩;and_intros<;>first|assumption|omega|exact⟨_,y⟩
  ·have:k=N:=by omega
   subst this;have rr:=ro.read λR hR=>⟨by have:=(kx R hR).1;omega,λx hx=>by have:=(kx R hR).2 x hx;unfold bK;omega⟩;obtain⟨b6,e6⟩:=ro.buf.nw;rw[e6]at rr;simp(disch:=omega);subst hP;simp(disch:=omega)[e6];exact⟨_,rfl,rr,g2.trans g⟩
theorem aDr(h:a9)(hp:0<h.length)(v:Value)(X:bW)(Z:gY h v X)(ok:fg X)(Od:bC X<=40):aN aE 508 [v] h λr h'=>tJ h' r (wi X (bC X))∧ae h h':=by
 have hN:=mf ok;have J:=Mv ok (k:=bC X) (aa _);have T:∀c,c<bC X->(ug X c).length<=256∧∀x∈ug X c,-113<=x∧x<=113:=λc G=>HL ok G;have g:∀c:Nat,c<bC X->iD X c=(qq X.1.toNat X.2.1.toNat X.2.2 (fq X c),0):=by
  intro c G;have:(0:Int)<=c∧(c:Int)<bC X:=by omega
  simp[iD,dK.2 ok,G]
 refine ag8 λK d=>?_;refine d ?_;refine akW λK d=>?_;refine d ?_;refine akW λK d=>?_;refine aO (HF h hp v X Z ok) ?_;rintro _ h1⟨g1,rfl⟩
 try simp(disch:=omega)
 refine d ?_;have w:=aL hp g1;obtain⟨N,eN⟩:=aC (bC X);rw[<-eN]at hN Od J T g ⊢;rw[aw];generalize hP:aP aE _ _=PP;simp(disch:=omega);refine aU (λk σ h'=>k<=N∧ae h1 h'∧(∃U,uZ h1 h' (σ 3) U (wi X k))∧σ 0=v∧σ 4=I N∧σ 5=I k) (λk=>N-k) 0 ?_ ?_
 ·exact⟨by omega,ae.refl _,⟨[],by simpa [wi]using uZ.nil⟩,by simp,by simp,by simp⟩
 ·rintro k σ h'⟨hk,b,⟨U,ro⟩,q0,q4,M⟩;simp(disch:=omega)[q4,M];refine aG (λbB=>?_) (λdG=>?_)
  ·have k1:k<N:=by omega
   have F:=T k k1;have Rn:=g1.trans b;simp(disch:=omega)[q0,M];refine aO (aoY h' (aL w b) v X k (Z.grow Rn)) ?_;rintro _ W⟨v3,rfl,b3,_,s⟩;rw[g k k1]at b3 ⊢;obtain⟨a,e⟩:=aC (qq X.1.toNat X.2.1.toNat X.2.2 (fq X k));rw[<-e]at b3;have iJ:ug X k=a.map qk:=by rw[e];rfl
   rw[iJ]at F;obtain⟨pb,po,py,rfl,z⟩:=Ik b3;have oS:a.length<=256:=by have:=F.1;rw[bL]at this;exact this
   simp(disch:=omega);refine aU (λj τ H=>j<=a.length∧ae W H∧bP W H (τ 8) 1 (ints ((a.take j).map qk))∧τ 0=v∧τ 3=σ 3∧τ 4=I N∧τ 5=I k∧τ 6=sl pb po a.length py∧τ 9=I j) (λj=>a.length-j) 0 ?_ ?_
   ·exact⟨by omega,ae.refl _,by simpa [ints]using bP.nil,by simpa using q0,by simp,by simpa using q4,by simpa using M,by simp,by simp⟩
   ·rintro j τ H⟨hj,t,q,O,P,Q,S,n,o⟩;simp(disch:=omega)[n,o];refine aG (λOI=>?_) (λOH=>?_)
    ·have l:j<a.length:=by omega
     have L:=t.aZ (z j l);have mN:qk a[j]∈a.map qk:=bj.2 ⟨_,aD l,rfl⟩;have y:=F.2 _ mN;have m:(a.take (j+1)).map qk=(a.take j).map qk++[qk a[j]]:=by rw[aj l,cq];rfl
     have f:((a.take j).map qk).length<=100000:=by rw[bL,bu];omega
     obtain⟨u,hu⟩:=aC (a[j]);rw[<-hu]at L y m;obtain⟨ci,cb⟩:=u;have B:=(fQ (i:=0) L (by simp)).1;have C:=(fQ (i:=1) L (by simp)).1;simp only[gd,jn,bA]at B C;cases cb
     ·have E:qk (ci,false)=-ci-1:=rfl;rw[E]at y m;have D:=cQ (ci+1) (ci+1);have e2:=cQ (-(ci+1)) (-ci-1);simp(disch:=omega)[n,o,l,B,C,D];rw[e2];refine oa (aL (aL w b) s) t f q λv4 h4 g4 A=>?_;simp(disch:=omega)[O,P,Q,S,n,o,wrap64];rw[<-m]at A;refine⟨j+1,?_,by omega⟩;and_intros<;>first|assumption|omega|(rw[<-bH];assumption)
     ·have E:qk (ci,true)=ci+1:=rfl;rw[E]at y m;have D:=cQ (ci+1) (ci+1);simp(disch:=omega)[n,o,l,B,C,D];refine oa (aL (aL w b) s) t f q λv4 h4 g4 A=>?_;simp(disch:=omega)[O,P,Q,S,n,o,wrap64];rw[<-m]at A;refine⟨j+1,?_,by omega⟩;and_intros<;>first|assumption|omega|(rw[<-bH];assumption)
    ·have:j=a.length:=by omega
     subst this;rw[aK,<-iJ]at q;simp(disch:=omega)[P];refine uZ.app w b ro (s.trans t) (q.base s.le) (by rw[Jj];omega) λv6 h6 g6 p=>?_;rw[<-NQ]at p;simp(disch:=omega)[O,Q,S,wrap64];refine⟨k+1,?_,by omega⟩;and_intros<;>first|assumption|omega|exact⟨_,p⟩
  ·have:k=N:=by omega
   subst this;have rr:=ro.read λR Y=>⟨by have:=(J R Y).1;omega,λx hx=>by have:=(J R Y).2 x hx;unfold bK;omega⟩;obtain⟨b6,V⟩:=ro.buf.nw;rw[V]at rr;simp(disch:=omega);subst hP;simp(disch:=omega)[V];exact⟨rr,g1.trans b⟩
theorem aCE(h:a9)(hp:0<h.length)(v:Value)(X:bW)(m:Vr h bU v X):aN aE 337 [v] h λr h'=>akg h h' r (lQ X).1 (lQ X).2:=by
 obtain⟨W,H,br⟩:=X;obtain⟨s,rfl,w1,w2,r⟩:=m.dE;refine afq ?_;rw[aw,cy];generalize a:aP aE _ _ 0=K;simp(disch:=omega);obtain⟨h0,f⟩:=aC (h++[⟨[I W,I H,s],true⟩]);rw[<-f];have e:ae h h0:=⟨_,f⟩;have l0:=e.le;have n:h0[h.length]?=some ⟨[I W,I H,s],true⟩:=by rw[f];simp
 have pp:gY h0 (pt h.length 0) (W,H,br):=gY.at n (r.grow e) w1 w2;subst a;simp only[aq];rw[aw];generalize a:aP aE _ _=K;simp(disch:=omega);refine aO (An _ (W,H,br) h0 pp) ?_;rintro _ h1⟨rfl,rfl⟩;cases d:iv (W,H,br)
 ·have c:lQ (W,H,br)=([],1):=by simp[lQ,d]
  rw[c]at a;simp(disch:=omega);subst a;simp(disch:=omega);exact⟨_,rfl,tJ.nil,e⟩
 have ok:=dK.1 d;simp(disch:=omega);subst a;simp only[aq];rw[aw];generalize a:aP aE _ _=K;simp(disch:=omega);refine aO (HF h1 (by omega) _ (W,H,br) pp ok) ?_;rintro _ l⟨g2,rfl⟩;have i:=e.trans g2;simp(disch:=omega);refine aG (λj=>?_) (λj=>?_)
 ·have c:lQ (W,H,br)=([],5):=by simp[lQ,d];omega
  rw[c]at a;simp(disch:=omega);subst a;simp(disch:=omega);exact⟨_,rfl,tJ.nil,i⟩
 have c:lQ (W,H,br)=(wi (W,H,br) (bC (W,H,br)),0):=by simp[lQ,d];omega
 rw[c]at a;simp(disch:=omega);subst a;simp only[aq];simp(disch:=omega);refine aO (aDr l (aL (by omega) g2) _ (W,H,br) (pp.grow g2) ok (by omega)) ?_;rintro q p⟨rr,k⟩;have g:=rr;obtain⟨b,o,y,rfl,_⟩:=g;simp(disch:=omega);exact⟨_,rfl,rr,i.trans k⟩
def Kj(m:Nat)(x:Int):Bool:=decide (x≠0)&&decide (-(m:Int)<=x∧x<=m)
def codeOk(L:List (List Int)):Bool:=decide (L.length<=40)&&(decide (L.flatten.length%2=0)&&(decide (L.flatten.length/2<=120)&&(L.flatten.all (Kj (L.flatten.length/2))&&decide L.flatten.Nodup)))
def qZ(m:Nat)(V:List Int):List Value:=(List.range (2*m+1)).map λ(s:Nat)=>B (decide ((s:Int)-m∈V))
theorem Di:(qZ m V).length=2*m+1:=by simp[qZ]
theorem agX:qZ m []=List.replicate (2*m+1) (B false):=by
 unfold qZ;apply gz
 ·simp
 ·intro i h1 a;simp
theorem Wo(h:-(m:Int)<=x∧x<=m):(qZ m V)[(x+m).toNat]?=some (B (decide (x∈V))):=by
 have h1:(x+m).toNat<(qZ m V).length:=by rw[Di];omega
 rw[ah h1];simp only[qZ,iP,mG];rw[show(((x+m).toNat:Nat):Int)-m=x by omega]
theorem Sm(h:-(m:Int)<=x∧x<=m):(qZ m V).set (x+m).toNat (B true)=qZ m (V++[x]):=by
 apply gz
 ·rw[aS,Di,Di]
 ·intro i h1 a;rw[iQ];simp only[qZ,iP,mG,cS,fS];by_cases e:(x+m).toNat=i
  ·rw[if_pos e];have:(i:Int)-m=x:=by omega
   simp[this]
  ·rw[if_neg e];have:¬(i:Int)-m=x:=by omega
   simp[this]
structure xE (m:Nat) (V:List Int):Prop where
 ok:V.all (Kj m)=true
 nd:V.Nodup
theorem xE.nil:xE m []:=⟨rfl,List.nodup_nil⟩
theorem xE.snoc(s:xE m V)(h1:Kj m x=true)(d:x∉V):xE m (V++[x]):=by refine⟨by simp[s.ok,h1],?_⟩;rw[kS];refine⟨s.nd,by simp,?_⟩;intro a e b c;simp at c;rintro rfl;exact d (c▸e)
theorem UG{k:Nat}(hi:i<L.length)(e:k<L[i].length):∃r,L.flatten=((L.take i).flatten++L[i].take k)++L[i][k]::r:=by
 refine⟨L[i].drop (k+1)++(L.drop (i+1)).flatten,?_⟩;have b:L=L.take i++L[i]::L.drop (i+1):=by rw[<-bt hi,gb]
 have c:L[i]=L[i].take k++L[i][k]::L[i].drop (k+1):=by rw[<-bt e,gb]
 conv=>lhs;rw[b]
 rw[j9,cK];have d:L[i]++(L.drop (i+1)).flatten=L[i].take k++L[i][k]::(L[i].drop (k+1)++(L.drop (i+1)).flatten):=by exact(congrArg (λa=>a++(L.drop (i+1)).flatten) c).trans (by simp only[cC,fx])
 rw[d,cC]
theorem Uc{r:List Int}(e:L.flatten=V++x::r)(a:Kj (L.flatten.length/2) x=false∨x∈V):codeOk L=false:=by
 rcases a with h|h
 ·have:L.flatten.all (Kj (L.flatten.length/2))=false:=by rw[afy];exact⟨x,by rw[e];simp,by rw[h];simp⟩
  unfold codeOk;rw[this];simp
 ·have:decide L.flatten.Nodup=false:=by rw[decide_eq_false_iff_not,e];intro hn;have:=(kS.1 hn).2.2 x h x (by simp);exact this rfl
  unfold codeOk;rw[this];simp
theorem QT(h1:L.length<=40)(a:L.flatten.length%2=0)(b:L.flatten.length/2<=120)(s:xE (L.flatten.length/2) L.flatten):codeOk L=true:=by unfold codeOk;simp only[aH,decide_eq_true_eq];exact⟨h1,a,b,s.ok,s.nd⟩
theorem AD(hi:i<L.length):(L.take (i+1)).flatten=(L.take i).flatten++L[i]:=by rw[aj hi,j9];simp
theorem K1(i:Nat):(L.take i).flatten.length<=L.flatten.length:=by
 conv=>rhs;rw[<-gb i L,j9,af]
 omega
theorem aDt(h:a9)(v:Value)(L:List (List Int))(n:tJ h v L)(hl:L.length<=100000)(s:L.flatten.length<=1000000):aN aE 510 [v] h λr h'=>r=I L.flatten.length∧h'=h:=by
 obtain⟨b,o,y,rfl,l⟩:=n;refine ag8 λK c=>?_;refine c ?_;refine akW λK c=>?_;refine c ?_;simp(disch:=omega);refine aU (λk σ h'=>h'=h∧k<=L.length∧σ 0=sl b o L.length y∧σ 3=I (L.take k).flatten.length∧σ 4=I k) (λk=>L.length-k) 0 ?_ ?_
 ·exact⟨rfl,by omega,by simp,by simp,by simp⟩
 ·rintro k σ h'⟨rfl,t,g,f,i⟩;simp(disch:=omega)[g,i];refine aG (λp=>?_) (λq=>?_)
  ·have d:k<L.length:=by omega
   obtain⟨w,c1,vr⟩:=l k d;obtain⟨wb,u,wz,rfl,_⟩:=vr.ints;have j:=K1 (L:=L) (k+1);have e:=AD d;rw[e,af]at j;simp(disch:=omega)[g,f,i,d,c1];refine⟨k+1,?_,by omega⟩;have a:IntKind.i64.wrap (((L.take k).flatten.length:Int)+L[k].length)=(((L.take (k+1)).flatten.length:Nat):Int):=by rw[wrap64 (by omega) (by omega),e,af];simp
   have m:=cQ ((k:Int)+1) (((k+1:Nat):Int));simp only[List.length_flatten]at a;and_intros<;>first|assumption|omega|rfl|exact a|exact m|simpa using a
  ·have:k=L.length:=by omega
   subst this;rw[aK]at f;simp(disch:=omega)[f]
theorem RM(hm:m<=1000):nR 1 h (I (2*(m:Int)+1)) (I (2*(m:Int)+1)) (.agg #[B false])=some (sl h.length 0 (2*m+1) 1,h++[⟨qZ m [],true⟩]):=by
 have e:(2*(m:Int)+1).toNat=2*m+1:=by omega
 simp only[nR,e];rw[if_pos ⟨by omega,by omega,by simp[maxSize];omega,by simp⟩,agX];have:jN (2*m+1) [B false]=List.replicate (2*m+1) (B false):=by
  unfold jN
  induction (2*m+1)with
  |zero=>rfl
  |succ n ih=>rw[fJ,cK,ih,fJ];rfl
 simp[this]
theorem RZ(h:¬(-(m:Int)<=x∧x<=m)):Kj m x=false:=by unfold Kj;rw[decide_eq_false h];simp
theorem VM(h0:x≠0)(h:-(m:Int)<=x∧x<=m):Kj m x=true:=by unfold Kj;rw[decide_eq_true h,decide_eq_true h0];rfl
theorem al0:gZ x (-(m:Int)) m=decide (-(m:Int)<=x∧x<=m):=by
 unfold gZ;by_cases q:-(m:Int)<=x∧x<=m
 ·simp[q]
 ·simp[q];omega
theorem aCb(h:a9)(hp:0<h.length)(v:Value)(L:List (List Int))(hv:tJ h v L)(hl:L.length<=100000)(hf:L.flatten.length<=1000000)(nU:∀R∈L,∀x∈R,-1000000<=x∧x<=1000000):aN aE 137 [v] h λr h'=>ae h h'∧r=B (codeOk L):=by
 obtain⟨b,o,y,rfl,db⟩:=hv;refine afq ?_;rw[aw,cy];generalize a:aP aE _ _ 0=K;simp(disch:=omega);subst a;simp only[aq];rw[aw,cy];generalize a:aP aE _ _ 0=K;simp(disch:=omega);subst a;simp only[aq];rw[aw];generalize c:aP aE _ _=PP;simp(disch:=omega);refine aU (λk σ h'=>h'=h∧k<=L.length∧σ 0=sl b o L.length y∧σ 3=I (L.take k).flatten.length∧σ 12=sl b o L.length y∧σ 13=I L.length∧σ 14=I k) (λk=>L.length-k) 0 ?_ ?_
 ·exact⟨rfl,by omega,by simp,by simp,by simp,by simp,by simp⟩
 ·rintro k σ h'⟨rfl,hk,n,f,DR,BZ,xO⟩;simp(disch:=omega)[BZ,xO];refine aG (λbB=>?_) (λdG=>?_)
  ·have d:k<L.length:=by omega
   obtain⟨w,c1,vr⟩:=db k d;obtain⟨wb,wo,wz,rfl,_⟩:=vr.ints;have IL:=K1 (L:=L) (k+1);have e:=AD d;rw[e,af]at IL;simp(disch:=omega)[n,f,DR,xO,d,c1];refine⟨k+1,?_,by omega⟩;have t:IntKind.i64.wrap (((L.take k).flatten.length:Int)+L[k].length)=(((L.take (k+1)).flatten.length:Nat):Int):=by rw[wrap64 (by omega) (by omega),e,af];simp
   have U:=cQ ((k:Int)+1) (((k+1:Nat):Int));simp only[List.length_flatten]at t;and_intros<;>first|assumption|omega|rfl|exact t|exact U|simpa using t
  ·have:k=L.length:=by omega
   subst this;rw[aK]at f;clear dG hk;obtain⟨F,G⟩:=aC L.flatten.length;obtain⟨m,hm⟩:=aC (F/2);rw[<-G]at f hf;simp(disch:=omega);subst c;simp only[aq];rw[aw];generalize a:aP aE _ _=K;have S:((F:Int)).tmod 2=(F:Int)%2:=cj (by omega);have T:((F:Int)).tdiv 2=(m:Int):=by rw[fD (by omega)];omega
   have W:=cQ (m:Int) (m:Int);have mO:¬(L.length<=40∧F%2=0∧m<=120)->codeOk L=false:=by intro q;refine afx.2 λl=>q ?_;unfold codeOk at l;simp only[aH,decide_eq_true_eq]at l;rw[<-G,<-hm]at l;exact⟨l.1,l.2.1,l.2.2.1⟩
   by_cases E:(40:Int)<L.length
   ·rw[mO (by omega)]at a;simp(disch:=omega)[n,E];subst a;simp(disch:=omega);exact ae.refl _
   by_cases O:(F:Int)%2=0
   rotate_left
   ·rw[mO (by omega)]at a;simp(disch:=omega)[n,f,E,S,O];subst a;simp(disch:=omega);exact ae.refl _
   by_cases a3:(120:Int)<m
   ·rw[mO (by omega)]at a;simp(disch:=omega)[n,f,E,S,T,W,O,a3];subst a;simp(disch:=omega);exact ae.refl _
   simp(disch:=omega)[n,f,E,S,T,W,O,a3];subst a;simp only[aq];rw[aw,cy];generalize a:aP aE _ _ 0=K;simp(disch:=omega)[f,T,W];subst a;simp only[aq];rw[aw,cy];generalize a:aP aE _ _ 0=K;have t:=cQ (2*(m:Int)) (2*(m:Int));have U:=cQ (2*(m:Int)+1) (2*(m:Int)+1);simp(disch:=omega)[t,U];rw[RM (by omega)];simp only[bI]
   try simp(disch:=omega)
   subst a;simp only[aq];obtain⟨hs,D⟩:=aC (h'++[⟨qZ m [],true⟩]);rw[<-D];have gs:ae h' hs:=⟨_,D⟩;have bs:hs[h'.length]?=some ⟨qZ m [],true⟩:=by rw[D];simp
   rw[aw];generalize c:aP aE _ _=PP;simp(disch:=omega)[n];refine aU (λk τ Y=>k<=L.length∧ae h' Y∧Y[h'.length]?=some ⟨qZ m (L.take k).flatten,true⟩∧xE m (L.take k).flatten∧τ 6=I m∧τ 7=sl h'.length 0 (2*m+1) 1∧τ 42=sl b o L.length y∧τ 43=I L.length∧τ 44=I k) (λk=>L.length-k) 0 ?_ ?_
   ·exact⟨by omega,gs,by simpa using bs,by simpa using xE.nil,by simp,by simp,by simp,by simp,by simp⟩
   clear f DR BZ xO bs gs D;rintro k τ Y⟨hk,X,hB,sv,r6,r7,A,C,g⟩;simp(disch:=omega)[C,g];refine aG (λbB=>?_) (λdG=>?_)
   ·have d:k<L.length:=by omega
    obtain⟨w,c1,vr⟩:=db k d;have c1:=X.cell c1;have P:=nU _ (aD d);have hkl:L[k].length<=F:=by have h1:=K1 (L:=L) (k+1);rw[AD d,af]at h1;omega
    obtain⟨wb,wo,wz,rfl,_,_,_,iJ⟩:=vr.ints;simp(disch:=omega)[A,g,d,c1];refine aU (λj ρ hx=>j<=L[k].length∧ae h' hx∧hx[h'.length]?=some ⟨qZ m ((L.take k).flatten++L[k].take j),true⟩∧xE m ((L.take k).flatten++L[k].take j)∧ρ 6=I m∧ρ 7=sl h'.length 0 (2*m+1) 1∧ρ 42=sl b o L.length y∧ρ 43=I L.length∧ρ 44=I k∧ρ 48=sl wb wo L[k].length wz∧ρ 49=I L[k].length∧ρ 50=I j) (λj=>L[k].length-j) 0 ?_ ?_
    ·exact⟨by omega,X,by simpa using hB,by simpa using sv,by simpa using r6,by simpa using r7,by simpa using A,by simpa using C,by simpa using g,by simp,by simp,by simp⟩
    rintro j ρ hx⟨hj,u,s,N,t6,t7,t42,t43,t44,t48,t49,i⟩;simp(disch:=omega)[t49,i];refine aG (λOI=>?_) (λOH=>?_)
    ·have z:j<L[k].length:=by omega
     have cx:=eG (iJ.imp id (dZ u)) z;obtain⟨rest,M⟩:=UG d z;obtain⟨V,hV⟩:=aC ((L.take k).flatten++L[k].take j);have nJ:(L.take k).flatten++L[k].take (j+1)=V++[L[k][j]]:=by rw[hV,cC,aj z]
     rw[<-hV]at s N M;have Q:=P _ (aD z);obtain⟨x,Z⟩:=aC (L[k][j]);rw[<-Z]at cx M Q nJ;have i6:Kj m x=false∨x∈V->codeOk L=false:=λq=>Uc M (by rw[<-G,<-hm];exact q);have em:=cQ (-(m:Int)) (-(m:Int));have ex:=cQ (x+m) (x+m);simp(disch:=omega)[t48,i,z,cx];by_cases H:x=0
     ·have e:=i6 (.inl (by rw[H];rfl));rw[e]at c;simp(disch:=omega)[H];subst c;simp(disch:=omega);exact u
     simp(disch:=omega)[H,t6,em];refine aO (B8 x _ _ hx) ?_;rintro _ rL⟨rfl,rfl⟩;rw[al0];by_cases p:-(m:Int)<=x∧x<=m
     rotate_left
     ·have e:=i6 (.inl (RZ p));rw[e]at c;rw[decide_eq_false p];simp(disch:=omega);subst c;simp(disch:=omega);exact u
     rw[decide_eq_true p];have n0:0<=x+m:=by omega
     have n1:x+(m:Int)<2*m+1:=by omega
     have cs:cell rL h'.length (x+m).toNat=some (B (decide (x∈V))):=by have h1:=Wo (V:=V) p;unfold cell;rw[s];exact h1
     simp(disch:=omega)[t6,t7,ex,n0,n1,cs];by_cases J:x∈V
     ·have e:=i6 (.inr J);rw[e]at c;simp(disch:=omega)[J];subst c;simp(disch:=omega);exact u
     have st:=ld (v:=B true) (o:=(x+m).toNat) s (by rw[Di];omega);rw[Sm p,<-nJ]at st;simp(disch:=omega)[J,t6,t7,ex,n0,n1,st,i,wrap64];have Rt:h'.length<rL.length:=bZ s;refine⟨j+1,?_,by omega⟩;have gn:ae h' (rL.set h'.length ⟨qZ m ((L.take k).flatten++L[k].take (j+1)),true⟩):=u.put (by omega) _;have sn:xE m ((L.take k).flatten++L[k].take (j+1)):=by rw[nJ];exact N.snoc (VM H p) J
     have ej:=cQ ((j:Int)+1) (((j+1:Nat):Int));and_intros<;>first|assumption|omega|exact gn|exact ej|exact sn|(rw[dr Rt])|(simp[Rt];done)
    ·have:j=L[k].length:=by omega
     subst this;rw[aK,<-AD d]at s N;simp(disch:=omega)[t44,wrap64];refine⟨k+1,?_,by omega⟩;and_intros<;>first|assumption|omega
   ·have:k=L.length:=by omega
    subst this;rw[aK]at sv;have e:codeOk L=true:=QT (by omega) (by omega) (by omega) (by rw[<-G,<-hm];exact sv);rw[e]at c;simp(disch:=omega);subst c;simp(disch:=omega);exact X
theorem aDs(h:a9)(hp:0<h.length)(v:Value)(L:List (List Int))(hv:tJ h v L)(hl:L.length<=100000)(hf:L.flatten.length<=1000000)(nU:∀R∈L,∀x∈R,-1000000<=x∧x<=1000000):aN aE 509 [v] h λr h'=>ae h h'∧r=B (codeOk L):=by
 have t:=λh' (g:ae h h')=>aDt h' v L (hv.grow g) hl hf;obtain⟨b,o,y,rfl,db⟩:=hv;obtain⟨F,C⟩:=aC L.flatten.length;obtain⟨m,hm⟩:=aC (F/2);simp only[<-C]at hf t;have P:((F:Int)).tmod 2=(F:Int)%2:=cj (by omega);have e2:((F:Int)).tdiv 2=(m:Int):=by rw[fD (by omega)];omega
 have ew:=cQ (m:Int) (m:Int);have W:¬(L.length<=40∧F%2=0∧m<=120)->codeOk L=false:=by intro q;refine afx.2 λi=>q ?_;unfold codeOk at i;simp only[aH,decide_eq_true_eq]at i;rw[<-C,<-hm]at i;exact⟨i.1,i.2.1,i.2.2.1⟩
 refine afq ?_;rw[aw,cy];generalize a:aP aE _ _ 0=K;simp(disch:=omega);subst a;simp only[aq];rw[aw,cy];generalize a:aP aE _ _ 0=K;simp(disch:=omega);refine aO (t h (ae.refl _)) ?_;rintro _ h'⟨rfl,rfl⟩;simp(disch:=omega)[e2,ew];subst a;simp only[aq];rw[aw];generalize a:aP aE _ _=K;by_cases A:(40:Int)<L.length
 ·rw[W (by omega)]at a;simp(disch:=omega)[A];subst a;simp(disch:=omega);exact ae.refl _
 by_cases J:(F:Int)%2=0
 rotate_left
 ·rw[W (by omega)]at a;simp(disch:=omega)[A];refine aO (t h' (ae.refl _)) ?_;rintro _ h'⟨rfl,rfl⟩;simp(disch:=omega)[P,J];subst a;simp(disch:=omega);exact ae.refl _
 by_cases a3:(120:Int)<m
 ·rw[W (by omega)]at a;simp(disch:=omega)[A];refine aO (t h' (ae.refl _)) ?_;rintro _ h'⟨rfl,rfl⟩;simp(disch:=omega)[P,J,a3];subst a;simp(disch:=omega);exact ae.refl _
 simp(disch:=omega)[A];refine aO (t h' (ae.refl _)) ?_;rintro _ h'⟨rfl,rfl⟩;simp(disch:=omega)[P,J,a3];subst a;simp only[aq];rw[aw,cy];generalize a:aP aE _ _ 0=K;have e3:=cQ (2*(m:Int)) (2*(m:Int));have e4:=cQ (2*(m:Int)+1) (2*(m:Int)+1);simp(disch:=omega)[e3,e4];rw[RM (by omega)];simp only[bI]
 try simp(disch:=omega)
 subst a;simp only[aq];obtain⟨hs,z⟩:=aC (h'++[⟨qZ m [],true⟩]);rw[<-z];have gs:ae h' hs:=⟨_,z⟩;have bs:hs[h'.length]?=some ⟨qZ m [],true⟩:=by rw[z];simp
 rw[aw];generalize c:aP aE _ _=PP;simp(disch:=omega);refine aU (λk τ S=>k<=L.length∧ae h' S∧S[h'.length]?=some ⟨qZ m (L.take k).flatten,true⟩∧xE m (L.take k).flatten∧τ 0=sl b o L.length y∧τ 3=I m∧τ 4=sl h'.length 0 (2*m+1) 1∧τ 5=I k) (λk=>L.length-k) 0 ?_ ?_
 ·exact⟨by omega,gs,by simpa using bs,by simpa using xE.nil,by simp,by simp,by simp,by simp⟩
 clear bs gs z;rintro k τ S⟨hk,Q,hB,sv,r0,r3,r4,r5⟩;simp(disch:=omega)[r0,r5];refine aG (λbB=>?_) (λdG=>?_)
 ·have d:k<L.length:=by omega
  obtain⟨w,c1,vr⟩:=db k d;have c1:=Q.cell c1;have M:=nU _ (aD d);have hkl:L[k].length<=F:=by have h1:=K1 (L:=L) (k+1);rw[AD d,af]at h1;omega
  obtain⟨wb,wo,wz,rfl,_,_,_,iJ⟩:=vr.ints;simp(disch:=omega);refine aU (λj ρ hx=>j<=L[k].length∧ae h' hx∧hx[h'.length]?=some ⟨qZ m ((L.take k).flatten++L[k].take j),true⟩∧xE m ((L.take k).flatten++L[k].take j)∧ρ 0=sl b o L.length y∧ρ 3=I m∧ρ 4=sl h'.length 0 (2*m+1) 1∧ρ 5=I k∧ρ 6=I j∧cell hx b (o+k)=some (sl wb wo L[k].length wz)) (λj=>L[k].length-j) 0 ?_ ?_
  ·exact⟨by omega,Q,by simpa using hB,by simpa using sv,by simpa using r0,by simpa using r3,by simpa using r4,by simpa using r5,by simp,c1⟩
  rintro j ρ hx⟨hj,f,n,H,t0,Z,t4,t5,t6,cr⟩;simp(disch:=omega)[t0,t5,t6,d,cr];refine aG (λOI=>?_) (λOH=>?_)
  ·have u:j<L[k].length:=by omega
   have cx:=eG (iJ.imp id (dZ f)) u;obtain⟨rest,G⟩:=UG d u;obtain⟨V,hV⟩:=aC ((L.take k).flatten++L[k].take j);have X:(L.take k).flatten++L[k].take (j+1)=V++[L[k][j]]:=by rw[hV,cC,aj u]
   rw[<-hV]at n H G;have N:=M _ (aD u);obtain⟨x,T⟩:=aC (L[k][j]);rw[<-T]at cx G N X;have U:Kj m x=false∨x∈V->codeOk L=false:=λq=>Uc G (by rw[<-C,<-hm];exact q);have em:=cQ (-(m:Int)) (-(m:Int));have ex:=cQ (x+m) (x+m);simp(disch:=omega)[t0,Z,t5,t6,d,cr,u,cx,em];refine aO (xW x _ _ hx) ?_;rintro _ Y⟨rfl,rfl⟩;rw[al0];by_cases l:-(m:Int)<=x∧x<=m
   rotate_left
   ·have e:=U (.inl (RZ l));rw[e]at c;rw[decide_eq_false l];simp(disch:=omega);subst c;simp(disch:=omega);exact f
   rw[decide_eq_true l];by_cases D:x=0
   ·have e:=U (.inl (by rw[D];rfl));rw[e]at c;simp(disch:=omega)[D];subst c;simp(disch:=omega);exact f
   have n0:0<=x+m:=by omega
   have n1:x+(m:Int)<2*m+1:=by omega
   have cs:cell Y h'.length (x+m).toNat=some (B (decide (x∈V))):=by have h1:=Wo (V:=V) l;unfold cell;rw[n];exact h1
   simp(disch:=omega)[D,Z,t4,ex,n0,n1,cs];by_cases E:x∈V
   ·have e:=U (.inr E);rw[e]at c;simp(disch:=omega)[E];subst c;simp(disch:=omega);exact f
   have st:=ld (v:=B true) (o:=(x+m).toNat) n (by rw[Di];omega);rw[Sm l,<-X]at st;simp(disch:=omega)[E,Z,t4,ex,n0,n1,st,t6,wrap64];have Rt:h'.length<Y.length:=bZ n;refine⟨j+1,?_,by omega⟩;have gn:ae h' (Y.set h'.length ⟨qZ m ((L.take k).flatten++L[k].take (j+1)),true⟩):=f.put (by omega) _;have sn:xE m ((L.take k).flatten++L[k].take (j+1)):=by rw[X];exact H.snoc (VM D l) E
   have ej:=cQ ((j:Int)+1) (((j+1:Nat):Int));obtain⟨w',p,_⟩:=db k d;have s:=gn.cell p;have O:=f.cell p;rw[O]at cr;injection cr with cr;rw[cr]at s;and_intros<;>first|assumption|omega|exact gn|exact ej|exact sn|exact s|(rw[dr Rt])|(simp[Rt];done)
  ·have:j=L[k].length:=by omega
   subst this;rw[aK,<-AD d]at n H;simp(disch:=omega)[t5,wrap64];refine⟨k+1,?_,by omega⟩;and_intros<;>first|assumption|omega
 ·have:k=L.length:=by omega
  subst this;rw[aK]at sv;have e:codeOk L=true:=QT (by omega) (by omega) (by omega) (by rw[<-C,<-hm];exact sv);rw[e]at c;simp(disch:=omega);subst c;simp(disch:=omega);exact Q
end Am

/- Contracts of functions. -/
import Derived.Test.YtpgioncclmancaaGreatPK20
import Derived.Test.YtpgioncclmancaaGreatPK18
set_option linter.unusedVariables false
set_option linter.unusedSimpArgs false
set_option maxHeartbeats 4000000
set_option maxRecDepth 40000
namespace Am
open Go
variable{W H x:Int}{X:List Int}{h h1:a9}{l w:List UInt8}
noncomputable def wY(X:bW)(x y:Int):Int:=if iv X=true then(if qP X.1 X.2.1 x y=true then(if gr X.1.toNat X.2.1.toNat x y then 6 else 0)else 2)else 1
noncomputable def As(X:bW)(x y:Int):Int×Int:=if wY X x y=0 then((jd X.1.toNat x.toNat y.toNat:Nat),0)else(0,wY X x y)
theorem JR{X:bW}{x y:Int}(h:wY X x y=0):fg X∧qP X.1 X.2.1 x y=true∧¬gr X.1.toNat X.2.1.toNat x y:=by
 unfold wY at h;by_cases a:iv X=true
 ·rw[if_pos a]at h;by_cases b:qP X.1 X.2.1 x y=true
  ·rw[if_pos b]at h;by_cases c:gr X.1.toNat X.2.1.toNat x y
   ·rw[if_pos c]at h;omega
   ·exact⟨dK.1 a,b,c⟩
  ·rw[if_neg b]at h;omega
 ·rw[if_neg a]at h;omega
theorem adX{y:Int}(h:qP W H x y=true)(hw:1<=W∧W<=8)(c:1<=H∧H<=8)(e:¬gr W.toNat H.toNat x y):∃a b:Nat,x=a∧y=b∧(1<=a∧a<17)∧(1<=b∧b<17)∧(a+b)%2=1:=by unfold qP at h;have h:=of_decide_eq_true h;unfold gr at e;exact⟨x.toNat,y.toNat,by omega,by omega,by omega,by omega,by omega⟩
theorem aCk(h:a9)(v:Value)(X:bW)(x y:Int)(i:Vr h bU v X):aN aE 165 [v,.agg #[I x,I y]] h λr h'=>r=I (wY X x y)∧h'=h:=by
 have j:=i;obtain⟨A,g⟩:=aC (wY X x y);have a:=g;unfold wY at a;rw[<-g];obtain⟨W,H,br⟩:=X;obtain⟨s,rfl,w1,w2,r⟩:=i.dE;obtain⟨sb,k,l,rfl,_⟩:=r.ints;refine afq ?_;rw[aw,cy];generalize b:aP aE _ _ 0=K
 try simp(disch:=omega)
 subst b;simp only[aq];rw[aw];generalize b:aP aE _ _=K
 try simp(disch:=omega)
 refine aO (B7 _ _ h j) ?_;rintro _ h1⟨rfl,rfl⟩;cases d:iv (W,H,br)
 ·simp only[d,ax,if_false]at a;subst a
  try simp(disch:=omega)
  subst b
  try simp(disch:=omega)
 have ok:=dK.1 d;have hw:=ok.w;have e:=ok.h;simp only at hw e;simp only[d,if_true]at a
 try simp(disch:=omega)
 refine aO (c36 h1 W H x y _ hw e) ?_;rintro _ _⟨rfl,rfl⟩;cases f:qP W H x y
 ·simp only[f,ax,if_false]at a;subst a
  try simp(disch:=omega)
  subst b
  try simp(disch:=omega)
 simp only[f,if_true]at a
 try simp(disch:=omega)
 refine aO (c34 _ W H x y _ hw e) ?_;rintro _ _⟨rfl,rfl⟩;by_cases c:gr W.toNat H.toNat x y
 ·rw[if_pos c]at a;subst a;simp(disch:=omega)[c]
  try subst b
  try simp(disch:=omega)
 ·rw[if_neg c]at a;subst a;simp(disch:=omega)[c]
  try subst b
  try simp(disch:=omega)
theorem aC6(h:a9)(v:Value)(X:bW)(x y:Int)(j:gY h v X):aN aE 444 [v,.agg #[I x,I y]] h λr h'=>r=I (wY X x y)∧h'=h:=by
 have d:=j;obtain⟨A,g⟩:=aC (wY X x y);have a:=g;unfold wY at a;rw[<-g];refine afq ?_;rw[aw,cy];generalize b:aP aE _ _ 0=K
 try simp(disch:=omega)
 subst b;simp only[aq];rw[aw];generalize b:aP aE _ _=K
 try simp(disch:=omega)
 refine aO (An _ X h d) ?_;rintro _ h1⟨rfl,rfl⟩;cases e:iv X
 ·simp only[e,ax,if_false]at a;subst a
  try simp(disch:=omega)
  subst b
  try simp(disch:=omega)
 have ok:=dK.1 e;simp only[e,if_true]at a
 try simp(disch:=omega)
 subst b;simp only[aq];rw[aw];generalize b:aP aE _ _=K
 try simp(disch:=omega)
 refine aO (akQ h1 v X x y d ok) ?_;rintro _ i⟨rfl,rfl⟩;cases f:qP X.1 X.2.1 x y
 ·simp only[f,ax,if_false]at a;subst a
  try simp(disch:=omega)
  subst b
  try simp(disch:=omega)
 simp only[f,if_true]at a
 try simp(disch:=omega)
 subst b;simp only[aq];rw[aw];generalize b:aP aE _ _=K
 try simp(disch:=omega)
 refine aO (ZA i v X x y d ok) ?_;rintro _ _⟨rfl,rfl⟩;by_cases c:gr X.1.toNat X.2.1.toNat x y
 ·rw[if_pos c]at a;subst a;simp(disch:=omega)[c]
  try subst b
  try simp(disch:=omega)
 ·rw[if_neg c]at a;subst a;simp(disch:=omega)[c]
  try subst b
  try simp(disch:=omega)
theorem aB1(h:a9)(v:Value)(X:bW)(x y:Int)(f:Vr h bU v X):aN aE 103 [v,.agg #[I x,I y]] h λr h'=>r=.tuple #[I (As X x y).1,I (As X x y).2]∧h'=h:=by
 have p:=f;obtain⟨A,g⟩:=aC (As X x y);have c:=g;unfold As at c;rw[<-g];have hi:=@JR X x y;have d:=λh v f=>aCk h v X x y f;obtain⟨o,z⟩:=aC (wY X x y);rw[<-z]at c hi d;obtain⟨W,H,br⟩:=X;obtain⟨s,rfl,w1,w2,r⟩:=f.dE;obtain⟨sb,B,C,rfl,_⟩:=r.ints;refine afq ?_;refine bg λK e=>?_
 try simp(disch:=omega)
 refine e ?_;rw[aw];generalize e:aP aE _ _=K
 try simp(disch:=omega)
 refine aO (d h _ p) ?_;rintro _ h1⟨rfl,rfl⟩;by_cases q:o=0
 ·obtain⟨ok,k,l⟩:=hi q;have hw:=ok.w;have i:=ok.h;simp only at hw i;obtain⟨a,b,rfl,rfl,t,u,j⟩:=adX k hw i l;obtain⟨n,rfl⟩:∃n:Nat,W=n:=⟨W.toNat,by omega⟩;obtain⟨m,rfl⟩:∃m:Nat,H=m:=⟨H.toNat,by omega⟩;rw[if_pos q]at c;simp only[aM]at c;simp(disch:=omega)[q];subst e;simp(disch:=omega);refine aO (XE h1 n m a b _ (by omega) (by omega) t u j) ?_;rintro _ _⟨rfl,rfl⟩;rw[c]
  try simp(disch:=omega)
 ·rw[if_neg q]at c;subst c;simp(disch:=omega)[q];subst e
  try simp(disch:=omega)
theorem aCR(h:a9)(hp:0<h.length)(v:Value)(X:bW)(x y:Int)(g:Vr h bU v X):aN aE 396 [v,.agg #[I x,I y]] h λr h'=>r=.tuple #[I (As X x y).1,I (As X x y).2]∧ae h h':=by
 obtain⟨A,i⟩:=aC (As X x y);have c:=i;unfold As at c;rw[<-i];have hi:=@JR X x y;have e:=λh v g=>aC6 h v X x y g;obtain⟨o,z⟩:=aC (wY X x y);rw[<-z]at c hi e;obtain⟨W,H,br⟩:=X;obtain⟨s,rfl,w1,w2,r⟩:=g.dE;refine afq ?_;refine bg λK d=>?_
 try simp(disch:=omega)
 obtain⟨h1,f⟩:=aC (h++[⟨[I W,I H,s],true⟩]);rw[<-f];have g1:ae h h1:=⟨_,f⟩;have k:h1[h.length]?=some ⟨[I W,I H,s],true⟩:=by rw[f];simp
 have pp:gY h1 (pt h.length 0) (W,H,br):=gY.at k (r.grow g1) w1 w2;obtain⟨pb,B⟩:=aC h.length;rw[<-B]at pp k ⊢;refine d ?_;refine bg λK d=>?_
 try simp(disch:=omega)
 refine aO (e h1 _ pp) ?_;rintro _ p⟨rfl,rfl⟩
 try simp(disch:=omega)
 refine d ?_;rw[aw];generalize d:aP aE _ _=K;by_cases q:o=0
 ·obtain⟨ok,l,m⟩:=hi q;have hw:=ok.w;have j:=ok.h;simp only at hw j;obtain⟨a,b,rfl,rfl,t,u,C⟩:=adX l hw j m;obtain⟨n,rfl⟩:∃n:Nat,W=n:=⟨W.toNat,by omega⟩;rw[if_pos q]at c;simp only[aM]at c;simp(disch:=omega)[q];subst d;simp(disch:=omega);refine aO (PX p _ _ n a b pp rfl (by omega) (by omega) t u) ?_;rintro _ _⟨rfl,rfl⟩;rw[c];simp(disch:=omega)
  try exact g1
 ·rw[if_neg q]at c;subst c;simp(disch:=omega)[q];subst d;simp(disch:=omega)
  try exact g1
def yq(a b:Int):bW×Int:=if yr a b=true then(E7 a b,0)else((0,0,[]),2)
theorem aB0(h:a9)(hp:0<h.length)(a b:Int):aN aE 102 [I a,I b] h λr h'=>ae h h'∧∃f,r=.tuple #[f,I (yq a b).2]∧Vo h' h.length h'.length bU f (yq a b).1:=by
 obtain⟨A,g⟩:=aC (yq a b);have d:=g;unfold yq at d;rw[<-g];refine afq ?_;refine bg λK e=>?_
 try simp(disch:=omega)
 refine e ?_;rw[aw];generalize e:aP aE _ _=K
 try simp(disch:=omega)
 refine aO (aoE a b h) ?_;rintro _ h1⟨rfl,rfl⟩;cases c:yr a b
 ·rw[c,if_neg (by simp)]at d;subst d;simp(disch:=omega);subst e;simp(disch:=omega);exact⟨ae.refl _,_,rfl,Vo.MS⟩
 ·rw[c,if_pos rfl]at d;subst d;unfold yr at c;simp only[aH]at c;simp(disch:=omega);subst e;simp(disch:=omega);refine aO (aoB h1 a b (fM.1 c.1) (fM.1 c.2) hp) ?_;rintro f j⟨g2,o⟩;have ov:=o;unfold E7 at ov;obtain⟨s,rfl,w1,w2,i⟩:=ov.dE;obtain⟨k,l,rfl,_⟩:=i.ints;rw[fU]at o;simp(disch:=omega);exact⟨g2,_,rfl,o⟩
theorem aCQ(h:a9)(hp:0<h.length)(a b:Int):aN aE 395 [I a,I b] h λr h'=>ae h h'∧∃g,r=.tuple #[g,I (yq a b).2]∧Vo h' h.length h'.length bU g (yq a b).1:=by
 obtain⟨A,j⟩:=aC (yq a b);have c:=j;unfold yq yr at c;rw[<-j];refine afq ?_;refine bg λK d=>?_
 try simp(disch:=omega)
 refine d ?_;rw[aw];generalize d:aP aE _ _=K
 try simp(disch:=omega)
 refine aO (ZD a h) ?_;rintro _ h1⟨rfl,rfl⟩;cases e:gZ a 1 8
 ·simp only[e,iy,ax,if_false]at c;subst c;simp(disch:=omega);subst d;simp(disch:=omega);exact⟨ae.refl _,_,rfl,Vo.MS⟩
 simp(disch:=omega);refine aO (ZD b h1) ?_;rintro _ k⟨rfl,rfl⟩;cases f:gZ b 1 8
 ·simp only[e,f,Bool.and_false,ax,if_false]at c;subst c;simp(disch:=omega);subst d;simp(disch:=omega);exact⟨ae.refl _,_,rfl,Vo.MS⟩
 simp only[e,f,sw,if_true]at c;subst c;simp(disch:=omega);subst d;simp(disch:=omega);refine aO (aoO k a b (fM.1 e) (fM.1 f) hp) ?_;rintro g l⟨g2,o⟩;have ov:=o;unfold E7 at ov;obtain⟨s,rfl,w1,w2,i⟩:=ov.dE;obtain⟨m,n,rfl,_⟩:=i.ints;rw[fU]at o;simp(disch:=omega);exact⟨g2,_,rfl,o⟩
def wI(X:List Int):List UInt8:=xN (du [44] (X.map bE))
theorem ajt(hx:∀x∈X,bK x)(h:X≠[]):wI X=du [44] (X.map bE):=by
 unfold wI xN;rw[if_neg];cases X with
 |nil=>exact absurd rfl h
 |cons a r=>
  intro e;have:=(dW (hx a (by simp))).1;have b:=congrArg List.length e;simp only[bX,du,af,aF]at b;omega
theorem ao6(h:a9)(hp:0<h.length)(v:Value)(X:List Int)(Q:Vi h v X)(hs:X.length<=1000):aN aE 575 [v] h λr h'=>ae h h'∧r=S (wI X):=by
 obtain⟨B,o,U,rfl,_,hm,hx,u⟩:=Q;have t:=ajt hx;have h0:X=[]->wI X=[110,111,110,101]:=λe=>by rw[e];decide
 obtain⟨A,L⟩:=aC (wI X);rw[<-L]at t h0 ⊢;refine ag8 λK b=>?_;refine b ?_;rw[aw];generalize b:aP aE _ _=K;by_cases d:X.length=0
 ·have:=h0 (aB.1 d);subst this;simp(disch:=omega)[d];subst b;simp(disch:=omega);exact ae.refl _
 have i:¬X=[]:=λe=>d (by rw[e];rfl);have j:=t i;have p:0<X.length:=by omega
 have s:(0:Int)<X.length:=by omega
 have z:=hx _ (aD p);have w:=eG u p;rw[bA]at w;simp(disch:=omega)[d,i];subst b;simp only[aq];refine bg λK b=>?_;simp(disch:=omega)[p,s,w];refine aO (pJ _ z h hp) ?_;rintro _ h1⟨rfl,g1⟩
 try simp(disch:=omega)
 refine b ?_;rw[aw];generalize O:aP aE _ _=PP;simp(disch:=omega);refine aU (λk σ h'=>1<=k∧k<=X.length∧ae h h'∧σ 3=S (du [44] ((X.take k).map bE))∧σ 0=sl B o X.length U∧σ 4=I k) (λk=>X.length-k) 1 ?_ ?_
 ·refine⟨by omega,by omega,g1,?_,by simp,by simp⟩;have:X.take 1=[X[0]]:=by
   cases X with
   |nil=>exact absurd rfl i
   |cons a r=>rfl
  rw[this];simp[du]
 ·rintro k σ h'⟨V,P,f,c,p0,m⟩;simp(disch:=omega)[p0,m];refine aG (λW=>?_) (λY=>?_)
  ·have g:k<X.length:=by omega
   have l:=hx _ (aD g);have q1:=eG (u.imp id (dZ f)) g;have T:=AG X hx k P;have y:=(dW l).2;have R:(X.take (k+1)).map bE=(X.take k).map bE++[bE X[k]]:=by rw[aj g,cq];rfl
   have n:du [44] ((X.take (k+1)).map bE)=du [44] ((X.take k).map bE)++[44]++bE X[k]:=by
    rw[R,oI];have:¬(X.take k).map bE=[]:=by intro q;have:=congrArg List.length q;rw[bL,bu,aF]at this;omega
    rw[if_neg this]
   obtain⟨J,N⟩:=aC (du [44] ((X.take k).map bE));rw[<-N]at c T n;obtain⟨x,ex⟩:=aC (X[k]);rw[<-ex]at l q1 y n;have C:J.length+((bE x).length+1)<=4611686018427387904:=by omega
   have D:J.length+1+(bE x).length<=4611686018427387904:=by omega
   have E:J.length+(1+(bE x).length)<=4611686018427387904:=by omega
   have F:1+(bE x).length<=4611686018427387904:=by omega
   have G:(bE x).length+1<=4611686018427387904:=by omega
   have H:(bE x).length<=4611686018427387903:=by omega
   simp(disch:=omega)[p0,c,m,g,q1];refine aO (pJ _ l h' (aL hp f)) ?_;rintro _ Z⟨rfl,M⟩;simp(disch:=omega)[p0,c,m,C,D,E,F,G,H,wrap64];refine⟨k+1,⟨by omega,by omega,f.trans M,?_,by omega⟩,by omega⟩;rw[<-bH,n];simp
  ·have:k=X.length:=by omega
   subst this;rw[aK]at c;simp(disch:=omega);subst O;simp(disch:=omega)[c];rw[j];exact⟨f,rfl⟩
noncomputable def Fm(J:de)(x y k:Int):de×Int:=if(As J.1 x y).2=0 then lR J (As J.1 x y).1 k else(oC,(As J.1 x y).2)
def Ia(a b:Int):de×Int:=if(yq a b).2=0 then oX (yq a b).1 else(oC,(yq a b).2)
noncomputable def rR(J:de)(w:List UInt8)(n:List Int):de×Int:=
 if w=re then jO J else if w=rQ then jM J else if w=oV then pR J else if w=zr then Fm J (n.getD 0 0) (n.getD 1 0) (n.getD 2 0)
 else if w=zp then Ia (n.getD 0 0) (n.getD 1 0)else(J,0)
theorem Vr.jx{v:Value}{X:de}(x:Vr h ba v X):∃W H b1 o1 n1 z1 b2 o2 n2 z2 b3 o3 n3 z3,v=.agg #[I W,I H,sl b1 o1 n1 z1,sl b2 o2 n2 z2,sl b3 o3 n3 z3]∧Vr h bU (.agg #[I W,I H,sl b1 o1 n1 z1]) X.1:=by obtain⟨⟨W,H,br⟩,p,f⟩:=X;obtain⟨s,sp,d,rfl,w1,w2,a,b,c⟩:=x.og;obtain⟨b1,o1,z1,rfl,_⟩:=a.ints;obtain⟨b2,o2,z2,rfl,_⟩:=b.cW;obtain⟨b3,o3,z3,rfl,_⟩:=c.cW;exact⟨W,H,b1,o1,_,z1,b2,o2,_,z2,b3,o3,_,z3,rfl,Vr.jF w1 w2 a⟩
theorem Vi.at{v:Value}(x:Vi h v X):∃b o z,v=sl b o X.length z∧∀k,k<X.length->cell h b (o+k)=some (I (X.getD k 0))∧bK (X.getD k 0):=by obtain⟨b,o,z,e,_,_,hx,c⟩:=x;refine⟨b,o,z,e,λk a=>⟨k9 c a,?_⟩⟩;rw[aA,ah a];exact hx _ (aD a)
theorem Vr.px{v:Value}{X:bW}(x:Vr h bU v X):∃W H b1 o1 n1 z1,v=.agg #[I W,I H,sl b1 o1 n1 z1]:=by obtain⟨W,H,br⟩:=X;obtain⟨s,rfl,_,_,r⟩:=x.dE;obtain⟨b1,o1,z1,rfl,_⟩:=r.ints;exact⟨W,H,b1,o1,_,z1,rfl⟩
theorem Yz(a b:Int):hI bU (yq a b).1<=1048576:=by
 unfold yq;split
 ·rename_i h;unfold yr at h;simp only[aH]at h;have h1:=fM.1 h.1;have c:=fM.1 h.2;have ok:=Yy h1 c;have:=jH ok;unfold E7 at this ⊢;rw[sQ];omega
 ·rw[sQ];simp
theorem Wh(W:Nat):∀y,jW W y<=y*W
 |0=>by simp[jW]
 |y+1=>by
  have:=Wh W y;unfold jW;rw[pF];split<;>omega
theorem agd(X:bW)(x y:Int):bK (As X x y).1:=by
 unfold As;split
 ·rename_i h;obtain⟨ok,c,d⟩:=JR h;have hw:=ok.w;have e:=ok.h;obtain⟨a,b,rfl,rfl,i,j,f⟩:=adX c hw e d;simp only[aM];have:jd X.1.toNat a b<=1000:=by unfold jd;have h1:=Wh X.1.toNat b;have g:b*X.1.toNat<=16*8:=dh (by omega) (by omega);omega
  unfold bK;omega
 ·unfold bK;simp
theorem c23(h:a9)(hp:0<h.length)(v nv:Value)(w:List UInt8)(n:List Int)(J:de)(hv:Vr h ba v J)(C:hI ba J<=1048576)(hn:Vi h nv n)(l3:w=zr->n.length=3)(l2:w=zp->n.length=2):aN aE 23 [v,S w,nv] h λr h'=>ae h h'∧∃d,r=.tuple #[d,I (rR J w n).2]∧Vr h' ba d (rR J w n).1:=by
 have g:=hv;obtain⟨A,e⟩:=aC (rR J w n);rw[<-e];obtain⟨W,H,b1,o1,n1,z1,b2,o2,n2,z2,b3,o3,n3,z3,rfl,yj⟩:=hv.jx;refine ag8 λK b=>?_;refine b ?_;rw[aw];generalize b:aP aE _ _=K;by_cases P:w=[117,110,100,111]
 ·subst P;have a:A=jO J:=by rw[e];simp[rR,re]
  subst a;simp(disch:=omega);refine aO (aCa h hp _ _ g C) ?_;rintro _ h1⟨g1,d,rfl,o,_⟩;have ov:=o.vr;obtain⟨l,j,s,t,u,z,D,E,M,N,L,G,F,O,rfl,_⟩:=ov.jx;simp(disch:=omega);subst b;simp(disch:=omega)[cY,cJ,cO,bD]
  first|exact⟨g1,ov⟩|exact⟨g1,_,rfl,ov⟩
 by_cases Q:w=[114,101,100,111]
 ·subst Q;have a:A=jM J:=by rw[e];simp[rR,re,rQ]
  subst a;simp(disch:=omega);refine aO (aB7 h hp _ _ g C) ?_;rintro _ h1⟨g1,d,rfl,o,_⟩;have ov:=o.vr;obtain⟨l,j,s,t,u,z,D,E,M,N,L,G,F,O,rfl,_⟩:=ov.jx;simp(disch:=omega);subst b;simp(disch:=omega)[cY,cJ,cO,bD]
  first|exact⟨g1,ov⟩|exact⟨g1,_,rfl,ov⟩
 by_cases R:w=[115,113,117,97,115,104]
 ·subst R;have a:A=pR J:=by rw[e];simp[rR,re,rQ,oV]
  subst a;simp(disch:=omega);refine aO (aB9 h hp _ _ g C) ?_;rintro _ h1⟨g1,d,rfl,o,_⟩;have ov:=o.vr;obtain⟨l,j,s,t,u,z,D,E,M,N,L,G,F,O,rfl,_⟩:=ov.jx;simp(disch:=omega);subst b;simp(disch:=omega)[cY,cJ,cO,bD]
  first|exact⟨g1,ov⟩|exact⟨g1,_,rfl,ov⟩
 by_cases T:w=[115,101,116]
 ·subst T;have a:A=Fm J (n.getD 0 0) (n.getD 1 0) (n.getD 2 0):=by rw[e];simp[rR,re,rQ,oV,zr]
  have nl:=l3 rfl;obtain⟨nb,no,nz,rfl,i⟩:=hn.at;obtain⟨f,Y⟩:=i 0 (by omega);obtain⟨q1,Z⟩:=i 1 (by omega);obtain⟨q2,i2⟩:=i 2 (by omega);rw[nl];rw[bA]at f;obtain⟨x,ex⟩:=aC (n.getD 0 0);obtain⟨y,X⟩:=aC (n.getD 1 0);obtain⟨k,ek⟩:=aC (n.getD 2 0);rw[<-ex]at f Y a;rw[<-X]at q1 Z a;rw[<-ek]at q2 i2 a;have q:=agd J.1 x y;unfold Fm at a;have p:=aB1 h _ J.1 x y yj;obtain⟨B,V⟩:=aC (As J.1 x y);rw[<-V]at a p q;simp(disch:=omega)[f,q1];refine aO p ?_;rintro _ h1⟨rfl,rfl⟩;by_cases c:B.2=0
  ·rw[if_pos c]at a;subst a;simp(disch:=omega)[c,q2];refine aO (c82 h1 hp _ _ g C B.1 q k i2) ?_;rintro _ h2⟨g2,d,rfl,o,_⟩;have ov:=o.vr;obtain⟨l,j,s,t,u,z,D,E,M,N,L,G,F,O,rfl,_⟩:=ov.jx;simp(disch:=omega);subst b;simp(disch:=omega)[cY,cJ,cO,bD]
   first|exact⟨g2,ov⟩|exact⟨g2,_,rfl,ov⟩
  ·rw[if_neg c]at a;subst a;simp(disch:=omega)[c];subst b;simp(disch:=omega)[cY,cJ,cO,bD]
   first|exact⟨ae.refl _,xF.no.vr (lo:=0) (hi:=0)⟩|exact⟨ae.refl _,_,rfl,xF.no.vr (lo:=0) (hi:=0)⟩
 by_cases U:w=[110,101,119]
 ·subst U;have a:A=Ia (n.getD 0 0) (n.getD 1 0):=by rw[e];simp[rR,re,rQ,oV,zr,zp]
  have nl:=l2 rfl;obtain⟨nb,no,nz,rfl,i⟩:=hn.at;obtain⟨f,Y⟩:=i 0 (by omega);obtain⟨q1,Z⟩:=i 1 (by omega);rw[nl];rw[bA]at f;obtain⟨x,ex⟩:=aC (n.getD 0 0);obtain⟨y,X⟩:=aC (n.getD 1 0);rw[<-ex]at f Y a;rw[<-X]at q1 Z a;unfold Ia at a;have m:=aB0 h hp x y;have ns:=Yz x y;obtain⟨B,V⟩:=aC (yq x y);rw[<-V]at a m ns;simp(disch:=omega)[f,q1];refine aO m ?_;rintro _ h1⟨g1,d,rfl,o⟩;have ov:=o.vr;have R9:=ov;obtain⟨l,j,s,t,u,z,rfl⟩:=ov.px;by_cases c:B.2=0
  ·rw[if_pos c]at a;subst a;simp(disch:=omega)[c];refine aO (aBZ h1 (aL hp g1) _ _ R9 ns) ?_;rintro _ h2⟨g2,d,rfl,o,_⟩;have ov:=o.vr;obtain⟨l,j,s,t,u,z,D,E,M,N,L,G,F,O,rfl,_⟩:=ov.jx;simp(disch:=omega);subst b;simp(disch:=omega)[cY,cJ,cO,bD]
   first|exact⟨g1.trans g2,ov⟩|exact⟨g1.trans g2,_,rfl,ov⟩
  ·rw[if_neg c]at a;subst a;simp(disch:=omega)[c];subst b;simp(disch:=omega)[cY,cJ,cO,bD]
   first|exact⟨g1,xF.no.vr (lo:=0) (hi:=0)⟩|exact⟨g1,_,rfl,xF.no.vr (lo:=0) (hi:=0)⟩
 have a:A=(J,0):=by rw[e];simp[rR,re,rQ,oV,zr,zp,P,Q,R,T,U]
 subst a;simp(disch:=omega)[P,Q,R,T,U];subst b;simp(disch:=omega)[cY,cJ,cO,bD]
 first|exact⟨ae.refl _,g⟩|exact⟨ae.refl _,_,rfl,g⟩
theorem TM(X:bW):(qo X).1.length<=300∧∀x∈(qo X).1,bK x:=by
 unfold qo;split
 ·rename_i h;have ok:=dK.1 h;have:=mf ok;refine⟨by rw[JW];omega,λx hx=>?_⟩;have:=ajo ok (aa _) x hx;unfold bK;omega
 ·simp
theorem TQ(X:bW)(c:Int):(iD X c).1.length<=300∧∀p∈(iD X c).1,bK p.1:=by
 refine⟨by have:=Xc X c;omega,?_⟩;unfold iD;split
 ·rename_i h;have ok:=dK.1 h;have a:X.2.2.length<=112:=by obtain⟨W,H,br⟩:=X;exact jH ok
  split
  ·intro p hp;have:=V1 a p hp;unfold bK;omega
  ·simp
 ·simp
theorem TL(X:bW):(lQ X).1.length<=40∧(∀R∈(lQ X).1,R.length<=256∧∀x∈R,-113<=x∧x<=113)∧(lQ X).1.flatten.length<=1000000:=by
 have key:(lQ X).1.length<=40∧(∀R∈(lQ X).1,R.length<=256∧∀x∈R,-113<=x∧x<=113):=by
  unfold lQ;split
  ·rename_i h;have ok:=dK.1 h;split
   ·simp
   ·exact⟨by simp only[Jj];omega,Mv ok (aa _)⟩
  ·simp
 refine⟨key.1,key.2,?_⟩;have fl:∀L:List (List Int),(∀R∈L,R.length<=256)->L.flatten.length<=256*L.length:=by
  intro L
  induction L with
  |nil=>simp
  |cons a r ih=>
   intro h;have h1:=h a (by simp);have c:=ih λR b=>h R (by simp[b]);simp only[cK,af,az];omega
 have:=fl _ λR b=>(key.2 R b).1;omega
theorem aor(X:bW):(DH X).1.2.length<=100000:=by
 unfold DH;split
 ·rename_i h;have n:=Gb (cr:=rB X.2.2) (Fw h).1 (Fw h).2 (O9 (rB X.2.2).length);by_cases e:(TU X).2=[]
  ·simp only[e];simp
  ·have:=n.bd e;unfold TU;simp only;omega
 ·simp
theorem PU(J:de)(h:gK J=true):(jU J).1.length<=51∧∀x∈(jU J).1,bK x:=by refine⟨?_,(I8 J).2⟩;unfold jU;rw[if_pos h];have:=(oT.1 h).2.1;simp only[yC];omega
theorem ahL(X:bW)(x:Int):(Bb X x).1.1.length<=16∧(∀y∈cP (Bb X x).1.1,bK y)∧bK ((Bb X x).1.2:Nat):=by
 unfold Bb;split
 ·rename_i h;have ok:=dK.1 h;have d:=ok.h;have hw:=ok.w;split
  ·have n:=Ob (X:=X) (2*X.1.toNat-1-x.toNat);refine⟨by simp only[n.1.len];omega,?_,?_⟩
   ·intro y hy;obtain⟨a,b,rfl⟩:=bj.1 hy;obtain⟨i,hi,e⟩:=nN b;simp only[n.1.len]at hi;have:=n.1.lt i hi;rw[aA,ah (by rw[n.1.len];exact hi)]at this;simp only[lu,e]at this;unfold bK;omega
   ·have h1:=n.2;have c:(2*X.1.toNat-1-x.toNat)*(2*X.2.1.toNat)<=16*16:=dh (by omega) (by omega);unfold bK;simp only;omega
  ·simp[cP,bK]
 ·simp[cP,bK]
theorem Zp(X:bW)(c e:Int):Tn (ye X c e).1:=by
 have nil:Tn []:=⟨by simp,by simp⟩;unfold ye;split
 ·rename_i h;have a:X.2.2.length<=12∧0<=e∧e<=3:=by
   unfold vP at h;split at h
   ·split at h
    ·rename_i q;split at h
     ·omega
     ·exact⟨by omega,q.2⟩
    ·omega
   ·omega
  split
  ·rename_i x hx;exact XX (by omega) (by omega) _ hx
  ·exact nil
 ·exact nil
theorem Zo(X:bW):bK (xA X).1:=by
 unfold xA;split
 ·rename_i h;have ok:=dK.1 h;have c:=ok.h;have hw:=ok.w;have n:=Eh (X:=X) (2*X.1.toNat-1);have l:=J3 (B:=qM (2*X.2.1.toNat)) n.1 (Kh (by omega));have a:(2*X.1.toNat-1)*(2*X.2.1.toNat)<=16*16:=dh (by omega) (by omega);have b:=n.2;unfold bK;simp only;omega
 ·unfold bK;simp
theorem ahM(X:bW):bK (lY X).1:=by
 unfold lY;split
 ·rename_i h;have ok:=dK.1 h;have a:dM X.2.2<=112:=by obtain⟨W,H,br⟩:=X;exact rE ok
  have hl:(lE X).length=dM X.2.2:=by simp[lE]
  have hx:∀x∈lE X,-1000<=x∧x<=1000:=by intro x hx;unfold lE at hx;obtain⟨k,_,rfl⟩:=bj.1 hx;have:=Na ((ir X).ov.getD k (0,0,0,0)) ((ir X).un.getD k (0,0,0,0));omega
  have s:=PG hx (lE X).length (aa _);rw[aK]at s;unfold bK;simp only;omega
 ·unfold bK;simp
theorem TP(X:bW)(a b:Int):bK (tK X a b).1:=by
 unfold tK;split
 ·unfold bK;simp
 ·rename_i h;split
  ·unfold bK;simp
  ·have f:iv X=true:=by
    cases q:iv X
    ·exact absurd (by unfold ke;simp[q]) h
    ·rfl
   have ok:=dK.1 f;have i:dM X.2.2<=112:=by obtain⟨W,H,br⟩:=X;exact rE ok
   have t:=(Cl ok (dM X.2.2) (aa _)).1;obtain⟨R,c⟩:=aC ((xM X (dM X.2.2)).getD a.toNat []);rw[<-c];have e:∀x∈R,-224<=x∧x<=224:=by
    rw[c,aA];by_cases q:a.toNat<(xM X (dM X.2.2)).length
    ·rw[ah q];intro x hx;have:=(t.row _ q).2 x hx;omega
    ·rw[dX (by omega)];simp
   have hx:-224<=R.getD b.toNat 0∧R.getD b.toNat 0<=224:=by
    rw[aA];by_cases q:b.toNat<R.length
    ·rw[ah q];exact e _ (aD q)
    ·rw[dX (by omega)];simp
   obtain⟨y,d⟩:=aC (R.getD b.toNat 0);rw[<-d]at hx;have g:(y.tdiv 2).natAbs<=y.natAbs:=by
    rcases Int.le_total 0 y with q|q
    ·rw[fD q];omega
    ·obtain⟨z,rfl⟩:∃z,y=-z:=⟨-y,by omega⟩;rw[Int.neg_tdiv,fD (by omega)];omega
   have:-224<=y.tdiv 2∧y.tdiv 2<=224:=by omega
   unfold bK;simp only[<-d];omega
noncomputable def Et(J:de):List UInt8:=bE (bC J.1:Nat)++[32]++bE (xA J.1).1
noncomputable def PZ(J:de)(x:Int):List UInt8:=Bx (cP (Bb J.1 x).1.1)++[32]++bE ((Bb J.1 x).1.2:Nat)
noncomputable def Cu(X:bW):List (List UInt8):=vL X (2*X.2.1.toNat+1)++[[111,107,32]++bE ((2*X.2.1.toNat+1:Nat):Int)]
noncomputable def lj(J:de)(w:List UInt8)(n:List Int):List (List UInt8)×Int:=
 if w=iR then(Cu J.1,0)else if w=lF then([Et J],(xA J.1).2)else if w=jc then([wI (qo J.1).1],(qo J.1).2)
 else if w=jg then([PZ J (n.getD 0 0)],(Bb J.1 (n.getD 0 0)).2)else if w=jC then([xN (Jn (ye J.1 (n.getD 0 0) (n.getD 1 0)).1)],(ye J.1 (n.getD 0 0) (n.getD 1 0)).2)
 else if w=jB then([xN (Ij (iD J.1 (n.getD 0 0)).1)],(iD J.1 (n.getD 0 0)).2)else if w=oZ then([ur (lQ J.1).1],(lQ J.1).2)
 else if w=lG then([bE (lY J.1).1],(lY J.1).2)else if w=nZ then([bE (tK J.1 (n.getD 0 0) (n.getD 1 0)).1],(tK J.1 (n.getD 0 0) (n.getD 1 0)).2)
 else if w=mg then([BA (DH J.1).1],(DH J.1).2)else([wI (jU J).1],(jU J).2)
theorem Ki(t:List UInt8):(xN t).length<=t.length+4:=by unfold xN;split<;>simp
theorem RI(hx:∀x∈X,bK x)(hl:X.length<=300):(wI X).length<=7000:=by have h1:=AG X hx X.length (aa _);rw[aK]at h1;have a:=Ki (du [44] (X.map bE));unfold wI;omega
theorem Kr{L:List Int}(hx:∀x∈L,bK x):(Bx L).length<=400:=by
 unfold Bx;split
 ·rename_i h;have h0:=Ih h;have h1:=AG L hx L.length (aa _);rw[aK]at h1;omega
 ·simp
theorem Mx{X:bW}(ok:fg X):bK ((bC X:Nat):Int):=by have:=mf ok;unfold bK;omega
def zt(L:List (List UInt8)):Prop:=1<=L.length∧L.length<=64∧∀l∈L,l.length<=300000
theorem zt.one(h:l.length<=300000):zt [l]:=⟨by simp,by simp,by simpa using h⟩
theorem aeP(X:bW):(ur (lQ X).1).length<=300000:=by
 obtain⟨h1,a,_⟩:=TL X;unfold ur;split
 ·split
  ·simp
  ·have:=Qi (sep:=[59]) (n:=5400) ((lQ X).1.map qi) (by
    intro x hx;obtain⟨R,b,rfl⟩:=bj.1 hx;refine Qz (a R b).1 λx hx=>?_;have:=(a R b).2 x hx;unfold bK;omega)
   simp only[bL,dH]at this;omega
 ·simp
theorem agy(p:Poly):(BA p).length<=300000:=by
 unfold BA;split
 ·rename_i h;have ok:=MZ h;split
  ·simp
  ·have:=Lm (lo:=p.1) (cs:=p.2) ok p.2.length (aa _);have:=ok.n;omega
 ·simp
theorem anG{J:de}(w:List UInt8)(n:List Int)(ok:gK J=true):zt (lj J w n).1:=by
 have d:=(oT.1 ok).1;have a:=dK.1 d;have hw:=a.w;have f:=a.h;unfold lj;split
 ·refine⟨by simp[Cu],by simp only[Cu,af,pO,dH];omega,?_⟩;intro l hl;rcases cS.1 hl with hl|hl
  ·unfold vL at hl;obtain⟨y,_,rfl⟩:=bj.1 hl;rw[FK];omega
  ·rw[fS.1 hl];have:=(dW (n:=((2*J.1.2.1.toNat+1:Nat):Int)) (by unfold bK;omega)).2;simp only[af,az,aF];omega
 split
 ·refine zt.one ?_;have h1:=(dW (Mx a)).2;have b:=(dW (Zo J.1)).2;unfold Et;simp only[af,az,aF];omega
 split
 ·refine zt.one ?_;have h1:=TM J.1;have:=RI h1.2 h1.1;omega
 split
 ·refine zt.one ?_;have h1:=ahL J.1 (n.getD 0 0);have:=Kr h1.2.1;have b:=(dW h1.2.2).2;unfold PZ;simp only[af,az,aF];omega
 split
 ·refine zt.one ?_;have h1:=Zp J.1 (n.getD 0 0) (n.getD 1 0);have b:=KZ h1 _ (aa _);rw[aK]at b;have e:=h1.1;have c:=Ki (Jn (ye J.1 (n.getD 0 0) (n.getD 1 0)).1);omega
 split
 ·refine zt.one ?_;have h1:=TQ J.1 (n.getD 0 0);have b:=FY _ h1.2 _ (aa _);rw[aK]at b;have c:=Ki (Ij (iD J.1 (n.getD 0 0)).1);unfold Ij at c ⊢;have:=h1.1;omega
 split
 ·exact zt.one (aeP _)
 split
 ·refine zt.one ?_;have:=(dW (ahM J.1)).2;omega
 split
 ·refine zt.one ?_;have:=(dW (TP J.1 (n.getD 0 0) (n.getD 1 0))).2;omega
 split
 ·exact zt.one (agy _)
 ·refine zt.one ?_;have h1:=PU J ok;have:=RI h1.2 (by omega);omega
theorem pM(h:a9)(t:List UInt8):aW 1 1 h [(0,.agg #[S []]),(1,S t)]=some (sl h.length 0 1 1,h++[⟨[S t],true⟩]):=by simp[aW]
theorem bP.single{t:List UInt8}(g:ae h h1):bP h (h1++[⟨[S t],true⟩]) (sl h1.length 0 1 1) 1 (texts [t]):=.inr ⟨h1.length,1,rfl,by simp[texts],g.le,by simp[texts]⟩
theorem c24(h:a9)(hp:0<h.length)(v nv:Value)(w:List UInt8)(n:List Int)(J:de)(hv:Vr h ba v J)(ok:gK J=true)(hn:Vi h nv n)(l2:w=jC∨w=nZ->n.length=2)(l1:w=jg∨w=jB->n.length=1):aN aE 24 [v,S w,nv] h λr h'=>ae h h'∧∃o,r=.tuple #[o,I (lj J w n).2]∧bP h h' o 1 (texts (lj J w n).1):=by
 have dD:=hv;have hs:=Cq ok;have U:=dK.1 (oT.1 ok).1;have LK:=U.h;have ahK:=PU J ok;obtain⟨A,i⟩:=aC (lj J w n);rw[<-i];obtain⟨W,H,b1,o1,n1,z1,b2,o2,n2,z2,b3,o3,n3,z3,rfl,j⟩:=hv.jx;obtain⟨X,g⟩:=aC J.1;rw[<-g]at j U LK;refine afq ?_;rw[aw,cy];generalize d:aP aE _ _ 0=K;simp(disch:=omega);subst d;simp only[aq];rw[aw,cy];generalize d:aP aE _ _ 0=K;simp(disch:=omega);subst d;simp only[aq];rw[aw];generalize d:aP aE _ _=K;by_cases e0:w=[112,105,99,116,117,114,101]
 ·subst e0;have a:A=(Cu J.1,0):=by rw[i];simp[lj,iR,lF,jc,jg,jC,jB,oZ,lG,nZ,mg]
  unfold Cu at a;rw[<-g]at a;have u:=aB2 h hp _ X j U;obtain⟨k,ek⟩:=aC (2*X.2.1.toNat+1);have hk:k<=17:=by omega
  rw[<-ek]at u a;subst a;simp(disch:=omega);refine aO u ?_;rintro _ h1⟨g1,o,rfl,T⟩;have kf:=T;obtain⟨lb,rfl,FG⟩:=T.Fs;rw[pO]at kf ⊢;simp(disch:=omega);refine aO (zC _ (show bK (k:Int)by unfold bK;omega) h1 (aL hp g1)) ?_;rintro _ c⟨rfl,g2⟩;have dl:=(dW (n:=(k:Int)) (by unfold bK;omega)).2;have f1:(bE (k:Int)).length+3<=4611686018427387904:=by omega
  have f2:3+(bE (k:Int)).length<=4611686018427387904:=by omega
  have f3:(bE (k:Int)).length<=4611686018427387901:=by omega
  have G:=g1.trans g2;simp(disch:=omega)[f1,f2,f3];refine lN hp (by rw[pO];omega) G (kf.grow g2) λv3 h3 Z b3=>?_
  try simp(disch:=omega)
  obtain⟨lb3,rfl,_⟩:=b3.Fs
  try subst d
  simp(disch:=omega)[cY,cJ,cO,bD]
  try simp only[fx,df]at b3
  first|exact⟨Z,by simpa using b3⟩|exact⟨Z,_,rfl,by simpa using b3⟩
 by_cases e1:w=[99,111,117,110,116]
 ·subst e1;have a:A=([Et J],(xA J.1).2):=by rw[i];simp[lj,iR,lF,jc,jg,jC,jB,oZ,lG,nZ,mg]
  have i64:=Zo X;have T8:=Mx U;rw[<-g]at a;unfold Et at a;rw[<-g]at a;obtain⟨N,b⟩:=aC (xA X);have F:=c71 h hp _ X j;have yF:=λh hp v hv=>Ms h hp v X hv U;obtain⟨C,Y⟩:∃C:Int,C=(bC X:Nat):=⟨_,rfl⟩;rw[<-b]at F a i64;rw[<-Y]at yF a T8;subst a;simp(disch:=omega);refine aO F ?_;rintro _ h1⟨g1,rfl⟩;simp(disch:=omega);refine aO (yF h1 (aL hp g1) _ (j.grow g1)) ?_;rintro _ c⟨g2,rfl⟩;have gT:=g1.trans g2
  try simp(disch:=omega)
  refine aO (zC _ T8 c (aL hp gT)) ?_;rintro _ h3⟨rfl,Z⟩;have tO:=gT.trans Z;have d1:=(dW T8).2;have d2:=(dW i64).2;have f1:(bE C).length<=4611686018427387903:=by omega
  have f2:(bE C).length+1+(bE N.1).length<=4611686018427387904:=by omega
  have f3:(bE C).length+(1+(bE N.1).length)<=4611686018427387904:=by omega
  have f4:(bE C).length+((bE N.1).length+1)<=4611686018427387904:=by omega
  simp(disch:=omega)[f1];refine aO (zC _ i64 h3 (aL hp tO)) ?_;rintro _ h4⟨rfl,g4⟩;have G:=tO.trans g4;simp(disch:=omega)[f2,f3,f4,pM];subst d;simp(disch:=omega)[cY,cJ,cO,bD];refine⟨G.trans ⟨_,rfl⟩,?_⟩;have:=bP.single (t:=bE C++32::bE N.1) G;simpa using this
 by_cases e2:w=[108,101,110,103,116,104,115]
 ·subst e2;have a:A=([wI (qo J.1).1],(qo J.1).2):=by rw[i];simp[lj,iR,lF,jc,jg,jC,jB,oZ,lG,nZ,mg]
  rw[<-g]at a;obtain⟨hl,f⟩:=TM X;have L:=c73 h hp _ X j;obtain⟨N,b⟩:=aC (qo X);rw[<-b]at L a hl f;subst a;simp(disch:=omega);refine aO L ?_;rintro _ h1⟨o,rfl,r,⟨p,ro,rn,q,rfl⟩,g1⟩;simp(disch:=omega);refine aO (TY h1 (aL hp g1) _ N.1 (Vi.rw r (by rw[cH];omega) f) (by omega)) ?_;rintro _ c⟨g2,rfl⟩;have G:=g1.trans g2
  try simp(disch:=omega)
  refine aO (Zs _ c) ?_;rintro _ _⟨rfl,rfl⟩
  try subst d
  simp(disch:=omega)[pM,cY,cJ,cO,bD]
  first|exact⟨G.trans ⟨_,rfl⟩,bP.single G⟩|exact⟨G.trans ⟨_,rfl⟩,_,rfl,bP.single G⟩
 by_cases e3:w=[99,111,108,117,109,110]
 ·subst e3;have a:A=([PZ J (n.getD 0 0)],(Bb J.1 (n.getD 0 0)).2):=by rw[i];simp[lj,iR,lF,jc,jg,jC,jB,oZ,lG,nZ,mg]
  have nl:=l1 (.inl rfl);obtain⟨nb,no,nz,rfl,l⟩:=hn.at;rw[nl];obtain⟨e,m⟩:=l 0 (by omega);rw[bA]at e;obtain⟨x,ex⟩:=aC (n.getD 0 0);rw[<-ex]at e m a;rw[<-g]at a;unfold PZ at a;rw[<-g]at a;obtain⟨hl,f,V⟩:=ahL X x;have Q:=c85 h hp _ X x j m;obtain⟨N,b⟩:=aC (Bb X x);rw[<-b]at Q a hl f V;subst a;simp(disch:=omega)[e];refine aO Q ?_;rintro _ h1⟨g1,cw,rfl,r⟩;obtain⟨p,ro,rn,q,rfl⟩:=r.sl;simp(disch:=omega);refine aO (axl h1 (aL hp g1) _ _ (Vi.rw r (by rw[cH,jh];omega) f)) ?_;rintro _ c⟨g2,rfl⟩;have gT:=g1.trans g2;have d1:=Kr f;have d2:=(dW V).2;obtain⟨C,Y⟩:∃C:Int,C=(N.1.2:Nat):=⟨_,rfl⟩;rw[<-Y]at d2 V ⊢;obtain⟨P,eP⟩:=aC (Bx (cP N.1.1));rw[<-eP]at d1 ⊢;have f1:P.length<=4611686018427387903:=by omega
  have f2:P.length+1+(bE C).length<=4611686018427387904:=by omega
  have f3:P.length+(1+(bE C).length)<=4611686018427387904:=by omega
  have f4:P.length+((bE C).length+1)<=4611686018427387904:=by omega
  simp(disch:=omega)[f1];refine aO (zC _ V c (aL hp gT)) ?_;rintro _ h4⟨rfl,g4⟩;have G:=gT.trans g4;simp(disch:=omega)[f2,f3,f4,pM];subst d;simp(disch:=omega)[cY,cJ,cO,bD];refine⟨G.trans ⟨_,rfl⟩,?_⟩;have:=bP.single (t:=P++32::bE C) G;rw[<-eP,<-Y];simpa using this
 by_cases e4:w=[115,101,97,114,99,104]
 ·subst e4;have a:A=([xN (Jn (ye J.1 (n.getD 0 0) (n.getD 1 0)).1)],(ye J.1 (n.getD 0 0) (n.getD 1 0)).2):=by rw[i];simp[lj,iR,lF,jc,jg,jC,jB,oZ,lG,nZ,mg]
  have nl:=l2 (.inl rfl);obtain⟨nb,no,nz,rfl,l⟩:=hn.at;rw[nl];obtain⟨e,m⟩:=l 0 (by omega);rw[bA]at e;obtain⟨x,ex⟩:=aC (n.getD 0 0);rw[<-ex]at e m a;obtain⟨q1,i1⟩:=l 1 (by omega);obtain⟨y,ey⟩:=aC (n.getD 1 0);rw[<-ey]at q1 i1 a;rw[<-g]at a;have T:=Zp X x y;have O:=c83 h hp _ X x y j;obtain⟨N,b⟩:=aC (ye X x y);rw[<-b]at O a T;subst a;simp(disch:=omega)[e,q1];refine aO O ?_;rintro _ h1⟨g1,p,ro,rn,q,rfl,r⟩;simp(disch:=omega);refine aO (aCj h1 (aL hp g1) _ N.1 r T) ?_;rintro _ c⟨g2,rfl⟩;have G:=g1.trans g2
  try simp(disch:=omega)
  refine aO (Zs _ c) ?_;rintro _ _⟨rfl,rfl⟩
  try subst d
  simp(disch:=omega)[pM,cY,cJ,cO,bD]
  first|exact⟨G.trans ⟨_,rfl⟩,bP.single G⟩|exact⟨G.trans ⟨_,rfl⟩,_,rfl,bP.single G⟩
 by_cases e5:w=[112,97,115,115,101,115]
 ·subst e5;have a:A=([xN (Ij (iD J.1 (n.getD 0 0)).1)],(iD J.1 (n.getD 0 0)).2):=by rw[i];simp[lj,iR,lF,jc,jg,jC,jB,oZ,lG,nZ,mg]
  have nl:=l1 (.inr rfl);obtain⟨nb,no,nz,rfl,l⟩:=hn.at;rw[nl];obtain⟨e,m⟩:=l 0 (by omega);rw[bA]at e;obtain⟨x,ex⟩:=aC (n.getD 0 0);rw[<-ex]at e m a;rw[<-g]at a;obtain⟨hl,f⟩:=TQ X x;have z:=aB3 h hp _ X x j;obtain⟨N,b⟩:=aC (iD X x);rw[<-b]at z a hl f;subst a;simp(disch:=omega)[e];refine aO z ?_;rintro _ h1⟨o,rfl,r,⟨p,ro,rn,q,rfl⟩,g1⟩;simp(disch:=omega);refine aO (aB4 h1 (aL hp g1) _ N.1 r (by omega) f) ?_;rintro _ c⟨g2,rfl⟩;have G:=g1.trans g2
  try simp(disch:=omega)
  refine aO (Zs _ c) ?_;rintro _ _⟨rfl,rfl⟩
  try subst d
  simp(disch:=omega)[pM,cY,cJ,cO,bD]
  first|exact⟨G.trans ⟨_,rfl⟩,bP.single G⟩|exact⟨G.trans ⟨_,rfl⟩,_,rfl,bP.single G⟩
 by_cases e6:w=[99,111,100,101]
 ·subst e6;have a:A=([ur (lQ J.1).1],(lQ J.1).2):=by rw[i];simp[lj,iR,lF,jc,jg,jC,jB,oZ,lG,nZ,mg]
  rw[<-g]at a;obtain⟨hl,f,hf⟩:=TL X;have E:=c68 h hp _ X j;obtain⟨N,b⟩:=aC (lQ X);rw[<-b]at E a hl f hf;subst a;simp(disch:=omega);refine aO E ?_;rintro _ h1⟨o,rfl,r,g1⟩;have r0:=r;obtain⟨p,ro,q,rfl,_⟩:=r;simp(disch:=omega);refine aO (c69 h1 (aL hp g1) _ N.1 r0 (by omega) f hf) ?_;rintro _ c⟨g2,rfl⟩;have G:=g1.trans g2
  try subst d
  simp(disch:=omega)[pM,cY,cJ,cO,bD]
  first|exact⟨G.trans ⟨_,rfl⟩,bP.single G⟩|exact⟨G.trans ⟨_,rfl⟩,_,rfl,bP.single G⟩
 by_cases e7:w=[119,114,105,116,104,101]
 ·subst e7;have a:A=([bE (lY J.1).1],(lY J.1).2):=by rw[i];simp[lj,iR,lF,jc,jg,jC,jB,oZ,lG,nZ,mg]
  rw[<-g]at a;have i64:=ahM X;have B:=aCd h hp _ X j;obtain⟨N,b⟩:=aC (lY X);rw[<-b]at B a i64;subst a;simp(disch:=omega);refine aO B ?_;rintro _ h1⟨g1,rfl⟩;simp(disch:=omega);refine aO (zC _ i64 h1 (aL hp g1)) ?_;rintro _ c⟨rfl,g2⟩;have G:=g1.trans g2
  try subst d
  simp(disch:=omega)[pM,cY,cJ,cO,bD]
  first|exact⟨G.trans ⟨_,rfl⟩,bP.single G⟩|exact⟨G.trans ⟨_,rfl⟩,_,rfl,bP.single G⟩
 by_cases e8:w=[108,105,110,107]
 ·subst e8;have a:A=([bE (tK J.1 (n.getD 0 0) (n.getD 1 0)).1],(tK J.1 (n.getD 0 0) (n.getD 1 0)).2):=by rw[i];simp[lj,iR,lF,jc,jg,jC,jB,oZ,lG,nZ,mg]
  have nl:=l2 (.inr rfl);obtain⟨nb,no,nz,rfl,l⟩:=hn.at;rw[nl];obtain⟨e,m⟩:=l 0 (by omega);rw[bA]at e;obtain⟨x,ex⟩:=aC (n.getD 0 0);rw[<-ex]at e m a;obtain⟨q1,i1⟩:=l 1 (by omega);obtain⟨y,ey⟩:=aC (n.getD 1 0);rw[<-ey]at q1 i1 a;rw[<-g]at a;have i64:=TP X x y;have R:=c96 h hp _ X x y j;obtain⟨N,b⟩:=aC (tK X x y);rw[<-b]at R a i64;subst a;simp(disch:=omega)[e,q1];refine aO R ?_;rintro _ h1⟨g1,rfl⟩;simp(disch:=omega);refine aO (zC _ i64 h1 (aL hp g1)) ?_;rintro _ c⟨rfl,g2⟩;have G:=g1.trans g2
  try subst d
  simp(disch:=omega)[pM,cY,cJ,cO,bD]
  first|exact⟨G.trans ⟨_,rfl⟩,bP.single G⟩|exact⟨G.trans ⟨_,rfl⟩,_,rfl,bP.single G⟩
 by_cases e9:w=[98,114,97,99,107,101,116]
 ·subst e9;have a:A=([BA (DH J.1).1],(DH J.1).2):=by rw[i];simp[lj,iR,lF,jc,jg,jC,jB,oZ,lG,nZ,mg]
  rw[<-g]at a;have hl:=aor X;have D:=c63 h hp _ X j;obtain⟨N,b⟩:=aC (DH X);rw[<-b]at D a hl;subst a;simp(disch:=omega);refine aO D ?_;rintro _ h1⟨g1,o,rfl,pv,s,rfl,p,ro,rn,q,rfl⟩;simp(disch:=omega);refine aO (aB5 h1 (aL hp g1) _ N.1 pv hl) ?_;rintro _ c⟨g2,rfl⟩;have G:=g1.trans g2
  try subst d
  simp(disch:=omega)[pM,cY,cJ,cO,bD]
  first|exact⟨G.trans ⟨_,rfl⟩,bP.single G⟩|exact⟨G.trans ⟨_,rfl⟩,_,rfl,bP.single G⟩
 have a:A=([wI (jU J).1],(jU J).2):=by rw[i];simp[lj,iR,lF,jc,jg,jC,jB,oZ,lG,nZ,mg,e0,e1,e2,e3,e4,e5,e6,e7,e8,e9]
 have M:=c74 h hp _ J dD hs;obtain⟨hl,f⟩:=ahK;obtain⟨N,b⟩:=aC (jU J);rw[<-b]at M a hl f;subst a;simp(disch:=omega)[e0,e1,e2,e3,e4,e5,e6,e7,e8,e9];subst d;simp(disch:=omega);refine aO M ?_;rintro _ h1⟨g1,r0,rfl,vo,_⟩;have vi:=Vi.vr vo.vr;obtain⟨p,ro,q,rfl,_⟩:=vo.vr.ints;simp(disch:=omega);refine aO (TY h1 (aL hp g1) _ N.1 vi (by omega)) ?_;rintro _ c⟨g2,rfl⟩;have G:=g1.trans g2
 try simp(disch:=omega)
 refine aO (Zs _ c) ?_;rintro _ _⟨rfl,rfl⟩;simp(disch:=omega)[pM,cY,cJ,cO,bD]
 first|exact⟨G.trans ⟨_,rfl⟩,bP.single G⟩|exact⟨G.trans ⟨_,rfl⟩,_,rfl,bP.single G⟩
theorem NP{J:de}{w:List UInt8}{n:List Int}(ok:gK J=true)(h:(rR J w n).2=0):gK (rR J w n).1=true:=by
 unfold rR at h ⊢;split at h
 ·rename_i e;rw[if_pos e];unfold jO at h ⊢;rw[if_pos ok]at h ⊢;split at h
  ·simp at h
  ·rename_i q;rw[if_neg q];exact(anL ok q).1
 rename_i a;rw[if_neg a];split at h
 ·rename_i e;rw[if_pos e];unfold jM at h ⊢;rw[if_pos ok]at h ⊢;split at h
  ·simp at h
  ·rename_i q;rw[if_neg q];exact(anz ok q).1
 rename_i b;rw[if_neg b];split at h
 ·rename_i e;rw[if_pos e];unfold pR at h ⊢;rw[if_pos ok]at h ⊢;obtain⟨⟨W,H,br⟩,p,f⟩:=J;exact(ayl ok).ok
 rename_i c;rw[if_neg c];split at h
 ·rename_i e;rw[if_pos e];unfold Fm at h ⊢;split at h
  ·rename_i q;rw[if_pos q];unfold lR at h ⊢;rw[if_pos ok]at h ⊢;split at h
   ·rename_i q2;rw[if_pos q2];obtain⟨⟨W,H,br⟩,p,f⟩:=J;exact(ae0 ok q2).1
   ·rename_i q2;exact absurd h q2
  ·rename_i q;exact absurd h q
 rename_i d;rw[if_neg d];split at h
 ·rename_i e;rw[if_pos e];unfold Ia at h ⊢;split at h
  ·rename_i q;rw[if_pos q];unfold oX at h ⊢;split at h
   ·rename_i q2;rw[if_pos q2];exact oT.2 ⟨q2,by simp,⟨_,rfl⟩,_,rfl⟩
   ·simp at h
  ·rename_i q;exact absurd h q
 ·rename_i e;rw[if_neg e];exact ok
def Dl(w:List UInt8):Prop:=w=zp∨w=zr∨w=re∨w=rQ∨w=oV∨w=Ix
instance (w:List UInt8):Decidable (Dl w):=by unfold Dl;infer_instance
noncomputable def F0(s:List UInt8):de:=((gU s).1,[],[])
noncomputable def Aa(J:de)(A:de×Int):de×List (List UInt8)×Int:=if A.2=0 then(A.1,[rK A.1],0)else(J,[],A.2)
noncomputable def nj(J:de)(w:List UInt8)(n:List Int):de×List (List UInt8)×Int:=if Dl w then Aa J (rR J w n)else(J,(lj J w n).1,(lj J w n).2)
def wL(l:List (List UInt8)):Prop:=∀x∈l,(eU x).2=true
instance (l:List (List UInt8)):Decidable (wL l):=by unfold wL;infer_instance
def qp(l:List (List UInt8)):List Int:=l.map λx=>(eU x).1
noncomputable def sC(J:de)(w:List UInt8)(l:List (List UInt8)):de×List (List UInt8)×Int:=
 if w=xQ then(if(gU (l.getD 0 [])).2=true then(F0 (l.getD 0 []),[rK (F0 (l.getD 0 []))],0)else(J,[],8))
 else if wL l then nj J w (qp l)else(J,[],7)
theorem Qy{s:List UInt8}(h:(gU s).2=true):gK (F0 s)=true:=by
 rcases IT s with⟨X,a,_,c⟩|⟨_,c⟩
 ·unfold F0;rw[c];exact oT.2 ⟨dK.2 a,by simp,⟨_,rfl⟩,_,rfl⟩
 ·rw[c]at h;simp at h
theorem UB{J:de}{l:List (List UInt8)}(ok:gK J=true):gK (sC J w l).1=true:=by
 unfold sC;split
 ·split
  ·rename_i h;exact Qy h
  ·exact ok
 ·split
  ·unfold nj;split
   ·unfold Aa;split
    ·rename_i h;exact NP ok h
    ·exact ok
   ·exact ok
  ·exact ok
theorem Ul{J:de}(ok:gK J=true):(rK J).length<=1000:=by obtain⟨⟨W,H,br⟩,p,f⟩:=J;obtain⟨a,hle,_⟩:=nh ok;have hw:=a.w;have b:=a.h;have hl:=jH a;simp only at hw b;have l1:=MW (X:=(W,H,br)) (by unfold bK;simp only;omega) (by unfold bK;simp only;omega);have l2:=(dW (n:=(p.length:Int)) (by unfold bK;omega)).2;have l3:=(dW (n:=(f.length:Int)) (by unfold bK;omega)).2;unfold rK;simp only[af,az,aF]at l1 ⊢;omega
theorem aku(h:a9)(hp:0<h.length)(v:Value)(J:de)(c:Vr h ba v J)(ok:gK J=true):aN aE 157 [v] h λr h'=>ae h h'∧r=S (rK J):=by obtain⟨⟨W,H,br⟩,p,f⟩:=J;obtain⟨a,hle,_⟩:=nh ok;have hl:=jH a;exact aCi h hp v W H br p f c a.b (by omega) (by omega) (by omega)
def aBB(h h':a9)(r:Value)(A:de×List (List UInt8)×Int):Prop:=ae h h'∧∃c a,r=.tuple #[c,a,I A.2.2]∧Vr h' ba c A.1∧(∃b o n z,a=sl b o n z)∧(A.2.2=0->bP h h' a 1 (texts A.2.1))
end Am

/- Contracts of functions. -/
import Derived.Test.YtpgioncclmancaaGreatPK3
set_option linter.unusedVariables false
set_option linter.unusedSimpArgs false
set_option maxHeartbeats 4000000
set_option maxRecDepth 40000
namespace Am
open Go
variable{h h1:a9}{b z y lo jb a f i b1 b2 b3 nb:Nat}{cs rest new Lg:List Value}{s l:List UInt8}{br:List Int}{W H:Int}
def JM(h:a9)(lo jb:Nat)(X:de)(rest:List Value):Prop:=∃b1 z1 b2 z2 b3 z3,
 h[jb]?=some ⟨[I X.1.1,I X.1.2.1,sl b1 0 X.1.2.2.length z1,sl b2 0 X.2.1.length z2,sl b3 0 X.2.2.length z3],true⟩∧lo<=jb∧0<lo∧(z1=1∨b1=0∧X.1.2.2=[])∧
 (X.1.2.2=[]∨h[b1]?=some ⟨ints X.1.2.2,true⟩∧lo<=b1∧b1≠jb∧b1≠b2∧b1≠b3)∧
 (X.2.1=[]∧b2=0∨z2=3∧h[b2]?=some ⟨cW X.2.1++rest,true⟩∧lo<=b2∧b2≠jb∧b2≠b3)∧
 (X.2.2=[]∧b3=0∨z3=3∧h[b3]?=some ⟨cW X.2.2,true⟩∧lo<=b3∧b3≠jb)∧Xw X
theorem Gl{n:Nat}{x:Value}{k:Value->a9->Prop}(o:cs=[]∧n=0∧b=0∨b≠0∧n*z=cs.length∧h[b]?=some ⟨cs++rest,true⟩)(hy:b=0∨y=z)(hn:cR z h x=some new)(p:0<z)(g:new≠[])(hm:new.length/z*z=new.length)
  (l:cs.length+new.length<=maxSize) (j:∀h',h.length<h'.length->(∀c,c<h.length->c≠b∨b=0->h'[c]?=h[c]?)->h'[h.length]?=some ⟨cs++new,true⟩->k (sl h.length 0 (n+new.length/z) z) h'):gE (cu z h x (sl b 0 n y)) k:=by
 rcases o with⟨rfl,rfl,rfl⟩|⟨q,i,a⟩
 ·have e:cu z h x (sl 0 0 0 y)=some (sl h.length 0 (0+new.length/z) z,h++[⟨new,true⟩]):=by simp only[cu,hn];rw[if_neg (by omega),if_neg g,if_neg (by simp at l;omega),if_pos trivial];simp
  rw[e];exact j _ (by simp) (λc d _=>ai d) (by simp)
 ·have f:=hy.resolve_left q;subst f;have m:n<=cs.length:=by rw[<-i];exact fL n p
  have e:cu y h x (sl b 0 n y)=some (sl h.length 0 (n+new.length/y) y,h.set b ⟨[],false⟩++[⟨cs++new,true⟩]):=by
   simp only[cu,hn];rw[if_neg (by omega),if_neg g,if_neg (by omega),if_neg (by omega)];simp only[a];have:aZ h b 0 (n*y)=some cs:=by rw[fB a (by simp;omega)];simp[i]
   rw[if_pos ⟨trivial,trivial⟩,this]
  rw[e];have r:=bZ a;refine j _ (by simp) (λc d hn=>?_) (by simp);rw[ai (by simpa using d),ag (by omega)]
theorem jJ{c:Nat}{k:mm}(a:c≠b):(h.set b k)[c]?=h[c]?:=ag λe=>a e.symm
theorem aDG(h:a9)(lo jb:Nat)(X:de)(rest:List Value)(k kind:Int)(wk:bK k)(M:bK kind)(hJ:JM h lo jb X rest):
  aN aE 556 [pt jb 0,I k,I kind] h λr h'=>r=I (mM X k kind)∧(mM X k kind≠0->h'=h)∧(mM X k kind=0->Mod lo h.length h h'∧JM h' lo jb (BQ X k kind) []):=by
 obtain⟨⟨W,H,br⟩,p,f⟩:=X;obtain⟨b1,z1,b2,z2,b3,z3,z,fh,jV,R,Q,t,i3,wf⟩:=hJ;have hjw:=wf;obtain⟨w1,w2,L,T,x3,y1,y2,y3⟩:=wf;simp only at z R Q t i3 w1 w2 L T x3 y1 y2 y3;have G:cell h jb 2=some (sl b1 0 br.length z1):=by simp[cell,z]
 have S:cell h jb 3=some (sl b2 0 p.length z2):=by simp[cell,z]
 have zK:=bZ z;refine ag8 λK a=>?_;refine a ?_;rw[aw];generalize a:aP aE _ _=K;simp(disch:=omega)[G,wrap64];refine aQ (xW k 0 ((br.length:Int)-1) h) ?_;rintro _ h1⟨rfl,rfl⟩;cases q1:gZ k 0 ((br.length:Int)-1)
 ·have e:mM ((W,H,br),p,f) k kind=2:=by simp[mM,q1]
  subst a;rw[e];simp(disch:=omega)
 simp(disch:=omega);refine aQ (ahV kind h1) ?_;rintro _ h1⟨rfl,rfl⟩;cases q2:oD kind
 ·have e:mM ((W,H,br),p,f) k kind=2:=by simp[mM,q1,q2]
  subst a;rw[e];simp(disch:=omega)
 have B:=q1;rw[fM]at q1;obtain⟨j,rfl⟩:=bc q1.1;have q:j<br.length:=by omega
 have P:br≠[]:=by intro e;rw[e]at q;simp at q
 obtain⟨u,j1,F,j3,j4⟩:=Q.resolve_left P;have cb:=wh u q;simp(disch:=omega);subst a;simp only[aq];refine bg λK a=>?_;simp(disch:=omega)[G,q,cb];refine a ?_;rw[aw];generalize a:aP aE _ _=K;simp(disch:=omega);refine aG (λd=>?_) (λd=>?_)
 ·have e:mM ((W,H,br),p,f) j kind=6:=by simp[mM,B,q2,d]
  subst a;rw[e];simp(disch:=omega)
 simp(disch:=omega);subst a;simp only[aq];rw[aw];generalize a:aP aE _ _=K;simp(disch:=omega)[S];refine aG (λg=>?_) (λg=>?_)
 ·have g:50<=p.length:=by omega
  have e:mM ((W,H,br),p,f) j kind=5:=by simp[mM,B,q2,d,g]
  subst a;rw[e];simp(disch:=omega)
 have g:¬50<=p.length:=by omega
 have e:mM ((W,H,br),p,f) j kind=0:=by simp[mM,B,q2,d,g]
 simp(disch:=omega);subst a;rw[e];simp only[aq];refine bg λK a=>?_;have ft:=rI (v:=kind) u q;simp(disch:=omega)[G,q,ft];refine a ?_;refine bg λK a=>?_;obtain⟨b,i⟩:=aC (h1.set b1 ⟨ints (br.set j kind),true⟩);rw[<-i];have l2:b.length=h1.length:=by rw[i];simp
 have o2:∀c,c≠b1->b[c]?=h1[c]?:=λc A=>by rw[i];exact jJ A
 have J:cell b jb 3=some (sl b2 0 p.length z2):=by unfold cell;rw[o2 jb (by omega)];exact S
 simp(disch:=omega)[J,aW];refine Gl (cs:=cW p) (rest:=rest) (new:=[I j,I (fi br j),I kind]) ?_ ?_ ?_ (by omega) (by simp) (by simp) (by rw[gD];simp[maxSize];omega) ?_
 ·rcases t with⟨s,m⟩|⟨s,m,V,Y,Z⟩
  ·left;exact⟨by rw[s];rfl,by rw[s];rfl,m⟩
  ·right;refine⟨by omega,by rw[gD];omega,?_⟩;rw[ai (by rw[l2];exact bZ m),o2 b2 (by omega)];exact m
 ·rcases t with⟨s,m⟩|⟨s,m,V,Y,Z⟩
  ·exact .inl m
  ·exact .inr s
 ·simp[cR];rw[fB (k:=⟨[I j,I (fi br j),I kind],true⟩) (by simp) (by simp)];simp
 intro d U N O;simp only[af,az,aF]at U N O;have l:∀c,c<h1.length->c≠b2∨b2=0->d[c]?=b[c]?:=λc A hn=>by
  rw[N c (by omega) hn,ai (by omega)]
 have C:jb≠b2∨b2=0:=by rcases t with e|e<;>omega
 have w:d[jb]?=some ⟨[I W,I H,sl b1 0 br.length z1,sl b2 0 p.length z2,sl b3 0 f.length z3],true⟩:=by rw[l jb zK C,o2 jb (by omega)];exact z
 have D:=ld (v:=sl (b.length+1) 0 (p.length+1) 3) (o:=3) w (by simp);simp(disch:=omega)[D];refine a ?_;obtain⟨g,n⟩:=aC (d.set jb ⟨[I W,I H,sl b1 0 br.length z1,sl (b.length+1) 0 (p.length+1) 3,sl b3 0 f.length z3],true⟩);rw[<-n];have y:g[jb]?=some ⟨[I W,I H,sl b1 0 br.length z1,sl (b.length+1) 0 (p.length+1) 3,sl b3 0 f.length z3],true⟩:=by rw[n];simp[bZ w]
 have E:=ld (v:=sl 0 0 0 0) (o:=4) y (by simp);simp(disch:=omega)[E];have o5:∀c,c<h1.length->c≠jb->(c≠b2∨b2=0)->c≠b1->(g.set jb ⟨[I W,I H,sl b1 0 br.length z1,sl (b.length+1) 0 (p.length+1) 3,sl 0 0 0 0],true⟩)[c]?=h1[c]?:=λc h1 b d g=>by
  rw[jJ b,n,jJ b,l c h1 d,o2 c g]
 have l4:g.length=d.length:=by rw[n];simp
 refine⟨⟨by simp;omega,λc A hn=>o5 c A (by omega) (by rcases t with e|e<;>omega) (by omega)⟩,b1,z1,b.length+1,3,0,0,?_,fh,jV,?_,.inr ?_,.inr ?_,.inl ⟨rfl,rfl⟩,?_⟩
 ·simp[BQ,bZ y]
 ·exact .inl (R.resolve_right λe=>P e.2)
 ·refine⟨?_,j1,F,by have:=bZ u;omega,by omega⟩;rw[jJ F,n,jJ F,l b1 (bZ u) (by rcases t with e|e<;>omega),i];simp[BQ,bZ u]
 ·refine⟨rfl,?_,by omega,by omega,by omega⟩;rw[jJ (by omega),n,jJ (by omega),O];simp[BQ,rJ,iX,qe]
 ·refine⟨w1,w2,?_,?_,by simp[BQ],by simp[BQ];omega,by simp[BQ];omega,by simp[BQ]⟩
  ·intro x hx;simp only[BQ,aM]at hx;rcases bJ hx with hx|rfl
   ·exact L x hx
   ·exact M
  ·intro x hx;simp only[BQ]at hx;rcases cS.1 hx with hx|hx
   ·exact T x hx
   ·simp at hx;subst hx;exact⟨wk,KV L _,M⟩
theorem JM.own{r:Value}{X:de}(hp:0<h.length)(x:Tt h h1 r X)(wf:Xw X):∃b1 z1 b2 z2 b3 z3,r=.agg #[I X.1.1,I X.1.2.1,sl b1 0 X.1.2.2.length z1,sl b2 0 X.2.1.length z2,sl b3 0 X.2.2.length z3]∧
  JM (h1++[⟨[I X.1.1,I X.1.2.1,sl b1 0 X.1.2.2.length z1,sl b2 0 X.2.1.length z2,sl b3 0 X.2.2.length z3],true⟩]) h.length h1.length X []:=by
 obtain⟨⟨W,H,br⟩,p,f⟩:=X;obtain⟨g,s,sp,t,q,i,rfl,l1,l2,l3,o1,o2,o3⟩:=x;obtain⟨b1,z1,rfl,d,hm,hx,m⟩:=o1.ints;have j:∃b2 z2,sp=sl b2 0 p.length z2∧(p=[]∧b2=0∨z2=3∧h1[b2]?=some ⟨cW p,true⟩∧q<=b2∧b2<i):=by
  rcases o2 with⟨e,y,a⟩|⟨b,n,e,a,c,k,l⟩
  ·have:=uj e
   grind
  ·rw[gD]at a
   grind
 have c:∃b2 z2,t=sl b2 0 f.length z2∧(f=[]∧b2=0∨z2=3∧h1[b2]?=some ⟨cW f,true⟩∧i<=b2∧b2<h1.length):=by
  rcases o3 with⟨e,y,a⟩|⟨b,n,e,a,c,k,l⟩
  ·have:=uj e
   grind
  ·rw[gD]at a
   grind
 obtain⟨b2,z2,rfl,o⟩:=j;obtain⟨b3,z3,rfl,u⟩:=c;simp only at m d;refine⟨b1,z1,b2,z2,b3,z3,rfl,b1,z1,b2,z2,b3,z3,by simp,by omega,hp,d,?_,?_,?_,wf⟩
 ·grind
 ·refine o.imp id λe=>⟨e.1,by simpa using xq e.2.1,by omega,by omega,?_⟩;omega
 ·grind
theorem JM.vo{X:de}(x:JM h lo jb X []):∃cs,h[jb]?=some ⟨cs,true⟩∧cs.length=5∧Vo h lo h.length ba (.agg cs.toArray) X:=by
 obtain⟨⟨W,H,br⟩,p,f⟩:=X;obtain⟨b1,z1,b2,z2,b3,z3,l,o,q,g,d,b,c,wf⟩:=x;obtain⟨w1,w2,i,j,k,y1,y2,n⟩:=wf;simp only at l g d b c w1 w2 i j k y1 y2 n;refine⟨_,l,rfl,?_⟩;have v1:Vo h (if br=[]then 0 else b1) (if br=[]then 0 else b1+1) cZ (sl b1 0 br.length z1) br:=Vo.fY g (by rw[cH];omega) i (by
  rcases d with e|e
  ·exact .inl e
  ·by_cases a:br=[]
   ·exact .inl a
   ·exact .inr ⟨e.1,by simp[a]⟩)
 have v2:Vo h (if p=[]then 0 else b2) (if p=[]then 0 else b2+1) gC (sl b2 0 p.length z2) p:=Vo.rY (b.elim (λe=>.inr ⟨e.2,e.1⟩) λe=>.inl e.1) (by rw[cH];omega) j (by
  by_cases a:p=[]
  ·exact .inl a
  ·rcases b with e|e
   ·exact absurd e.1 a
   ·exact .inr ⟨by simpa using e.2.1,by simp[a]⟩)
 have m:Vo h (if f=[]then 0 else b3) (if f=[]then 0 else b3+1) gC (sl b3 0 f.length z3) f:=Vo.rY (c.elim (λe=>.inr ⟨e.2,e.1⟩) λe=>.inl e.1) (by rw[cH];omega) k (by
  by_cases a:f=[]
  ·exact .inl a
  ·rcases c with e|e
   ·exact absurd e.1 a
   ·exact .inr ⟨e.2.1,by simp[a]⟩)
 refine Vo.qX w1 w2 v1 v2 m ?_ ?_ ?_ ?_ ?_ ?_
 ·unfold xz;split
  ·exact .inl rfl
  ·grind
 ·unfold xz;split
  ·exact .inl rfl
  ·grind
 ·unfold xz;split
  ·exact .inl rfl
  ·grind
 ·unfold BO
  grind
 ·unfold BO
  grind
 ·unfold BO
  grind
theorem Ge{v:Value}{X:de}(x:Vr h ba v X)(c:hI ba X<=1048576):Xw X:=by obtain⟨⟨W,H,br⟩,p,f⟩:=X;rw[mz]at c;obtain⟨s,sp,j,rfl,w1,w2,e,g,i⟩:=x.og;obtain⟨_,_,_,_,_,_,d,_⟩:=e.ints;obtain⟨_,_,_,_,_,_,a,_⟩:=g.cW;obtain⟨_,_,_,_,_,_,b,_⟩:=i.cW;exact⟨w1,w2,d,a,b,by simp only;omega,by simp only;omega,by simp only;omega⟩
theorem aCK(h:a9)(hp:0<h.length)(v0:Value)(b:de)(u:Vr h ba v0 b)(o:hI ba b<=1048576)(k:Int)(wk:bK k)(kind:Int)(D:bK kind):
  aN aE 348 [v0,I k,I kind] h λr h'=>ae h h'∧∃y,r=.tuple #[y,I (lR b k kind).2]∧Vo h' h.length h'.length ba y (lR b k kind).1∧hI ba (lR b k kind).1<=16777216:=by
 have d:=ae1 b k kind;have wf:=Ge u o;obtain⟨⟨W,H,br⟩,p,f⟩:=b;obtain⟨s,sp,z,rfl,w1,w2,P,Q,R⟩:=u.og;refine ag8 λK a=>?_;refine a ?_;rw[aw];generalize a:aP aE _ _=K;simp(disch:=omega);obtain⟨l,m⟩:=aC (h++[⟨[I W,I H,s,sp,z],true⟩]);rw[<-m];have j:ae h l:=⟨_,m⟩;have T:l.length=h.length+1:=by rw[m];simp
 have N:l[h.length]?=some ⟨[I W,I H,s,sp,z],true⟩:=by rw[m];simp
 have x:=BP.of N (P.grow j) (Q.grow j) (R.grow j) w1 w2;refine aQ (PY l (aL hp j) _ _ x o) ?_;rintro _ h1⟨g1,rfl⟩;have c:=j.trans g1;cases q:gK ((W,H,br),p,f)
 ·have e:lR ((W,H,br),p,f) k kind=(oC,1):=by simp[lR,q]
  subst a;rw[e]at d ⊢;simp(disch:=omega)[cY,cJ,cO,bD];exact⟨c,Vo.j6,d⟩
 simp(disch:=omega);subst a;simp only[aq];refine akW λK a=>?_;refine aQ (ZI h1 (aL hp c) _ _ (x.grow g1) o) ?_;rintro _ g A;obtain⟨b1,z1,b2,z2,b3,z3,rfl,n⟩:=JM.own (aL hp c) A wf;have g2:=A.1;simp only at n;have S:storeAt (g++[⟨[I 0,I 0,sl 0 0 0 0,sl 0 0 0 0,sl 0 0 0 0],true⟩]) g.length 0 [I W,I H,sl b1 0 br.length z1,sl b2 0 p.length z2,sl b3 0 f.length z3]=some (g++[⟨[I W,I H,sl b1 0 br.length z1,sl b2 0 p.length z2,sl b3 0 f.length z3],true⟩]):=rH rfl;simp(disch:=omega)[S];refine a ?_;refine akW λK a=>?_;obtain⟨w,v⟩:=aC (g++[⟨[I W,I H,sl b1 0 br.length z1,sl b2 0 p.length z2,sl b3 0 f.length z3],true⟩]);rw[<-v]at n ⊢;have t:ae h1 w:=g2.trans ⟨_,v⟩;refine aQ (aDG w h1.length g.length _ [] k kind wk D n) ?_;rintro _ L⟨rfl,B,h0⟩;simp(disch:=omega);refine a ?_;have E:=c.le;by_cases i:mM ((W,H,br),p,f) k kind=0
 rotate_left
 ·obtain rfl:=B i;have e:lR ((W,H,br),p,f) k kind=(oC,mM ((W,H,br),p,f) k kind):=by simp[lR,q,i]
  rw[e]at d ⊢;simp(disch:=omega)[i,cY,cJ,cO,bD];exact⟨c.trans t,Vo.j6,d⟩
 obtain⟨O,F⟩:=h0 i;have e:lR ((W,H,br),p,f) k kind=(BQ ((W,H,br),p,f) k kind,0):=by simp[lR,q,i]
 rw[e]at d ⊢;obtain⟨cs,M,hl,ov⟩:=F.vo;have G:aZ L g.length 0 5=some cs:=cI M hl.symm;have C:=O.kR t (aa _);simp(disch:=omega)[i,G,hl,cY,cJ,cO,bD];have J:cs.take 5=cs:=aY (by omega)
 try rw[J]
 exact⟨c.trans C,ov.wide E (aa _),d⟩
theorem Is(h1:a<=b)(c:b<=s.length):gS 0 h (S s) (some (I a)) (some (I b)) none=some (S ((s.take b).drop a),h):=by simp[gS,bound,ByteArray.size];omega
theorem Ea(h1:a<=s.length):gS 0 h (S s) (some (I a)) none none=some (S (s.drop a),h):=by simp[gS,bound,ByteArray.size,h1]
theorem Wv(h1:b<=s.length):gS 0 h (S s) none (some (I b)) none=some (S (s.take b),h):=by simp[gS,bound,ByteArray.size,h1]
def iL(b:UInt8)(cur:List UInt8):List UInt8->List (List UInt8)
 |[]=>[cur]
 |c::r=>if c=b then cur::iL b [] r else iL b (cur++[c]) r
def fF(b:UInt8)(s:List UInt8):List (List UInt8):=iL b [] s
theorem BH(b:UInt8):∀(s cur:List UInt8),1<=(iL b cur s).length∧(iL b cur s).length<=s.length+1
 |[],cur=>by simp[iL]
 |c::r,cur=>by
  simp only[iL];split
  ·have:=BH b r [];simp;omega
  ·have:=BH b r (cur++[c]);simp;omega
theorem uK(b:UInt8):∀(s cur:List UInt8),∀w∈iL b cur s,w.length<=cur.length+s.length
 |[],cur,w,hw=>by simp[iL]at hw;subst hw;simp
 |c::r,cur,w,hw=>by
  simp only[iL]at hw;split at hw
  ·rcases bR.1 hw with rfl|hw
   ·simp
   ·have:=uK b r [] w hw;simp at this ⊢;omega
  ·have:=uK b r (cur++[c]) w hw;simp at this ⊢;omega
theorem Ag{a b:UInt8}:((a.toNat:Int)=(b.toNat:Int))↔a=b:=by
 constructor
 ·intro h;exact rA.1 (by omega)
 ·rintro rfl;rfl
theorem Hm{α:Type}{s:List α}(h1:f<=i)(a:i<s.length):(s.take (i+1)).drop f=(s.take i).drop f++[s[i]]:=by rw[aj a,gX (by simp;omega)]
theorem CB(x:f=189∨f=441)(s:List UInt8)(b:UInt8)(C:s.length<=1048576)(h:a9)(hp:0<h.length):aN aE f [S s,U b.toNat] h λr h'=>ae h h'∧bP h h' r 1 (texts (fF b s)):=by
 rcases x with rfl|rfl
 ·refine akV ?_;refine aU (λ(i:Nat) σ h'=>i<=s.length∧ae h h'∧σ 0=S s∧σ 1=U b.toNat∧σ 10=I s.length∧σ 11=I i∧∃(from_:Nat) (done:List (List UInt8)),from_<=i∧done.length<=i∧σ 6=I from_∧bP h h' (σ 5) 1 (texts done)∧done++iL b ((s.take i).drop from_) (s.drop i)=fF b s) (λi=>s.length-i) 0 ?_ ?_
  ·exact⟨by omega,ae.refl _,by simp,by simp,by simp,by simp,0,[],by omega,by simp,by simp,by simp;exact bP.nil,by simp[fF]⟩
  rintro i σ h'⟨hi,j,c,q1,nK,oL,fr,done,d,u,m,g,a⟩;simp(disch:=omega)[nK,oL];refine aG (λv=>?_) (λw=>?_)
  ·have k:i<s.length:=by omega
   rw[bt k]at a;simp only[iL]at a;simp(disch:=omega)[c,q1,oL,k];refine aG (λhe=>?_) (λhe=>?_)
   ·rw[Ag]at he;rw[if_pos he]at a;have l:=Is (h:=h') d (show i<=s.length by omega);simp(disch:=omega)[c,m,l];refine lN hp (by omega) j g λp q g1 b1=>?_;simp(disch:=omega)[c,q1,nK,oL,wrap64];refine⟨i+1,⟨by omega,g1,by omega,i+1,by omega,done++[(s.take i).drop fr],by simpa using u,by omega,b1,?_⟩,by omega⟩
    ·have:(s.take (i+1)).drop (i+1)=[]:=dz (by simp;omega);rw[this];simpa using a
   ·rw[Ag]at he;rw[if_neg he]at a;simp(disch:=omega)[c,q1,nK,oL,wrap64];refine⟨i+1,⟨by omega,j,by omega,fr,by omega,done,by omega,m,g,?_⟩,by omega⟩
    ·rw[Hm d k];exact a
  ·have t:i=s.length:=by omega
   subst t;rw[nA,aK]at a;simp only[iL]at a;have l:=Ea (h:=h') d;simp(disch:=omega)[c,m,l];refine lN hp (by omega) j g λp q g1 b1=>?_;rw[a]at b1;obtain⟨z,A,B,e⟩:∃b n y,p=sl b 0 n y:=by
    rcases b1 with⟨_,e⟩|⟨b,n,e,_⟩
    ·exact⟨0,0,1,e⟩
    ·exact⟨b,n,1,e⟩
   subst e
   try simp(disch:=omega)
   exact⟨g1,b1⟩
 ·refine akV ?_;refine aU (λ(i:Nat) σ h'=>i<=s.length∧ae h h'∧σ 0=S s∧σ 1=U b.toNat∧σ 7=I i∧∃(from_:Nat) (done:List (List UInt8)),from_<=i∧done.length<=i∧σ 6=I from_∧bP h h' (σ 5) 1 (texts done)∧done++iL b ((s.take i).drop from_) (s.drop i)=fF b s) (λi=>s.length-i) 0 ?_ ?_
  ·exact⟨by omega,ae.refl _,by simp,by simp,by simp,0,[],by omega,by simp,by simp,by simp;exact bP.nil,by simp[fF]⟩
  rintro i σ h'⟨hi,j,c,q1,o,fr,done,d,u,m,g,a⟩;simp(disch:=omega)[c,o];refine aG (λv=>?_) (λw=>?_)
  ·have k:i<s.length:=by omega
   rw[bt k]at a;simp only[iL]at a;simp(disch:=omega)[c,q1,o,k];refine aG (λhe=>?_) (λhe=>?_)
   ·rw[Ag]at he;rw[if_pos he]at a;have l:=Is (h:=h') d (show i<=s.length by omega);simp(disch:=omega)[c,m,o,l];refine lN hp (by omega) j g λp q g1 b1=>?_;simp(disch:=omega)[c,q1,o,wrap64];refine⟨i+1,⟨by omega,g1,by omega,i+1,by omega,done++[(s.take i).drop fr],by simpa using u,by omega,b1,?_⟩,by omega⟩
    ·have:(s.take (i+1)).drop (i+1)=[]:=dz (by simp;omega);rw[this];simpa using a
   ·rw[Ag]at he;rw[if_neg he]at a;simp(disch:=omega)[c,q1,o,wrap64];refine⟨i+1,⟨by omega,j,by omega,fr,by omega,done,by omega,m,g,?_⟩,by omega⟩
    ·rw[Hm d k];exact a
  ·have t:i=s.length:=by omega
   subst t;rw[nA,aK]at a;simp only[iL]at a;have l:=Ea (h:=h') d;simp(disch:=omega)[c,m,l];refine lN hp (by omega) j g λp q g1 b1=>?_;rw[a]at b1;obtain⟨z,A,B,e⟩:∃b n y,p=sl b 0 n y:=by
    rcases b1 with⟨_,e⟩|⟨b,n,e,_⟩
    ·exact⟨0,0,1,e⟩
    ·exact⟨b,n,1,e⟩
   subst e
   try simp(disch:=omega)
   exact⟨g1,b1⟩
def lT(c:UInt8):Int:=if c=43 then 0 else if c=124 then 1 else if c=45 then 2 else -1
theorem afV(c:UInt8):-1<=lT c∧lT c<=2:=by unfold lT;split<;>(try split)<;>(try split)<;>omega
theorem aDb(c:UInt8)(h:a9):aN aE 467 [U c.toNat] h λr h'=>r=I (lT c)∧h'=h:=by
 have e:(c.toNat:Int)=43↔c=43:=Ag (b:=43);have f:(c.toNat:Int)=124↔c=124:=Ag (b:=124);have g:(c.toNat:Int)=45↔c=45:=Ag (b:=45);refine afq ?_;simp(disch:=omega)[e];refine aG (λh1=>?_) (λh1=>?_)
 ·simp[lT,h1]
 simp(disch:=omega)[f];refine aG (λa=>?_) (λa=>?_)
 ·simp[lT,a]
 simp(disch:=omega)[g];refine aG (λd=>?_) (λd=>?_)
 ·simp[lT,d]
 simp[lT,h1,a,d]
theorem aCm(c:UInt8)(h:a9):aN aE 174 [U c.toNat] h λr h'=>r=I (lT c)∧h'=h:=by
 have d:((((43:UInt8).toNat:Nat)):Int)=(c.toNat:Int)↔c=43:=by rw[Ag];exact eq_comm
 have f:((((124:UInt8).toNat:Nat)):Int)=(c.toNat:Int)↔c=124:=by rw[Ag];exact eq_comm
 have g:((((45:UInt8).toNat:Nat)):Int)=(c.toNat:Int)↔c=45:=by rw[Ag];exact eq_comm
 refine akV ?_;refine aU (λ(i:Nat) σ h'=>i<=3∧h'=h∧σ 0=U c.toNat∧σ 4=I i∧(0<i->c≠43)∧(1<i->c≠124)∧(2<i->c≠45)) (λi=>3-i) 0 ?_ ?_
 ·exact⟨by omega,rfl,by simp,by simp,by omega,by omega,by omega⟩
 rintro i σ h'⟨hi,rfl,b,a,n1,n2,n3⟩;simp(disch:=omega)[a];refine aG (λk=>?_) (λl=>?_)
 ·have j:i=0∨i=1∨i=2:=by omega
  rcases j with rfl|rfl|rfl
  ·simp(disch:=omega)[b,a];refine aG (λh1=>?_) (λh1=>?_)
   ·have h1:=d.1 h1;simp[lT,h1]
   ·simp(disch:=omega)[b,a,wrap64];exact⟨1,⟨by omega,by omega,λ_ e=>h1 (d.2 e),by omega,by omega⟩,by omega⟩
  ·have:=n1 (by omega);simp(disch:=omega)[b,a];refine aG (λh1=>?_) (λh1=>?_)
   ·have h1:=f.1 h1;simp[lT,h1]
   ·simp(disch:=omega)[b,a,wrap64];exact⟨2,⟨by omega,by omega,λ_=>this,λ_ e=>h1 (f.2 e),by omega⟩,by omega⟩
  ·have:=n1 (by omega);have:=n2 (by omega);simp(disch:=omega)[b,a];refine aG (λh1=>?_) (λh1=>?_)
   ·have h1:=g.1 h1;simp[lT,h1]
   ·simp(disch:=omega)[b,a,wrap64];exact⟨3,⟨by omega,by omega,λ_=>by assumption,λ_=>by assumption,λ_ e=>h1 (g.2 e)⟩,by omega⟩
 ·simp[lT,n1 (by omega),n2 (by omega),n3 (by omega)]
def wS(s:List UInt8):List UInt8:=if s.head?=some 45 then s.drop 1 else s
def oW(c:UInt8):Bool:=decide ((48:Int)<=c.toNat)&&decide ((c.toNat:Int)<=57)
def vT(l:List UInt8):Nat:=l.foldl (λn c=>10*n+(c.toNat-48)) 0
def yx(s:List UInt8):Int:=if(wS s).length<s.length then -(vT (wS s):Int)else vT (wS s)
def yw(s:List UInt8):Bool:=decide (1<=(wS s).length)&&(decide ((wS s).length<=18)&&((wS s).all oW&&decide (bE (yx s)=s)))
def eU(s:List UInt8):Int×Bool:=if yw s then(yx s,true)else(0,false)
theorem ahl(l:List UInt8)(c:UInt8):vT (l++[c])=10*vT l+(c.toNat-48):=by simp[vT]
theorem KM{k:Nat}(a:k<l.length):vT (l.take (k+1))=10*vT (l.take k)+(l[k].toNat-48):=by rw[aj a,ahl]
theorem Y8(k:Nat)(d:k<=l.length)(a:(l.take k).all oW=true):vT (l.take k)+1<=10^k:=by
 induction k with
 |zero=>simp[vT]
 |succ k ih=>
  have b:k<l.length:=by omega
  rw[aj b,afa,aH]at a;have:=ih (by omega) a.1;rw[KM b,af2];have c:=a.2;simp[oW]at c;omega
theorem QG{k:Nat}(b:k<=l.length)(hl:l.length<=18)(a:(l.take k).all oW=true):vT (l.take k)<=999999999999999999:=by have h1:=Y8 k b a;have c:10^k<=10^18:=Nat.pow_le_pow_right (by omega) (by omega);omega
theorem WJ{k:Nat}(c:k<l.length)(hl:l.length<=18)(a:(l.take k).all oW=true):vT (l.take k)<=99999999999999999:=by have h1:=Y8 k (by omega) a;have b:10^k<=10^17:=Nat.pow_le_pow_right (by omega) (by omega);omega
theorem XI(s:List UInt8):(wS s).length<=s.length∧s.length<=(wS s).length+1:=by
 unfold wS
 grind
theorem Fi(s:List UInt8):bK (eU s).1:=by
 unfold eU;split
 ·rename_i h;simp only[yw,aH,decide_eq_true_eq]at h;have:=QG (l:=wS s) (k:=(wS s).length) (aa _) h.2.1 (by rw[aK];exact h.2.2.1);rw[aK]at this;simp only[yx];unfold bK;split<;>omega
 ·unfold bK;omega
theorem I7{k:Nat}(a:k<l.length)(h:(l.take k).all oW=true)(h1:oW l[k]=true):(l.take (k+1)).all oW=true:=by rw[aj a,afa];simp[h,h1]
theorem Gk{k:Nat}(a:k<l.length)(h1:oW l[k]=false):l.all oW=false:=by
 grind
theorem QX:(∃h:0<s.length,s[0]=45)∧wS s=s.drop 1∨(∀h:0<s.length,s[0]≠45)∧wS s=s:=by
 cases s with
 |nil=>right;exact⟨by simp,rfl⟩
 |cons c r=>
  by_cases h:c=45
  ·left;subst h;exact⟨⟨by simp,rfl⟩,rfl⟩
  ·right;exact⟨λ_=>h,by simp[wS,h]⟩
theorem aC4(c:UInt8)(h:a9):aN aE 438 [U c.toNat] h λr h'=>r=B (oW c)∧h'=h:=by
 refine akV ?_;refine aG (λh1=>?_) (λh1=>?_)
 ·simp(disch:=omega)[oW,h1]
 ·simp(disch:=omega)[oW,h1]
theorem ahP(s:List UInt8)(V:s.length<=1048576)(h:a9)(hp:0<h.length):aN aE 118 [S s] h λr h'=>ae h h'∧r=.tuple #[I (eU s).1,B (eU s).2]:=by
 have O:=XI s;refine ag8 λK c=>?_;refine c ?_;refine akW λK c=>?_;refine c ?_;rw[aw];generalize c:aP aE _ _=K;have key:∀σ,σ 0=S s->σ 4=S (wS s)->σ 2=I 0->σ 3=B false->K 0 σ h:=by
  intro σ A l q2 Q;subst c;simp only[aq];rw[aw];generalize c:aP aE _ _=K;simp(disch:=omega)[A,l];refine aG (λh1=>?_) (λh1=>?_)
  ·have e:eU s=(0,false):=by
    have:¬1<=(wS s).length:=by omega
    simp[eU,yw,this]
   subst c;rw[e];simp(disch:=omega)[h1];exact ae.refl _
  simp(disch:=omega)[h1,A,l];refine aG (λw=>?_) (λw=>?_)
  ·have e:eU s=(0,false):=by
    have:¬(wS s).length<=18:=by omega
    simp[eU,yw,this]
   subst c;rw[e];simp(disch:=omega);exact ae.refl _
  simp(disch:=omega);subst c;simp only[aq];refine akW λK c=>?_;refine c ?_;rw[aw];generalize c:aP aE _ _=K;simp(disch:=omega)[l];obtain⟨d,i⟩:=aC (wS s);rw[<-i]at O l h1 w ⊢;refine aU (λ(k:Nat) f h'=>k<=d.length∧h'=h∧f 0=S s∧f 4=S d∧f 2=I 0∧f 3=B false∧f 5=I (vT (d.take k))∧f 27=I d.length∧f 28=I k∧(d.take k).all oW=true) (λk=>d.length-k) 0 ?_ ?_
  ·exact⟨by omega,rfl,by simp[A],by simp[l],by simp[q2],by simp[Q],by simp[vT],by simp[l],by simp,by simp⟩
  rintro k f h'⟨U,rfl,p0,q,o,p,j,t,u,m⟩;simp(disch:=omega)[q,t,u];refine aG (λD=>?_) (λT=>?_)
  ·have g:k<d.length:=by omega
   have E:=WJ g (by omega) m;simp(disch:=omega)[p0,o,p,q,j,t,u,g];refine aG (λy=>?_) (λy=>?_)
   ·have hn:oW d[k]=false:=by
     have:¬(48:Int)<=d[k].toNat:=by omega
     simp[oW,this]
    have e:eU s=(0,false):=by simp[eU,yw,<-i,Gk g hn]
    subst c;rw[e];simp(disch:=omega)[y];exact ae.refl _
   simp(disch:=omega)[y,p0,o,p,q,j,t,u,g];refine aG (λM=>?_) (λM=>?_)
   ·have hn:oW d[k]=false:=by
     have:¬(d[k].toNat:Int)<=57:=by omega
     simp[oW,this]
    have e:eU s=(0,false):=by simp[eU,yw,<-i,Gk g hn]
    subst c;rw[e];simp(disch:=omega);exact ae.refl _
   have J:oW d[k]=true:=by simp[oW];omega
   simp(disch:=omega)[p0,o,p,q,j,t,u,g,wrap64,Ln];refine⟨k+1,⟨by omega,?_,by omega,bV.1 (I7 g m J)⟩,by omega⟩;rw[KM g];omega
  ·have R:k=d.length:=by omega
   subst R;have E:=QG (by omega) (by omega) m;rw[aK]at m E j;simp(disch:=omega);subst c;simp only[aq];rw[aw];generalize c:aP aE _ _=K;have C:∀σ,σ 0=S s->σ 5=I (yx s)->σ 2=I 0->σ 3=B false->K 0 σ h':=by
    intro σ G H W X;have N:bK (yx s):=by unfold yx bK;rw[<-i];split<;>omega
    subst c;simp only[aq];simp(disch:=omega)[G,H];refine aQ (zC (yx s) N _ hp) ?_;rintro _ w⟨rfl,g2⟩;simp(disch:=omega)[G];refine aG (λhe=>?_) (λhe=>?_)
    ·have e:eU s=(yx s,true):=by simp[eU,yw,<-i,m,he];omega
     rw[e];simp(disch:=omega)[H];exact g2
    ·have e:eU s=(0,false):=by simp[eU,yw,he]
     rw[e];simp(disch:=omega);exact g2
   simp(disch:=omega)[p0,q];refine aG (λD=>?_) (λD=>?_)
   ·have e:yx s=-(vT d:Int):=by unfold yx;rw[<-i,if_pos (by omega)]
    simp(disch:=omega)[j,wrap64];exact C _ (by simp[p0]) (by simp[e]) (by simp[o]) (by simp[p])
   ·have e:yx s=(vT d:Int):=by unfold yx;rw[<-i,if_neg (by omega)]
    simp(disch:=omega);exact C _ (by simp[p0]) (by simp[j,e]) (by simp[o]) (by simp[p])
 rcases QX (s:=s)with⟨⟨n,z⟩,e⟩|⟨P,e⟩
 ·have F:=Ea (h:=h) (s:=s) (a:=1) (by omega);have v:(s[0].toNat:Int)=45:=by rw[z];rfl
  simp(disch:=omega)[n,v];rw[show((1:Nat):Int)=1 from rfl]at F;simp(disch:=omega)[F];exact key _ (by simp) (by simp[e]) (by simp) (by simp)
 ·by_cases n:0<s.length
  ·have L:¬(s[0].toNat:Int)=45:=λx=>P n (Ag (b:=45) |>.1 x);simp(disch:=omega)[n,L];exact key _ (by simp) (by simp[e]) (by simp) (by simp)
  ·simp(disch:=omega)[n];exact key _ (by simp) (by simp[e]) (by simp) (by simp)
theorem ahU(s:List UInt8)(W:s.length<=1048576)(h:a9)(hp:0<h.length):aN aE 439 [S s] h λr h'=>ae h h'∧r=.tuple #[I (eU s).1,B (eU s).2]:=by
 have P:=XI s;refine ag8 λK c=>?_;refine c ?_;refine akW λK c=>?_;refine c ?_;rw[aw];generalize c:aP aE _ _=K;have key:∀σ,σ 0=S s->σ 4=S (wS s)->σ 2=I 0->σ 3=B false->K 0 σ h:=by
  intro σ D n q2 R;subst c;simp only[aq];rw[aw];generalize c:aP aE _ _=K;simp(disch:=omega)[D,n];refine aG (λh1=>?_) (λh1=>?_)
  ·have e:eU s=(0,false):=by
    have:¬1<=(wS s).length:=by omega
    simp[eU,yw,this]
   subst c;rw[e];simp(disch:=omega)[h1];exact ae.refl _
  simp(disch:=omega)[h1,D,n];refine aG (λw=>?_) (λw=>?_)
  ·have e:eU s=(0,false):=by
    have:¬(wS s).length<=18:=by omega
    simp[eU,yw,this]
   subst c;rw[e];simp(disch:=omega);exact ae.refl _
  simp(disch:=omega);subst c;simp only[aq];refine akW λK c=>?_;refine c ?_;rw[aw];generalize c:aP aE _ _=K;simp(disch:=omega)[n];obtain⟨d,i⟩:=aC (wS s);rw[<-i]at P n h1 w ⊢;refine aU (λ(k:Nat) f h'=>k<=d.length∧h'=h∧f 0=S s∧f 4=S d∧f 2=I 0∧f 3=B false∧f 5=I (vT (d.take k))∧f 6=I k∧(d.take k).all oW=true) (λk=>d.length-k) 0 ?_ ?_
  ·exact⟨by omega,rfl,by simp[D],by simp[n],by simp[q2],by simp[R],by simp[vT],by simp,by simp⟩
  rintro k f h'⟨V,rfl,p0,q,o,p,m,C,l⟩;simp(disch:=omega)[q,C];refine aG (λF=>?_) (λU=>?_)
  ·have j:k<d.length:=by omega
   have G:=WJ j (by omega) l;simp(disch:=omega)[p0,o,p,q,m,C,j];refine aQ (aC4 d[k] _) ?_;rintro _ h1⟨rfl,rfl⟩;cases t:oW d[k]
   ·have e:eU s=(0,false):=by simp[eU,yw,<-i,Gk j t]
    subst c;rw[e];simp(disch:=omega);exact ae.refl _
   have z:=t;simp[oW]at z;simp(disch:=omega)[p0,o,p,q,m,C,j,wrap64,Ln];refine⟨k+1,⟨by omega,?_,by omega,bV.1 (I7 j l t)⟩,by omega⟩;rw[KM j];omega
  ·have T:k=d.length:=by omega
   subst T;have G:=QG (by omega) (by omega) l;rw[aK]at l G m;simp(disch:=omega);subst c;simp only[aq];rw[aw];generalize c:aP aE _ _=K;have E:∀σ,σ 0=S s->σ 5=I (yx s)->σ 2=I 0->σ 3=B false->K 0 σ h':=by
    intro σ J L X Y;have O:bK (yx s):=by unfold yx bK;rw[<-i];split<;>omega
    subst c;simp only[aq];simp(disch:=omega)[J,L];refine aQ (pJ (yx s) O _ hp) ?_;rintro _ w⟨rfl,g2⟩;simp(disch:=omega)[J];refine aG (λhe=>?_) (λhe=>?_)
    ·have e:eU s=(yx s,true):=by simp[eU,yw,<-i,l,he];omega
     rw[e];simp(disch:=omega)[L];exact g2
    ·have e:eU s=(0,false):=by simp[eU,yw,he]
     rw[e];simp(disch:=omega);exact g2
   simp(disch:=omega)[p0,q];refine aG (λF=>?_) (λF=>?_)
   ·have e:yx s=-(vT d:Int):=by unfold yx;rw[<-i,if_pos (by omega)]
    simp(disch:=omega)[m,wrap64];exact E _ (by simp[p0]) (by simp[e]) (by simp[o]) (by simp[p])
   ·have e:yx s=(vT d:Int):=by unfold yx;rw[<-i,if_neg (by omega)]
    simp(disch:=omega);exact E _ (by simp[p0]) (by simp[m,e]) (by simp[o]) (by simp[p])
 rcases QX (s:=s)with⟨⟨g,y⟩,e⟩|⟨Q,e⟩
 ·have H:=Ea (h:=h) (s:=s) (a:=1) (by omega);have v:(s[0].toNat:Int)=45:=by rw[y];rfl
  have u:¬s=[]:=by intro x;rw[x]at g;simp at g
  simp(disch:=omega)[g,v,u];rw[show((1:Nat):Int)=1 from rfl]at H;simp(disch:=omega)[H];exact key _ (by simp) (by simp[e]) (by simp) (by simp)
 ·by_cases g:0<s.length
  ·have M:¬(s[0].toNat:Int)=45:=λx=>Q g (Ag (b:=45) |>.1 x);have u:¬s=[]:=by intro x;rw[x]at g;simp at g
   simp(disch:=omega)[g,M,u];exact key _ (by simp) (by simp[e]) (by simp) (by simp)
  ·have A:s=[]:=aB.1 (by omega);simp(disch:=omega)[A];have N:wS s=[]:=by rw[e,A]
   exact key _ (by simp[A]) (by simp[N]) (by simp) (by simp)
def at8(s:List UInt8)(i:Nat):UInt8:=s.getD i 0
theorem aer(h:i<s.length):s[i]=at8 s i:=by simp[at8,h]
theorem aes(h:i<s.length):s[i]?=some (at8 s i):=by simp[at8,h]
theorem ajn(c:UInt8):bK (lT c):=by have:=afV c;unfold bK;omega
@[simp high] theorem aFG {n:Nat} {a b:List UInt8} (h:a.length+b.length<=4611686018427387904):AR .add n (S a) (S b)=some (S (a++b)):=by simp[h]
def zk(W H:Int):List UInt8:=bE W++[120]++bE H++[58]
def MV(X:bW):List UInt8:=zk X.1 X.2.1++X.2.2.map mW
def L9(br:List Int)(k:Nat):List UInt8:=(br.take k).map mW
theorem Ws(br:List Int):L9 br 0=[]:=rfl
theorem Wr{k:Nat}(h:k<br.length):L9 br (k+1)=L9 br k++[mW br[k]]:=by unfold L9;rw[aj h,cq];rfl
theorem Y2(br:List Int)(k:Nat):(L9 br k).length<=br.length:=by simp[L9];omega
theorem Y1(br:List Int):L9 br br.length=br.map mW:=by simp[L9]
def G7(X:bW):List UInt8:=if iv X then MV X else[]
theorem MU(w1:bK W)(w2:bK H):(zk W H).length<=42∧zk W H≠[]:=by have h1:=dW w1;have a:=dW w2;refine⟨by simp[zk];omega,by simp[zk]⟩
theorem MW{X:bW}(w1:bK X.1)(w2:bK X.2.1):(MV X).length<=42+X.2.2.length:=by have:=MU w1 w2;simp[MV];omega
theorem axm(h:a9)(hp:0<h.length)(v:Value)(W H:Int)(br:List Int)(o:Vr h bU v (W,H,br))(m:∀x∈br,0<=x∧x<=2)(hl:br.length<=1048576):aN aE 182 [v] h λr h'=>ae h h'∧r=S (MV (W,H,br)):=by
 obtain⟨s,rfl,w1,w2,q⟩:=o.dE;obtain⟨b0,p,u,rfl,_,w,y,g⟩:=q.ints;have l1:=dW w1;have l2:=dW w2;have C:=MU w1 w2;refine ag8 λK c=>?_;refine c ?_;refine akW λK c=>?_;refine aQ (zC W w1 h hp) ?_;rintro _ h1⟨rfl,g1⟩;simp(disch:=(first|omega|(simp only[af,az,aF];omega)));refine aQ (zC H w2 h1 (aL hp g1)) ?_;rintro _ l⟨rfl,g2⟩;have f:=g1.trans g2;simp(disch:=(first|omega|(simp only[af,az,aF];omega)));refine c ?_;have j:bE W++120::(bE H++[58])=zk W H:=by simp[zk]
 try rw[j]
 simp(disch:=omega);refine aU (λ(k:Nat) σ h'=>k<=br.length∧h'=l∧σ 3=S (zk W H++L9 br k)∧σ 16=sl b0 p br.length u∧σ 17=I br.length∧σ 18=I k) (λk=>br.length-k) 0 ?_ ?_
 ·exact⟨by omega,rfl,by simp[zk,Ws],by simp,by simp,by simp⟩
 rintro k σ h'⟨B,rfl,e,IS,Fh,tU⟩;simp(disch:=omega)[Fh,tU];refine aG (λz=>?_) (λA=>?_)
 ·have b:k<br.length:=by omega
  have cb:=eG (g.imp id (dZ f)) b;have n:=m _ (aD b);have d:=OW (h:=h') (a:=br[k]) (fM.2 n);have hlen:=Y2 br k;have i:=cQ (br[k]+1) (br[k]+1);simp(disch:=(first|omega|(simp only[af,az,aF];omega))) [e,IS,Fh,tU,b,cb,i,d,wrap64];exact⟨k+1,⟨by omega,by rw[Wr b],by omega⟩,by omega⟩
 ·have t:k=br.length:=by omega
  subst t;rw[Y1]at e;simp(disch:=omega)[e];exact⟨f,rfl⟩
theorem axt(h:a9)(hp:0<h.length)(v:Value)(W H:Int)(br:List Int)(L:gY h v (W,H,br))(hl:br.length<=1000000):aN aE 472 [v] h λr h'=>ae h h'∧r=S (MV (W,H,br)):=by
 obtain⟨b,o,s,rfl,k0,t,u,w,w1,w2⟩:=L;simp only at k0 t u w w1 w2;obtain⟨b0,V,X,rfl,_,N,O,y⟩:=w.ints;have l1:=dW w1;have l2:=dW w2;have T:=MU w1 w2;refine ag8 λK f=>?_;refine f ?_;refine bg λK f=>?_;simp(disch:=omega)[k0];refine aQ (pJ W w1 h hp) ?_;rintro _ h1⟨rfl,g1⟩;refine⟨λ_=>g1,?_⟩;have x:=g1.cell t;simp(disch:=(first|omega|(simp only[af,az,aF];omega))) [x];refine aQ (pJ H w2 h1 (aL hp g1)) ?_;rintro _ a⟨rfl,g2⟩;have p:=g1.trans g2;have E:bE W++120::(bE H++[58])=zk W H:=by simp[zk]
 have B:=aeo (h:=a) (l:=zk W H) (by simp[maxSize];omega);simp(disch:=(first|omega|(simp only[af,az,aF];omega)))
 try rw[E]
 simp(disch:=omega)[B];refine f ?_;simp(disch:=omega);obtain⟨q,d⟩:=aC (a++[⟨cD (zk W H),true⟩]);have C:a++[⟨List.map (λb:UInt8=>U b.toNat) (zk W H),true⟩]=q:=by rw[d];rfl
 try rw[C]
 have F:ae a q:=⟨_,d⟩;have z:=p.trans F;have A:=p.le;refine aU (λ(k:Nat) σ h'=>k<=br.length∧ae h h'∧σ 0=pt b o∧bP h h' (σ 3) 1 (cD (zk W H++L9 br k))∧σ 4=I k) (λk=>br.length-k) 0 ?_ ?_
 ·refine⟨by omega,z,by simp,?_,by simp⟩;rw[Ws];simp;exact .inr ⟨a.length,(zk W H).length,by simp,by simp[cD],A,by rw[d];simp⟩
 rintro k σ h'⟨R,c,i,e,j⟩;have m:=c.cell u;simp(disch:=omega)[i,j,m];refine aG (λP=>?_) (λQ=>?_)
 ·have g:k<br.length:=by omega
  have cb:=eG (y.imp id (dZ c)) g;simp(disch:=omega)[i,j,m,g,cb];refine aQ (aoR _ _) ?_;rintro _ J⟨rfl,rfl⟩;simp(disch:=omega);have hlen:=Y2 br k;refine Ja hp (by simp;omega) c e (xs:=[mW br[k]]) (n:=1) (by simp) rfl (by simp[aW,cD]) λv4 J G D=>?_;simp(disch:=omega)[i,j,wrap64];refine⟨k+1,⟨by omega,G,?_,by omega⟩,by omega⟩;rw[Wr g];simpa using D
 ·have M:k=br.length:=by omega
  subst M;rw[Y1]at e;simp(disch:=omega)[Ng e];exact⟨c,rfl⟩
theorem aCT(h:a9)(hp:0<h.length)(v:Value)(X:bW)(e:Vr h bU v X):aN aE 402 [v] h λr h'=>ae h h'∧r=S (G7 X):=by
 obtain⟨W,H,br⟩:=X;obtain⟨s,rfl,w1,w2,g⟩:=e.dE;refine akV ?_;obtain⟨b,c⟩:=aC (h++[⟨[I W,I H,s],true⟩]);rw[<-c];have a:ae h b:=⟨_,c⟩;have f:b[h.length]?=some ⟨[I W,I H,s],true⟩:=by rw[c];simp
 have d:gY b (pt h.length 0) (W,H,br):=gY.at f (g.grow a) w1 w2;refine aQ (An _ _ b d) ?_;rintro _ h1⟨rfl,rfl⟩;cases q:iv (W,H,br)
 ·simp(disch:=omega)[G7,q];exact a
 ·have ok:=dK.1 q;have:=jH ok;simp(disch:=omega);refine aQ (axt h1 (aL hp a) _ W H br d (by omega)) ?_;rintro _ i⟨g2,rfl⟩;simp(disch:=omega)[G7,q];exact a.trans g2
def rK(X:de):List UInt8:=MV X.1++[32]++bE X.2.1.length++[32]++bE X.2.2.length
theorem C9{n:Nat}(h:n<=1048576):bK (n:Int):=by unfold bK;omega
theorem aCi(h:a9)(hp:0<h.length)(v0:Value)(W H:Int)(br:List Int)(p f:List dF)(b:Vr h ba v0 ((W,H,br),p,f))(e:∀x∈br,0<=x∧x<=2)(hl:br.length<=1048576)(lp:p.length<=1048576)(lf:f.length<=1048576):
  aN aE 157 [v0] h λr h'=>ae h h'∧r=S (rK ((W,H,br),p,f)):=by
 obtain⟨s,sp,v,rfl,w1,w2,g,i,j⟩:=b.og;obtain⟨pb,t,u,rfl,_⟩:=i.cW;obtain⟨fb,n,o,rfl,_⟩:=j.cW;have k:Vr h bU (.agg #[I W,I H,s]) (W,H,br):=Vr.jF w1 w2 g;have lt:=MW (X:=(W,H,br)) w1 w2;simp only at lt;have l:=dW (C9 lp);have m:=dW (C9 lf);refine akV ?_;refine aQ (axm h hp _ W H br k e hl) ?_;rintro _ h1⟨g1,rfl⟩;simp(disch:=(first|omega|(simp only[af,az,aF];omega)));refine aQ (zC _ (C9 lp) h1 (aL hp g1)) ?_;rintro _ d⟨rfl,g2⟩;have a:=g1.trans g2;simp(disch:=(first|omega|(simp only[af,az,aF];omega)));refine aQ (zC _ (C9 lf) d (aL hp a)) ?_;rintro _ q⟨rfl,c⟩;simp(disch:=(first|omega|(simp only[af,az,aF];omega))) [rK];exact a.trans c
theorem aDL(h:a9)(hp:0<h.length)(v0:Value)(W H:Int)(br:List Int)(p f:List dF)(q:BP h v0 ((W,H,br),p,f))(g:iv (W,H,br)=true)(lp:p.length<=1048576)(lf:f.length<=1048576):
  aN aE 580 [v0] h λr h'=>ae h h'∧r=S (rK ((W,H,br),p,f)):=by
 obtain⟨jb,c,s,sp,F,rfl,a,l,n,o,w1,w2⟩:=q;simp only at a l n o w1 w2;obtain⟨pb,D,E,rfl,_⟩:=n.cW;obtain⟨fb,z,A,rfl,_⟩:=o.cW;have j:cell h jb (c+3)=_:=(fQ (i:=3) a (by omega)).1;have k:cell h jb (c+4)=_:=(fQ (i:=4) a (by omega)).1;simp at j k;have kw:aZ h jb c 3=some [I W,I H,s]:=by have:=AX (i:=0) (m:=3) a (by omega);simpa using this
 have w:Vr h bU (.agg #[I W,I H,s]) (W,H,br):=Vr.jF w1 w2 l;have ok:=dK.1 g;have C:=jH ok;have lt:=MW (X:=(W,H,br)) w1 w2;simp only at lt;have t:G7 (W,H,br)=MV (W,H,br):=by simp[G7,g]
 have x:=dW (C9 lp);have y:=dW (C9 lf);refine afq ?_;simp(disch:=omega)[kw];refine aQ (aCT h hp _ (W,H,br) w) ?_;rintro _ h1⟨g1,rfl⟩;rw[t];refine⟨λ_=>g1,?_⟩;have d:=g1.cell j;simp(disch:=(first|omega|(simp only[af,az,aF];omega))) [d];refine aQ (pJ _ (C9 lp) h1 (aL hp g1)) ?_;rintro _ v⟨rfl,g2⟩;have b:=g1.trans g2;refine⟨λ_=>g2,?_⟩;have e:=b.cell k;simp(disch:=(first|omega|(simp only[af,az,aF];omega))) [e];refine aQ (pJ _ (C9 lf) v (aL hp b)) ?_;rintro _ B⟨rfl,u⟩;simp(disch:=(first|omega|(simp only[af,az,aF];omega))) [rK];exact b.trans u
def CW(h:a9)(lo jb:Nat)(X:de)(rest:List Value)(b1 z1 b2 z2 b3 z3:Nat):Prop:=
 h[jb]?=some ⟨[I X.1.1,I X.1.2.1,sl b1 0 X.1.2.2.length z1,sl b2 0 X.2.1.length z2,sl b3 0 X.2.2.length z3],true⟩∧lo<=jb∧0<lo∧(z1=1∨b1=0∧X.1.2.2=[])∧
 (X.1.2.2=[]∨h[b1]?=some ⟨ints X.1.2.2,true⟩∧lo<=b1∧b1≠jb∧b1≠b2∧b1≠b3)∧
 (X.2.1=[]∧b2=0∨z2=3∧h[b2]?=some ⟨cW X.2.1++rest,true⟩∧lo<=b2∧b2≠jb∧b2≠b3)∧
 (X.2.2=[]∧b3=0∨z3=3∧h[b3]?=some ⟨cW X.2.2,true⟩∧lo<=b3∧b3≠jb)∧Xw X
theorem CW.jm{X:de}{z1 z2 z3:Nat}(x:CW h lo jb X rest b1 z1 b2 z2 b3 z3):JM h lo jb X rest:=⟨_,_,_,_,_,_,x⟩
theorem CW.brs{p f:List dF}{z1 z2 z3:Nat}(x:CW h lo jb ((W,H,br),p,f) rest b1 z1 b2 z2 b3 z3){k:Nat}{v:Int}(a:k<br.length)(z:bK v):
  ∃h',storeAt h b1 k [I v]=some h'∧CW h' lo jb ((W,H,br.set k v),p,f) rest b1 z1 b2 z2 b3 z3∧Mod lo h.length h h'∧h'.length=h.length:=by
 obtain⟨y,n,u,t,c,d,g,w1,w2,w,i,j,y1,y2,l⟩:=x;simp only at y t c d g w1 w2 w i j y1 y2 l;have m:br≠[]:=by intro e;rw[e]at a;simp at a
 obtain⟨b,o,q,r,s⟩:=c.resolve_left m;have hl:=bZ b;refine⟨_,rI b a,⟨?_,n,u,?_,.inr ⟨?_,o,q,r,s⟩,d.imp id λe=>⟨e.1,?_,e.2.2.1,e.2.2.2.1,e.2.2.2.2⟩,g.imp id λe=>⟨e.1,?_,e.2.2.1,e.2.2.2⟩,⟨w1,w2,?_,i,j,by simpa using y1,y2,l⟩⟩,⟨by simp,?_⟩,by simp⟩
 ·grind
 ·omega
 ·simp[hl]
 ·grind
 ·grind
 ·grind
 ·grind
theorem CW.Ct{p f p':List dF}{z1 z2 z3:Nat}(x:CW h lo jb ((W,H,br),p,f) rest b1 z1 b2 z2 b3 z3)
  (hl:h.length<=h1.length) (q:∀c,c<h.length->c≠b2∨b2=0->h1[c]?=h[c]?) (hn:h1[nb]?=some ⟨cW p'++Lg,true⟩) (A:h.length<=nb∨nb=b2∧p≠[]) (hp:∀t∈p',sX t) (w:p'.length<=1048576):
  ∃h',storeAt h1 jb 3 [sl nb 0 p'.length 3]=some h'∧CW h' lo jb ((W,H,br),p',f) Lg b1 z1 nb 3 b3 z3∧Mod lo h.length h h'∧h'.length=h1.length:=by
 obtain⟨a,n,u,j,d,g,i,w1,w2,k,y,l,y1,y2,m⟩:=x;simp only at a j d g i w1 w2 k y l y1 y2 m;have z:=bZ a;have s:jb≠b2∨b2=0:=by rcases g with e|e<;>omega
 have b:h1[jb]?=some ⟨[I W,I H,sl b1 0 br.length z1,sl b2 0 p.length z2,sl b3 0 f.length z3],true⟩:=by rw[q jb z s];exact a
 have r:=ld (v:=sl nb 0 p'.length 3) (o:=3) b (by simp);refine⟨_,r,⟨?_,n,u,j,d.imp id λe=>⟨?_,e.2.1,e.2.2.1,?_,e.2.2.2.2⟩,.inr ⟨rfl,?_,?_,?_,?_⟩,i.imp id λe=>⟨e.1,?_,e.2.2.1,e.2.2.2⟩,⟨w1,w2,k,hp,l,y1,w,m⟩⟩,⟨by simp;exact hl,?_⟩,by simp⟩
 ·simp[bZ b]
 ·grind
 ·grind
 ·grind
 ·grind
 ·omega
 ·grind
 ·grind
 ·grind
theorem CW.fut{p f f':List dF}{z1 z2 z3:Nat}(x:CW h lo jb ((W,H,br),p,f) rest b1 z1 b2 z2 b3 z3)
  (hl:h.length<=h1.length) (i:∀c,c<h.length->c≠b3∨b3=0->h1[c]?=h[c]?) (hn:nb=0∧f'=[]∨h1[nb]?=some ⟨cW f',true⟩∧h.length<=nb) (hp:∀t∈f',sX t) (y:f'.length<=1048576):
  ∃h',storeAt h1 jb 4 [sl nb 0 f'.length 3]=some h'∧CW h' lo jb ((W,H,br),p,f') rest b1 z1 b2 z2 nb 3∧Mod lo h.length h h'∧h'.length=h1.length:=by
 obtain⟨d,q,w,l,j,k,b,w1,w2,m,n,z,y1,y2,A⟩:=x;simp only at d l j k b w1 w2 m n z y1 y2 A;have B:=bZ d;have u:jb≠b3∨b3=0:=by rcases b with e|e<;>omega
 have g:h1[jb]?=some ⟨[I W,I H,sl b1 0 br.length z1,sl b2 0 p.length z2,sl b3 0 f.length z3],true⟩:=by rw[i jb B u];exact d
 have s:=ld (v:=sl nb 0 f'.length 3) (o:=4) g (by simp);refine⟨_,s,⟨?_,q,w,l,j.imp id λe=>⟨?_,e.2.1,e.2.2.1,e.2.2.2.1,?_⟩,k.imp id λe=>⟨e.1,?_,e.2.2.1,e.2.2.2.1,?_⟩,?_,⟨w1,w2,m,n,hp,y1,y2,y⟩⟩,⟨by simp;exact hl,?_⟩,by simp⟩
 ·simp[bZ g]
 ·grind
 ·grind
 ·grind
 ·grind
 ·rcases hn with a|a
  ·exact .inl ⟨a.2,a.1⟩
  ·grind
 ·intro c r hn;rw[jJ (by omega),i c r (by rcases b with a|a<;>omega)]
theorem CW.cells{X:de}{z1 z2 z3:Nat}(x:CW h lo jb X rest b1 z1 b2 z2 b3 z3):
  cell h jb 2=some (sl b1 0 X.1.2.2.length z1)∧cell h jb 3=some (sl b2 0 X.2.1.length z2)∧cell h jb 4=some (sl b3 0 X.2.2.length z3):=by
 have:=x.1;simp[cell,this]
theorem PI{s:dF}{f:List dF}{r:List Value}{w:Bool}(a:h[b]?=some ⟨cW (s::f)++r,w⟩):aZ h b 0 3=some [I s.1,I s.2.1,I s.2.2]:=by rw[fB a (by simp[iX])];simp[iX]
theorem Sv{s:dF}{p:List dF}{r:List Value}{w:Bool}(a:h[b]?=some ⟨cW (p++[s])++r,w⟩):aZ h b (p.length*3) 3=some [I s.1,I s.2.1,I s.2.2]:=by rw[fB a (by simp[rJ,iX,qe,gD];omega)];rw[rJ,cC,gX (by rw[gD];omega),dQ (by rw[gD];omega)];simp[iX,qe]
theorem Mod.tr{a b c:a9}(x:Mod lo a.length a b)(y:Mod lo b.length b c):Mod lo a.length a c:=
 ⟨a7 x.1 y.1,λk d hn=>by rw[y.2 k (bQ d x.1) (by omega),x.2 k d hn]⟩
theorem WS{x:Value}{f:List dF}{k:Value->a9->Prop}(hn:cR 3 h x=some (cW f))(d:f.length<=1048576)
  (a:∀nb h',ae h h'->(nb=0∧f=[]∨h'[nb]?=some ⟨cW f,true⟩∧h.length<=nb)->k (sl nb 0 f.length 3) h'):gE (cu 3 h x (sl 0 0 0 3)) k:=by
 by_cases b:f=[]
 ·subst b;have e:cu 3 h x (sl 0 0 0 3)=some (sl 0 0 0 3,h):=by simp[cu,hn,qe]
  rw[e];exact a 0 h (ae.refl _) (.inl ⟨rfl,rfl⟩)
 ·have c:cW f≠[]:=λe=>b (uj e);have e:cu 3 h x (sl 0 0 0 3)=some (sl h.length 0 f.length 3,h++[⟨cW f,true⟩]):=by simp only[cu,hn];rw[if_neg (by omega),if_neg c,if_neg (by rw[gD];simp[maxSize];omega),if_pos trivial,gD];simp
  rw[e];exact a _ _ ⟨_,rfl⟩ (.inr ⟨by simp,aa _⟩)
theorem Zj{x:Value}{s:dF}{f:List dF}{k:Value->a9->Prop}(a:h[b]?=some ⟨cW [s],true⟩)(h0:b≠0)(hn:cR 3 h x=some (cW f))(l:f.length<=1048576)
  (d:∀nb h',h.length<=h'.length->(∀c,c<h.length->c≠b->h'[c]?=h[c]?)->h'[nb]?=some ⟨cW (s::f),true⟩->b<=nb->k (sl nb 0 (f.length+1) 3) h'):gE (cu 3 h x (sl b 0 1 3)) k:=by
 have hl:=bZ a;by_cases g:f=[]
 ·subst g;have e:cu 3 h x (sl b 0 1 3)=some (sl b 0 1 3,h):=by simp[cu,hn,qe]
  rw[e];exact d b h (aa _) (λc _ _=>rfl) a (aa _)
 ·have i:cW f≠[]:=λe=>g (uj e);have e:cu 3 h x (sl b 0 1 3)=some (sl h.length 0 (f.length+1) 3,h.set b ⟨[],false⟩++[⟨cW (s::f),true⟩]):=by
   simp only[cu,hn];rw[if_neg (by omega),if_neg i,if_neg (by rw[gD];simp[maxSize];omega),if_neg h0];simp only[a];rw[if_pos ⟨trivial,trivial⟩,cI a (by rw[gD];rfl),gD];simp only[iX,qe,gM _ (show 0<3 by omega),pC 1,fx,gH,df,pE 3,zo]
   try rw[gM _ (show 0<3 by omega)]
  rw[e];refine d _ _ (by simp) (λc j hn=>?_) (by simp) (by omega);rw[ai (by simpa using j),ag (by omega)]
theorem aDH(h:a9)(lo jb:Nat)(W H:Int)(br:List Int)(p f:List dF)(a x y:Int)(rest:List Value)(b:JM h lo jb ((W,H,br),p,(a,x,y)::f) rest)(V:0<=a)(s:a<br.length)(hp:p.length<=1000)(hf:f.length<=1000):
  aN aE 560 [pt jb 0] h λ_ h'=>Mod lo h.length h h'∧JM h' lo jb ((W,H,br.set a.toNat y),p++[(a,x,y)],f) []:=by
 obtain⟨b1,z1,b2,z2,b3,z3,b⟩:=b;have b:CW h lo jb ((W,H,br),p,(a,x,y)::f) rest b1 z1 b2 z2 b3 z3:=b;obtain⟨an,rfl⟩:=bc V;rw[aM];have w:an<br.length:=by omega
 have wf:=b.2.2.2.2.2.2.2;have KO:sX ((an:Int),x,y):=wf.f _ (by simp);have L:∀t∈f,sX t:=λt d=>wf.f _ (by simp[d]);have O:∀t∈p,sX t:=wf.p;obtain⟨l,m,j⟩:=b.cells;simp only[az]at l m j;obtain⟨v,wV,_⟩:=b.2.2.2.2.2.2.1.resolve_left (by simp);have P:b3≠0:=by omega
 have B:=PI (r:=[]) (by rw[gH];exact wV);simp only at B;refine afq ?_;refine bg λK n=>?_;simp(disch:=omega)[j,B];refine n ?_;refine bg λK n=>?_;obtain⟨h1,s1,o,Y,g⟩:=b.brs w KO.2.2;simp(disch:=omega)[l,w,s1];refine n ?_;refine bg λK n=>?_;obtain⟨l,m,j⟩:=o.cells;simp only[az,aS]at l m j;simp(disch:=omega)[m,aW];have u:=o.2.2.2.2.2.1;simp only at u;refine Gl (cs:=cW p) (rest:=rest) (new:=[I an,I x,I y]) ?_ ?_ ?_ (by omega) (by simp) (by simp) (by rw[gD];simp[maxSize];omega) ?_
 ·rcases u with⟨g,i⟩|⟨g,i,Q,C,R⟩
  ·left;exact⟨by rw[g];rfl,by rw[g];rfl,i⟩
  ·right;refine⟨by have:=o.2.2.1;omega,by rw[gD];omega,?_⟩;rw[ai (bZ i)];exact i
 ·rcases u with⟨g,i⟩|⟨g,i,Q,C,R⟩
  ·exact .inl i
  ·exact .inr g
 ·simp[cR];rw[fB (k:=⟨[I an,I x,I y],true⟩) (by simp) (by simp)];simp
 intro S M z A;simp only[af,az,aF]at M z A;obtain⟨T,F,q,Z,C⟩:=o.Ct (h1:=S) (p':=p++[((an:Int),x,y)]) (Lg:=[]) (nb:=h1.length+1) (by omega) (λc E hn=>by rw[z c (by omega) hn,ai (by omega)])
  (by rw[A];simp[rJ,iX,qe]) (.inl (by omega)) (by
   intro t d;rcases cS.1 d with d|d
   ·exact O t d
   ·simp at d;subst d;exact KO) (by simp;omega)
 simp only[af,az,aF,dt]at F;simp(disch:=omega)[F];refine n ?_;obtain⟨l,m,j⟩:=q.cells;simp only[az,aS]at l m j;simp(disch:=omega)[j,gS,bound,v];have X:=q.2.2.2.2.2.2.1.resolve_left (by simp);have hn:cR 3 T (sl b3 3 f.length 3)=some (cW f):=by
  by_cases G:f=[]
  ·subst G;rfl
  ·have:f.length≠0:=λe=>G (aB.1 e);simp only[cR,if_neg this];have s:=X.2.1;simp only at s;rw[fB (k:=⟨_,_⟩) s (by simp only[af,iX,az,gD];omega)]
   congr 1
   simp only[iX,Hx,kq];exact aY (by rw[gD];omega)
 refine WS hn (by omega) λnb U D N=>?_;obtain⟨h6,s6,J,m6,e6⟩:=q.fut (h1:=U) (nb:=nb) D.le (λc E _=>D.look E) N L (by omega);simp(disch:=omega)[s6];have:=Y.tr (Z.tr m6);exact⟨this,J.jm⟩
theorem aCA(h:a9)(b:Nat)(s:dF)(f:List dF)(a:h[b]?=some ⟨cW (s::f),true⟩)(h0:b≠0):
  aN aE 310 [sl b 0 (f.length+1) 3,I 0,I 1] h λr h'=>r=sl h.length 0 f.length 3∧h'=h.set b ⟨[],false⟩++[⟨cW f,true⟩]:=by
 have c:wM 3 [sl b 0 (f.length+1) 3,I 0,I 1] h=some (sl h.length 0 f.length 3,h.set b ⟨[],false⟩++[⟨cW f,true⟩]):=by simp[wM,a,h0];refine⟨by omega,?_⟩;rw[cI a (by simp[iX,gD];omega)];simp[iX]
 exact Hs aD5 rfl rfl c ⟨rfl,rfl⟩
theorem aCB(h:a9)(b c z:Nat)(s:dF)(f:List dF)(a:f=[]∧b=0∨z=3∧b≠0∧h[b]?=some ⟨cW f,true⟩)(e:h[c]?=some ⟨cW [s],true⟩)(g:c≠b)(i:f.length<=1048576):
  aN aE 317 [sl b 0 f.length z,I 0,sl c 0 1 3] h λr h'=>r=sl h.length 0 (f.length+1) 3∧h.length<h'.length∧(∀k,k<h.length->k≠b∨b=0->h'[k]?=h[k]?)∧h'[h.length]?=some ⟨cW (s::f),true⟩:=by
 have hn:cR 3 h (sl c 0 1 3)=some [I s.1,I s.2.1,I s.2.2]:=by simp only[cR,if_neg (show ¬(1:Nat)=0 by omega)];rw[cI e (by rw[gD];rfl)];simp[iX,qe]
 rcases a with⟨rfl,rfl⟩|⟨rfl,h0,a⟩
 ·have hi:sG 3 [sl 0 0 0 z,I 0,sl c 0 1 3] h=some (sl h.length 0 1 3,h++[⟨[I s.1,I s.2.1,I s.2.2],true⟩]):=by simp[sG,hn,maxSize,g]
  exact Hs aqh rfl rfl hi ⟨rfl,by simp,λk d _=>ai d,by simp[iX,qe]⟩
 ·have hi:sG 3 [sl b 0 f.length 3,I 0,sl c 0 1 3] h=some (sl h.length 0 (f.length+1) 3,h.set b ⟨[],false⟩++[⟨cW (s::f),true⟩]):=by simp only[sG,hn];rw[if_neg (by simp[maxSize];omega),if_neg h0];simp only[a,e];rw[if_pos ⟨trivial,trivial,trivial⟩,cI a (by rw[gD];omega)];simp[iX]
  exact Hs aqh rfl rfl hi ⟨rfl,by simp,λk d hn=>by rw[ai (by simpa using d),jJ (by omega)],by simp⟩
theorem c1(h:a9)(lo jb:Nat)(W H:Int)(br:List Int)(p f:List dF)(a x y:Int)(rest:List Value)(d:JM h lo jb ((W,H,br),p,(a,x,y)::f) rest)(R:0<=a)(s:a<br.length)(hp:p.length<=1000)(hf:f.length<=1000):
  aN aE 1 [pt jb 0] h λ_ h'=>Mod lo h.length h h'∧JM h' lo jb ((W,H,br.set a.toNat y),p++[(a,x,y)],f) []:=by
 obtain⟨b1,z1,b2,z2,b3,z3,d⟩:=d;have d:CW h lo jb ((W,H,br),p,(a,x,y)::f) rest b1 z1 b2 z2 b3 z3:=d;obtain⟨an,rfl⟩:=bc R;rw[aM];have w:an<br.length:=by omega
 have wf:=d.2.2.2.2.2.2.2;have KO:sX ((an:Int),x,y):=wf.f _ (by simp);have G:∀t∈f,sX t:=λt e=>wf.f _ (by simp[e]);have L:∀t∈p,sX t:=wf.p;obtain⟨j,l,i⟩:=d.cells;simp only[az]at j l i;obtain⟨v,Y,_⟩:=d.2.2.2.2.2.2.1.resolve_left (by simp);have q:b3≠0:=by omega
 have B:=PI (r:=[]) (by rw[gH];exact Y);simp only at B;refine afq ?_;refine bg λK m=>?_;simp(disch:=omega)[i,B];refine m ?_;refine bg λK m=>?_;obtain⟨h1,s1,n,T,g⟩:=d.brs w KO.2.2;simp(disch:=omega)[j,w,s1];refine m ?_;refine bg λK m=>?_;obtain⟨j,l,i⟩:=n.cells;simp only[az,aS]at j l i;have S:=n.2.2.2.2.2.2.1.resolve_left (by simp);simp(disch:=omega)[i];have s:=S.2.1;simp only at s;rw[v];refine aQ (aCA h1 b3 _ f s q) ?_;rintro _ O⟨rfl,b⟩;obtain⟨Q,X,o,V,Z⟩:=n.fut (h1:=O) (f':=f) (nb:=h1.length) (by rw[b];simp) (λc D hn=>by rw[b,ai (by simpa using D),jJ (by omega)]) (.inr ⟨by rw[b];simp,aa _⟩) G (by omega);simp(disch:=omega)[X];refine m ?_;obtain⟨j,l,i⟩:=o.cells;simp only[az,aS]at j l i;simp(disch:=omega)[l,aW];have u:=o.2.2.2.2.2.1;simp only at u;refine Gl (cs:=cW p) (rest:=rest) (new:=[I an,I x,I y]) ?_ ?_ ?_ (by omega) (by simp) (by simp) (by rw[gD];simp[maxSize];omega) ?_
 ·rcases u with⟨g,b⟩|⟨g,b,M,C,N⟩
  ·left;exact⟨by rw[g];rfl,by rw[g];rfl,b⟩
  ·right;refine⟨by have:=n.2.2.1;omega,by rw[gD];omega,?_⟩;rw[ai (bZ b)];exact b
 ·rcases u with⟨g,b⟩|⟨g,b,M,C,N⟩
  ·exact .inl b
  ·exact .inr g
 ·simp[cR];rw[fB (k:=⟨[I an,I x,I y],true⟩) (by simp) (by simp)];simp
 intro P J z A;simp only[af,az,aF]at J z A;obtain⟨h4,E,F,U,C⟩:=o.Ct (h1:=P) (p':=p++[((an:Int),x,y)]) (Lg:=[]) (nb:=Q.length+1) (by omega) (λc D hn=>by rw[z c (by omega) hn,ai (by omega)])
  (by rw[A];simp[rJ,iX,qe]) (.inl (by omega)) (by
   intro t e;rcases cS.1 e with e|e
   ·exact L t e
   ·simp at e;subst e;exact KO) (by simp;omega)
 simp only[af,az,aF,dt]at E;simp(disch:=omega)[E];exact⟨T.tr (V.tr U),F.jm⟩
theorem aDI(h:a9)(lo jb:Nat)(W H:Int)(br:List Int)(p f:List dF)(a x y:Int)(rest:List Value)(d:JM h lo jb ((W,H,br),p++[(a,x,y)],f) rest)(O:0<=a)(V:a<br.length)(hp:p.length<=1000)(Y:f.length<=1000):
  aN aE 564 [pt jb 0] h λ_ h'=>Mod lo h.length h h'∧JM h' lo jb ((W,H,br.set a.toNat x),p,(a,x,y)::f) (cW [(a,x,y)]++rest):=by
 obtain⟨b1,z1,b2,z2,b3,z3,d⟩:=d;have d:CW h lo jb ((W,H,br),p++[(a,x,y)],f) rest b1 z1 b2 z2 b3 z3:=d;obtain⟨an,rfl⟩:=bc O;rw[aM];have B:an<br.length:=by omega
 have wf:=d.2.2.2.2.2.2.2;have KO:sX ((an:Int),x,y):=wf.p _ (by simp);have J:∀t∈f,sX t:=wf.f;have L:∀t∈p,sX t:=λt m=>wf.p _ (by simp[m]);obtain⟨j,b,i⟩:=d.cells;simp only[af,az,aF,dt]at j b i;obtain⟨A,D,_⟩:=d.2.2.2.2.2.1.resolve_left (by simp);simp only at D;have c2:=Sv D;simp only at c2;refine afq ?_;refine bg λK g=>?_;simp(disch:=omega)[b];refine g ?_;refine bg λK g=>?_;have C:((p.length:Int)+1-1)=p.length:=by omega
 have M:((p.length:Int)<p.length+1)=True:=by simp;omega
 simp(disch:=omega)[b,C,c2,wrap64,M];refine g ?_;refine bg λK g=>?_;obtain⟨h1,s1,o,Q,l1⟩:=d.brs B KO.2.1;simp(disch:=omega)[j,B,s1];refine g ?_;refine bg λK g=>?_;obtain⟨j,b,i⟩:=o.cells;simp only[af,az,aF,dt,aS]at j b i;have E:=o.2.2.2.2.2.1.resolve_left (by simp);simp only at E;obtain⟨q,s2,k,R,l2⟩:=o.Ct (h1:=h1) (p':=p) (Lg:=cW [((an:Int),x,y)]++rest) (nb:=b2) (aa _) (λc _ _=>rfl) (by rw[E.2.1];simp[rJ]) (.inr ⟨rfl,by simp⟩) L (by omega);have es:gS 7 h1 (sl b2 0 (p.length+1) 3) none (some (I p.length)) none=some (sl b2 0 p.length 3,h1):=by simp[gS,bound]
 rw[A]at b;simp(disch:=omega)[b,C,wrap64,es,s2];refine g ?_;obtain⟨j,b,i⟩:=k.cells;simp only[af,az,aF,dt,aS]at j b i;have w:cell (q++[⟨[I an,I x,I y],true⟩]) jb 4=some (sl b3 0 f.length z3):=by simp only[cell]at i ⊢;rw[ai (bZ k.1)];exact i
 simp(disch:=omega)[aW,w];have n:=k.2.2.2.2.2.2.1;simp only at n;have hn:cR 3 (q++[⟨[I an,I x,I y],true⟩]) (sl b3 0 f.length z3)=some (cW f):=by
  by_cases z:f=[]
  ·subst z;rfl
  ·have:f.length≠0:=λe=>z (aB.1 e);have n:=n.resolve_left λe=>z e.1;simp only[cR,if_neg this];exact cI (xq n.2.1) (by rw[gD];omega)
 have P:0<q.length:=by have:=bZ k.1;omega
 refine Zj (s:=((an:Int),x,y)) (by simp[iX,qe]) (by omega) hn (by omega) λnb N u l v r=>?_;simp only[af,az,aF]at u l;obtain⟨U,F,G,S,T⟩:=k.fut (h1:=N) (f':=((an:Int),x,y)::f) (nb:=nb) (by omega) (λc X _=>by rw[l c (by omega) (by omega),ai (by omega)]) (.inr ⟨v,r⟩) (by
   intro t m;rcases bR.1 m with rfl|m
   ·exact KO
   ·exact J t m) (by simp;omega)
 simp only[az]at F;simp(disch:=omega)[F];exact⟨Q.tr (R.tr S),G.jm⟩
theorem c2(h:a9)(lo jb:Nat)(W H:Int)(br:List Int)(p f:List dF)(a x y:Int)(rest:List Value)(d:JM h lo jb ((W,H,br),p++[(a,x,y)],f) rest)(J:0<=a)(R:a<br.length)(hp:p.length<=1000)(T:f.length<=1000):
  aN aE 2 [pt jb 0] h λ_ h'=>Mod lo h.length h h'∧JM h' lo jb ((W,H,br.set a.toNat x),p,(a,x,y)::f) (cW [(a,x,y)]++rest):=by
 obtain⟨b1,z1,b2,z2,b3,z3,d⟩:=d;have d:CW h lo jb ((W,H,br),p++[(a,x,y)],f) rest b1 z1 b2 z2 b3 z3:=d;obtain⟨an,rfl⟩:=bc J;rw[aM];have w:an<br.length:=by omega
 have wf:=d.2.2.2.2.2.2.2;have KO:sX ((an:Int),x,y):=wf.p _ (by simp);have D:∀t∈f,sX t:=wf.f;have E:∀t∈p,sX t:=λt n=>wf.p _ (by simp[n]);obtain⟨k,b,g⟩:=d.cells;simp only[af,az,aF,dt]at k b g;obtain⟨v,z,_⟩:=d.2.2.2.2.2.1.resolve_left (by simp);simp only at z;have cl:=Sv z;simp only at cl;refine afq ?_;refine bg λK i=>?_;have r:((p.length:Int)+1-1)=p.length:=by omega
 simp(disch:=omega)[b,r,wrap64];refine i ?_;refine bg λK i=>?_;have F:((p.length:Int)<p.length+1)=True:=by simp;omega
 simp(disch:=omega)[b,r,cl,wrap64,F];refine i ?_;refine bg λK i=>?_;obtain⟨h1,s1,q,M,l1⟩:=d.brs w KO.2.1;simp(disch:=omega)[k,w,s1];refine i ?_;refine bg λK i=>?_;obtain⟨k,b,g⟩:=q.cells;simp only[af,az,aF,dt,aS]at k b g;have A:=q.2.2.2.2.2.1.resolve_left (by simp);simp only at A;obtain⟨o,s2,j,N,l2⟩:=q.Ct (h1:=h1) (p':=p) (Lg:=cW [((an:Int),x,y)]++rest) (nb:=b2) (aa _) (λc _ _=>rfl) (by rw[A.2.1];simp[rJ]) (.inr ⟨rfl,by simp⟩) E (by omega);have es:gS 7 h1 (sl b2 0 (p.length+1) 3) none (some (I p.length)) none=some (sl b2 0 p.length 3,h1):=by simp[gS,bound]
 rw[v]at b;simp(disch:=omega)[b,r,wrap64,es,s2];refine i ?_;obtain⟨k,b,g⟩:=j.cells;simp only[af,az,aF,dt,aS]at k b g;have L:cell (o++[⟨[I an,I x,I y],true⟩]) jb 4=some (sl b3 0 f.length z3):=by simp only[cell]at g ⊢;rw[ai (bZ j.1)];exact g
 simp(disch:=omega)[aW,g];have u:=j.2.2.2.2.2.2.1;simp only at u;have hi:=aCB (o++[⟨[I an,I x,I y],true⟩]) b3 o.length z3 ((an:Int),x,y) f (u.imp id λe=>⟨e.1,by have:=j.2.2.1;omega,xq e.2.1⟩) (by simp[iX,qe]) (by
  have:=bZ j.1;rcases u with e|e
  ·omega
  ·have:=bZ e.2.1;omega) (by omega)
 refine aQ hi ?_;rintro _ G⟨rfl,s,l,m⟩;simp only[af,az,aF]at s l m;obtain⟨Q,B,C,O,P⟩:=j.fut (h1:=G) (f':=((an:Int),x,y)::f) (nb:=o.length+1) (by omega) (λc S hn=>by rw[l c (by omega) hn,ai (by omega)]) (.inr ⟨m,by omega⟩) (by
   intro t n;rcases bR.1 n with rfl|n
   ·exact KO
   ·exact D t n) (by simp;omega)
 simp only[az]at B;simp(disch:=omega)[B];exact⟨M.tr (N.tr O),C.jm⟩
end Am

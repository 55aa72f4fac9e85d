/- Contracts of functions. -/
import Derived.Test.YtpgioncclmancaaGreatPK13
set_option linter.unusedVariables false
set_option linter.unusedSimpArgs false
set_option maxHeartbeats 4000000
set_option maxRecDepth 40000
namespace Am
open Go
theorem Lc{x n y:Nat}:∀ps:List (vg×vg),(LY x n y ps).length=ps.length*2
 |[]=>rfl
 |p::ps=>by
  have:=Lc (x:=x) (n:=n) (y:=y) ps;unfold LY at this ⊢;simp only[bX,cK,af,az,aF,this];omega
theorem agA{x n y:Nat}:∀(ps:List (vg×vg)) (i:Nat) (hi:i<ps.length),((LY x n y ps).drop (i*2)).take 2=[I (vQ x n y ps[i].1.1 ps[i].1.2:Nat),I (vQ x n y ps[i].2.1 ps[i].2.2:Nat)]
 |[],i,hi=>by simp at hi
 |p::ps,0,_=>by simp[LY]
 |p::ps,i+1,hi=>by
  have:=agA (x:=x) (n:=n) (y:=y) ps i (by simpa using hi);unfold LY at this ⊢;simp only[bX,cK,kg];rw[show(i+1)*2=i*2+2 by omega];rw[<-this]
  congr 1
theorem anq{n y:Nat}{kd:Nat->Int}:1<=(BY n y kd).length∧(BY n y kd).length<=2:=by
 unfold BY;split
 ·simp
 ·split
  ·simp
  ·split
   ·simp
   ·split<;>simp
theorem Kz{l:List Nat}{p:Nat×Nat}:cP (lx l p)=((cP l).set p.1 p.2).set p.2 p.1:=by simp[lx,cP,jS]
theorem c43(h:a9)(hp:0<h.length)(W H:Int)(br:List Int)(s kv:Value)(x n:Nat)(K:List Nat)(left:Bool)(ok:fg (W,H,br))(hr:Vr h cZ s br)(hx:1<=x∧x<2*W.toNat)(en:n=2*H.toNat)(hK:iO K n)(rk:Rw h kv 1 (ints (cP K))):aN aE 43 [.agg #[I W,I H,s],I x,kv,B left] h λr h'=>ae h h'∧∃w,r=.tuple #[w,I ((pN (rD x n λj=>fZ W.toNat H.toNat br x j) K n).2:Nat)]∧bP h h' w 1 (ints (cP (pN (rD x n λj=>fZ W.toNat H.toNat br x j) K n).1)):=by
 have w8:=ok.w;have h8:=ok.h;simp only at w8 h8;obtain⟨kd,U⟩:∃kd:Nat->Int,kd=λ(j:Nat)=>fZ W.toNat H.toNat br x j:=⟨_,rfl⟩;rw[<-U];have kd0:kd 0=0:=by rw[U];exact wG (by unfold gr;omega)
 have kdn:kd n=0:=by rw[U];exact wG (by unfold gr;omega)
 obtain⟨kb,ko,kn,ky,rfl,eb,cb⟩:=rk;have eb:kn=n:=by have:=eb;simp[ints,cP,hK.len]at this;exact this
 rw[eb]at cb ⊢;rw[dn]at cb;clear eb;have n2:2<=n∧n<=16:=by omega
 have hH:=cQ (2*H) n;obtain⟨E,GM⟩:=aC (2*n);have UM:=cQ (2*(n:Int)) E;refine ag8 λQ L=>?_;obtain⟨f,u⟩:=aC h.length;obtain⟨h1,F⟩:=aC (h++[⟨[I x],true⟩,⟨[B left],true⟩]);have g1:ae h h1:=⟨_,F⟩;have l1:h1.length=f+2:=by rw[F,u];simp
 rw[<-F,<-u];refine L ?_;refine bg λQ L=>?_;have st0:storeAt (h1++[⟨[I 0],true⟩]) h1.length 0 [I n]=some (h1++[⟨[I n],true⟩]):=by simp[storeAt]
 simp(disch:=omega)[hH,st0];obtain⟨nb,G⟩:=aC h1.length;obtain⟨g,C⟩:=aC (h1++[⟨[I n],true⟩]);have g2:ae h g:=g1.trans ⟨_,C⟩;have l2:g.length=nb+1:=by rw[C,G];simp
 have X:cell g f 0=some (I x):=by rw[C,F,u];simp[cell]
 have cl:cell g (f+1) 0=some (B left):=by rw[C,F,u];simp[cell]
 have V:cell g nb 0=some (I n):=by rw[C,G];simp[cell]
 rw[<-C,<-G];refine L ?_;refine bg λQ L=>?_;simp(disch:=omega)[V,UM];rw[xl (by omega)];simp only[bI];obtain⟨lb,FB⟩:=aC g.length;obtain⟨h3,R⟩:=aC (g++[⟨ints (List.replicate E 0),true⟩]);have g3:ae g h3:=⟨_,R⟩;have k3:h3[lb]?=some ⟨ints (List.replicate E 0),true⟩:=by rw[R,FB];simp
 rw[<-R,<-FB]
 try simp(disch:=omega)
 refine L ?_;refine bg λQ L=>?_;simp(disch:=omega)[CM,G6,scalar,EU];refine L ?_;have cx3:=g3.cell X;obtain⟨y0,ey0⟩:=aC ((x+1)%2);have hy0:Int.tmod (IntKind.i64.wrap ((x:Int)+1)) 2=y0:=by rw[wrap64 (by omega) (by omega),cj (by omega)];omega
 have k3:h3[lb]?=some ⟨ints (cP (zR x n kd y0)),true⟩:=by rw[ajv (by omega) (by omega),<-GM,k3];simp[cP]
 rw[aw];generalize hP:aP aE _ _=PP;simp(disch:=omega)[cx3,hy0];refine aU (λy σ h'=>y<=n+2∧(x+y)%2=1∧ae g h'∧h'[lb]?=some ⟨ints (cP (zR x n kd y)),true⟩∧σ 2=sl kb ko n ky∧σ 4=.agg #[I W,I H,s]∧σ 5=pt f 0∧σ 10=pt nb 0∧σ 11=sl lb 0 E 1∧σ 12=.func (.func 44) #[] #[pt nb 0,pt f 0,pt (f+1) 0]∧σ 13=I (y:Nat)) (λy=>n+2-y) y0 ?_ ?_
 ·exact⟨by omega,by omega,g3,k3,by simp,by simp,by simp,by simp,by simp,by simp,by simp⟩
 rintro y σ h'⟨hy,Aq,T,hL,q2,q4,q5,nK,oL,DR,BZ⟩;have P:=T.cell V;simp(disch:=omega)[nK,BZ,P];refine aG (λhle=>?_) (λYf=>?_)
 ·have hle:y<=n:=by omega
  have cx':=T.cell X;simp(disch:=omega)[q4,q5,BZ,cx'];have N:=g2.trans T;refine aO (c41 h' (aL hp N) W H br s x y ok (hr.grow N) hx Aq (by omega)) ?_;rintro v h4⟨g4,b4⟩;rw[<-en,<-U]at b4;obtain⟨ps,eps⟩:=aC (BY n y kd);have pl:=anq (n:=n) (y:=y) (kd:=kd);have po:=agz (n:=n) (y:=y) (kd:=kd) n2.1 hle;have px:=agB (x:=x) (left:=left) (kd:=kd) n2.1 hle Aq kd0 kdn;have pa:=YH (x:=x) (n:=n) (y:=y) (kd:=kd) (left:=left) n2.1;rw[<-eps]at b4 pl po px pa;have jt:=aju (ps:=ps.map (Ff n y left)) Aq (by intro p hp;obtain⟨q,hq,rfl⟩:=bj.1 hp;exact px q hq) pa;obtain⟨b,m,rfl,em,lb4,kb4⟩:∃b m,v=sl b 0 m 2∧m=ps.length∧h'.length<=b∧h4[b]?=some ⟨LY x n y ps,true⟩:=by
   rcases b4 with⟨e,_⟩|⟨b,m,F,C,R,e4⟩
   ·have:=congrArg List.length e;rw[Lc]at this;simp at this;omega
   ·rw[Lc]at C;exact⟨b,m,F,by omega,R,e4⟩
  have aLY:=bZ hL;have gh4:=T.trans g4;simp(disch:=omega);refine aU (λi τ D=>i<=m∧ae g D∧D[lb]?=some ⟨ints (cP (((ps.map (Ff n y left)).take i).foldl lx (zR x n kd y))),true⟩∧D[b]?=some ⟨LY x n y ps,true⟩∧τ 2=sl kb ko n ky∧τ 4=.agg #[I W,I H,s]∧τ 5=pt f 0∧τ 10=pt nb 0∧τ 11=sl lb 0 E 1∧τ 12=.func (.func 44) #[] #[pt nb 0,pt f 0,pt (f+1) 0]∧τ 13=I (y:Nat)∧τ 44=sl b 0 m 2∧τ 45=I m∧τ 46=I i) (λi=>m-i) 0 ?_ ?_
  ·exact⟨by omega,gh4,by simpa using g4.at hL,kb4,by simpa using q2,by simpa using q4,by simpa using q5,by simpa using nK,by simpa using oL,by simpa using DR,by simpa using BZ,by simp,by simp,by simp⟩
  rintro i τ D⟨hi,J,z,S,t2,t4,t5,d8,i5,oO,t13,t44,t45,M⟩;simp(disch:=omega)[t45,M];refine aG (λO=>?_) (λdG=>?_)
  ·have O:i<ps.length:=by omega
   have hlm:i<m:=by omega
   have c2:aZ D b (i*2) 2=some [I (vQ x n y ps[i].1.1 ps[i].1.2:Nat),I (vQ x n y ps[i].2.1 ps[i].2.2:Nat)]:=by rw[fB S (by simp only[Lc];omega)];simp only[agA ps i O]
   obtain⟨o1,o2⟩:=po ps[i] (aD O);obtain⟨⟨x1,x2⟩,_⟩:=px ps[i] (aD O);have x3:=(FL (x:=x) (kd:=kd) x1).1;rw[x2]at x3;have o:=c44 D x y n nb f (f+1) ps[i].1.1 ps[i].1.2 left (by omega) (by omega) o1 (J.cell V) (J.cell X) (J.cell cl);have t:=c44 D x y n nb f (f+1) ps[i].2.1 ps[i].2.2 left (by omega) (by omega) o2 (J.cell V) (J.cell X) (J.cell cl);have A7:((ps.map (Ff n y left)).take (i+1)).foldl lx (zR x n kd y)=lx (((ps.map (Ff n y left)).take i).foldl lx (zR x n kd y)) (Ff n y left ps[i]):=by rw[jT,oN,ah O];simp[ju]
   obtain⟨p,ep⟩:=aC (Ff n y left ps[i]);have ep1:tR n (ps[i].1.1==left) ps[i].1.2 y=p.1:=by rw[ep];rfl
   have ep2:tR n (ps[i].2.1==left) ps[i].2.2 y=p.2:=by rw[ep];rfl
   rw[ep1]at o;rw[ep2]at t;rw[<-ep]at x1 x3 A7;obtain⟨Z,eZ⟩:=aC (((ps.map (Ff n y left)).take i).foldl lx (zR x n kd y));rw[<-eZ]at z A7;have lZ:Z.length=E:=by rw[eZ,we];simp[zR,GM]
   obtain⟨A,eA⟩:∃A:Int,A=(vQ x n y ps[i].1.1 ps[i].1.2:Nat):=⟨_,rfl⟩;obtain⟨A',eA'⟩:∃A':Int,A'=(vQ x n y ps[i].2.1 ps[i].2.2:Nat):=⟨_,rfl⟩;rw[<-eA]at o c2;rw[<-eA']at t c2;obtain⟨a,d⟩:=p;simp only at o t x1 x3;have x1':a<E:=by omega
   have x3':d<E:=by omega
   have s1:=iF (x:=((d:Nat):Int)) z (k:=a) (by rw[jh];omega);obtain⟨h5,Y⟩:=aC (D.set lb ⟨ints ((cP Z).set a ((d:Nat):Int)),true⟩);rw[<-Y]at s1;have Jv:h5[lb]?=some ⟨ints ((cP Z).set a ((d:Nat):Int)),true⟩:=by rw[Y];exact jy z
   have s2:=iF (x:=((a:Nat):Int)) Jv (k:=d) (by rw[aS,jh];omega);have e6:((cP Z).set a ((d:Nat):Int)).set d ((a:Nat):Int)=cP (lx Z (a,d)):=(Kz (l:=Z) (p:=(a,d))).symm;rw[e6]at s2;obtain⟨h6,e7⟩:=aC (h5.set lb ⟨ints (cP (lx Z (a,d))),true⟩);rw[<-e7]at s2;have hL6:h6[lb]?=some ⟨ints (cP (lx Z (a,d))),true⟩:=by rw[e7];exact jy Jv
   have g6:ae g h6:=by rw[e7,Y];exact(J.put (by omega) _).put (by omega) _
   have nbl:b≠lb:=by omega
   have hb6:h6[b]?=some ⟨LY x n y ps,true⟩:=by rw[e7,Y,ag (by omega),ag (by omega)];exact S
   try simp(disch:=omega)[t44,M,hlm,c2,oO,Bq,Br,AS,AT]
   refine aO o ?_;rintro _ _⟨rfl,rfl⟩
   try simp(disch:=omega)[oO,Bq,Br,AS,AT]
   refine aO t ?_;rintro _ _⟨rfl,rfl⟩
   try simp(disch:=omega)[i5,x1',x3',s1,s2]
   try simp(disch:=omega)[M,wrap64]
   refine⟨i+1,?_,by omega⟩;rw[A7];and_intros<;>first|assumption|omega|rfl
  ·have:i=m:=by omega
   subst this;rw[em,aY (by simp),jt]at z;simp(disch:=omega)[t13,wrap64];refine⟨y+2,?_,by omega⟩;and_intros<;>first|assumption|omega|rfl
 ·have Yf:n<y:=by omega
  rw[am9 Yf]at hL;simp(disch:=omega);subst hP;simp only[aq];have N:=g2.trans T;have key:=λσ (a:σ 2=sl kb ko n ky) (b:σ 10=pt nb 0) (c:σ 11=sl lb 0 (2*n) 1)=>aC5 h h' N (aL hp N) σ (rD x n kd) K n kb ko ky nb lb JY hK (by omega) (cI hL (by simp[ints,cP,rD])) (cb.imp id λe=>N.aZ e) P a b c;dsimp only[WA,P9]at key;exact key _ (by simpa using q2) (by simpa using nK) (by rw[<-GM];simpa using oL)
noncomputable def zT(X:bW)(x:Nat)(c:List Nat×Nat):List Nat×Nat:=
 ((pN (rD x (2*X.2.1.toNat) λj=>fZ X.1.toNat X.2.1.toNat X.2.2 x j) c.1 (2*X.2.1.toNat)).1,c.2+(pN (rD x (2*X.2.1.toNat) λj=>fZ X.1.toNat X.2.1.toNat X.2.2 x j) c.1 (2*X.2.1.toNat)).2)
noncomputable def tW(X:bW):Nat->List Nat×Nat
 |0=>(qM (2*X.2.1.toNat),0)
 |t+1=>zT X (t+1) (tW X t)
noncomputable def EB(X:bW):Nat->List Nat×Nat
 |0=>(qM (2*X.2.1.toNat),0)
 |t+1=>zT X (2*X.1.toNat-1-t) (EB X t)
theorem VL{X:bW}{x:Nat}{c:List Nat×Nat}(a:iO c.1 (2*X.2.1.toNat)):iO (zT X x c).1 (2*X.2.1.toNat)∧(zT X x c).2<=c.2+2*X.2.1.toNat:=by have b:=Ip (JY (x:=x) (n:=2*X.2.1.toNat) (kd:=λj=>fZ X.1.toNat X.2.1.toNat X.2.2 x j)) a;have:=(EY a b (2*X.2.1.toNat) (aa _)).2;exact⟨anj JY a,by unfold zT pN;simp only;omega⟩
theorem aga{m:Nat}:iO (qM (2*m)) (2*m):=Kh (by omega)
theorem Eh{X:bW}:∀t,iO (tW X t).1 (2*X.2.1.toNat)∧(tW X t).2<=t*(2*X.2.1.toNat)
 |0=>⟨aga,by simp[tW]⟩
 |t+1=>by
  obtain⟨a,b⟩:=Eh (X:=X) t;obtain⟨c,d⟩:=VL (X:=X) (x:=t+1) a;refine⟨c,?_⟩;have e:tW X (t+1)=zT X (t+1) (tW X t):=rfl;rw[e,cX];omega
theorem Ob{X:bW}:∀t,iO (EB X t).1 (2*X.2.1.toNat)∧(EB X t).2<=t*(2*X.2.1.toNat)
 |0=>⟨aga,by simp[EB]⟩
 |t+1=>by
  obtain⟨a,b⟩:=Ob (X:=X) t;obtain⟨c,d⟩:=VL (X:=X) (x:=2*X.1.toNat-1-t) a;refine⟨c,?_⟩;have e:EB X (t+1)=zT X (2*X.1.toNat-1-t) (EB X t):=rfl;rw[e,cX];omega
theorem Fy{t n c:Nat}(a:t<=16)(hn:n<=16)(h:c<=t*n):c<=256:=a7 h (dh a hn)
theorem c39(h:a9)(hp:0<h.length)(W H:Int)(br:List Int)(s d:Value)(x cl:Nat)(c:List Nat×Nat)(ok:fg (W,H,br))(A:Vr h cZ s br)(hx:x+1<2*W.toNat)(m:iO c.1 (2*H.toNat))(J:c.2<=256)(u:Rw h d 1 (ints (cP c.1))):aN aE 39 [.agg #[I W,I H,s],I x,.agg #[d,I (c.2:Nat)]] h λr h'=>ae h h'∧∃w,r=.agg #[w,I ((zT (W,H,br) (x+1) c).2:Nat)]∧bP h h' w 1 (ints (cP (zT (W,H,br) (x+1) c).1)):=by
 have B:=ok.w;have z:=ok.h;simp only at B z;have l:=(VL (X:=(W,H,br)) (x:=x+1) m).2;simp only at l;obtain⟨D,f⟩:=aC (zT (W,H,br) (x+1) c);have g:(pN (rD (x+1) (2*H.toNat) λj=>fZ W.toNat H.toNat br (x+1:Nat) j) c.1 (2*H.toNat)).1=D.1:=by rw[f];rfl
 have i:c.2+(pN (rD (x+1) (2*H.toNat) λj=>fZ W.toNat H.toNat br (x+1:Nat) j) c.1 (2*H.toNat)).2=D.2:=by rw[f];rfl
 have k:=c43 h hp W H br s d (x+1) _ c.1 true ok A ⟨by omega,hx⟩ rfl m u;rw[<-f]at l ⊢;obtain⟨v,a⟩:=aC ((pN (rD (x+1) (2*H.toNat) λj=>fZ W.toNat H.toNat br (x+1:Nat) j) c.1 (2*H.toNat)).2);rw[g,<-a]at k;rw[<-a]at i;have E:=cQ ((x:Int)+1) (((x+1:Nat):Int));have C:=cQ ((c.2:Int)+(v:Nat)) D.2;obtain⟨c1,c2⟩:=c;simp only at*;obtain⟨p,ko,q,t,rfl⟩:∃p ko q t,d=sl p ko q t:=by obtain⟨b,o,n,y,e,_⟩:=u;exact⟨b,o,n,y,e⟩
 refine afq ?_;simp(disch:=omega)[E];refine aO k ?_;rintro _ G⟨g2,w,rfl,b2⟩;obtain⟨F,rfl⟩:=b2.nw;simp(disch:=omega)[C];exact⟨g2,_,rfl,b2⟩
def Hu(h:a9)(lo n k wb:Nat)(v:Value)(c:List Nat×Nat):Prop:=∃b Z,v=sl b 0 (k+1) 2∧lo<=b∧h[b]?=some ⟨Z,true⟩∧Z.length=(k+1)*2∧(Z.drop (k*2)).take 2=[sl wb 0 n 1,I (c.2:Nat)]∧wb≠b∧h[wb]?=some ⟨ints (cP c.1),true⟩
def ahx(h:a9)(lo n k:Nat)(v:Value)(c:List Nat×Nat):Prop:=∃wb,Hu h lo n k wb v c
def ahy(h:a9)(lo n k:Nat)(v u:Value)(c:List Nat×Nat):Prop:=∃wb,u=.agg #[sl wb 0 n 1,I (c.2:Nat)]∧Hu h lo n k wb v c
def ahz(h:a9)(m:Nat)(r:Value)(c:List Nat×Nat):Prop:=∃b w,r=sl b 0 (m+1) 2∧aZ h b (m*2) 2=some [w,I (c.2:Nat)]∧Rw h w 1 (ints (cP c.1))
theorem bP.VV{h0 h:a9}{w:Value}{l:List Nat}{n:Nat}(x:bP h0 h w 1 (Am.ints (cP l)))(hl:l.length=n)(hn:1<=n):∃b,w=sl b 0 n 1∧h0.length<=b∧h[b]?=some ⟨Am.ints (cP l),true⟩:=by
 rcases x with⟨q,_⟩|⟨b,f,a,c,d,e⟩
 ·have:=congrArg List.length q;simp only[Am.ints,bL,jh,hl]at this;simp at this;omega
 ·have:f=n:=by simpa [Am.ints,jh,hl]using c
  subst this;exact⟨b,a,d,e⟩
theorem Pu{h:a9}{b:Nat}{l:List Nat}{n:Nat}(a:h[b]?=some ⟨ints (cP l),true⟩)(hl:l.length=n):Rw h (sl b 0 n 1) 1 (ints (cP l)):=
 ⟨b,0,n,1,rfl,by simp[ints,jh,hl],.inr (cI a (by simp[ints,jh,hl]))⟩
theorem Hu.res{h:a9}{lo n k wb:Nat}{v:Value}{c:List Nat×Nat}(x:Hu h lo n k wb v c)(d:c.1.length=n):ahz h k v c:=by obtain⟨b,Z,rfl,_,e,f,a,_,kw⟩:=x;exact⟨b,sl wb 0 n 1,rfl,by rw[fB e (by simp only;omega)];simp only[a],Pu kw d⟩
theorem Hu.app{h h' g:a9}{lo n k wb a:Nat}{v:Value}{c d:List Nat×Nat}{K:Value->a9->Prop}(hp:0<h.length)(F:lo=h.length)(M:ae h h')(r:ae h' g)(x:Hu h' lo n k wb v c)(S:k<=100)(P:h'.length<=a)(p:g[a]?=some ⟨ints (cP d.1),true⟩)
  (J:∀u i,ae h i->Hu i lo n (k+1) a u d->K u i):gE (aW 2 1 g [(0,.agg #[sl 0 0 0 0,I 0]),(2,.agg #[sl a 0 n 1,I (d.2:Nat)])]) (λy H=>gE (cu 2 H y v) K):=by
 subst F;obtain⟨b,Z,rfl,L,s,t,R,Q,kw⟩:=x;have E:aW 2 1 g [(0,.agg #[sl 0 0 0 0,I 0]),(2,.agg #[sl a 0 n 1,I (d.2:Nat)])]=some (sl g.length 0 1 2,g++[⟨[sl a 0 n 1,I (d.2:Nat)],true⟩]):=by simp[aW]
 rw[E];simp only[bI];have blt:=bZ s;have tO:=M.trans r;have z:bP h g (sl b 0 (k+1) 2) 2 Z:=.inr ⟨b,k+1,rfl,by omega,L,r.at s⟩;refine AU hp tO (aa _) tO.le z rfl (by omega) (by simp[maxSize];omega) λv4 i G T w O f4=>?_;obtain⟨f,rfl,j,l⟩:∃f,v4=sl f 0 (k+1+1) 2∧h.length<=f∧i[f]?=some ⟨Z++[sl a 0 n 1,I (d.2:Nat)],true⟩:=by
  rcases w with⟨q,_⟩|⟨b,N,A,B,C,D⟩
  ·have:=congrArg List.length q;simp at this
  ·have:N=k+1+1:=by simp[t]at B;omega
   subst this;exact⟨b,A,C,D⟩
 have o:i[a]?=some ⟨ints (cP d.1),true⟩:=f4 a _ p (by intro n e;injection e with e _ _;injection e with e;injection e with e _ _;omega);have m:a≠f:=by have:=O f _ _ rfl;have:=bZ p;omega
 refine J _ _ G ⟨f,_,rfl,j,l,by simp[t];omega,?_,m,o⟩;rw[gX (by omega),dQ (by omega)];simp
theorem c27(h:a9)(hp:0<h.length)(W H:Int)(br:List Int)(s:Value)(ok:fg (W,H,br))(hr:Vr h cZ s br):aN aE 27 [.agg #[I W,I H,s]] h λr h'=>ae h h'∧ahz h' (2*W.toNat-1) r (tW (W,H,br) (2*W.toNat-1)):=by
 have w8:=ok.w;have V:=ok.h;simp only at w8 V;have j:=λt=>Eh (X:=(W,H,br)) t;have cs:∀t,tW (W,H,br) (t+1)=zT (W,H,br) (t+1) (tW (W,H,br) t):=λt=>rfl;have d:tW (W,H,br) 0=(qM (2*H.toNat),0):=rfl;have e:=λh' pg qL kv x hx hc iC v=>c39 h' pg W H br s kv x 0 (tW (W,H,br) x) ok qL hx hc iC v;obtain⟨F,O⟩:=aC (tW (W,H,br));obtain⟨n,z⟩:=aC (2*H.toNat);simp only[<-O]at j cs d e ⊢;rw[<-z]at d;simp only[<-z]at j e;simp only[<-cs]at e;obtain⟨m,em⟩:∃m,m+1=2*W.toNat:=⟨2*W.toNat-1,by omega⟩;rw[<-em];simp only[dV];have Y:=cQ (2*H) n;have hW:=cQ (2*W) (m+1);have C:=cQ ((m:Int)+1-1) m;have p:=cQ (m:Int) m;refine ag8 λK o=>?_;refine o ?_;refine bg λK o=>?_;simp(disch:=omega)[Y];refine aO (ahR h hp n (by omega)) ?_;rintro w0 h1⟨g1,b1⟩;obtain⟨wb,rfl,WN,kw⟩:=b1.VV (n:=n) (by simp[qM]) (by omega);simp(disch:=omega);have Q:aW 2 1 h1 [(0,.agg #[sl 0 0 0 0,I 0]),(2,.agg #[sl wb 0 n 1,I 0])]=some (sl h1.length 0 1 2,h1++[⟨[sl wb 0 n 1,I 0],true⟩]):=by simp[aW]
 rw[Q];simp only[bI];obtain⟨b0,a⟩:=aC h1.length;obtain⟨f,l⟩:=aC (h1++[⟨[sl wb 0 n 1,I 0],true⟩]);have c:ae h1 f:=⟨_,l⟩;have g2:ae h f:=g1.trans c;have l1:=g1.le;have k2:f[b0]?=some ⟨[sl wb 0 n 1,I 0],true⟩:=by rw[l,a];simp
 have wlt:=bZ kw;have E:ahx f h.length n 0 (sl b0 0 1 2) (F 0):=⟨wb,b0,_,rfl,by omega,k2,rfl,by rw[d];rfl,by omega,by rw[d];exact c.at kw⟩;rw[<-l,<-a]
 try simp(disch:=omega)
 refine o ?_;rw[aw];generalize hP:aP aE _ _=PP;simp(disch:=omega)[hW,C,p];refine aU (λk σ h'=>k<=m∧ae h h'∧σ 1=.agg #[I W,I H,s]∧σ 14=I m∧σ 15=I k∧ahx h' h.length n k (σ 3) (F k)) (λk=>m-k) 0 ?_ ?_
 ·exact⟨by omega,g2,by simp,by simp,by simp,by simpa using E⟩
 ·rintro k σ h'⟨hk,g,q1,xO,AK,J,S⟩;have D:=S;obtain⟨b,Z,i,hb,kZ,lZ,P,wne,u⟩:=D;obtain⟨q,i2⟩:=j k;simp(disch:=omega)[xO,AK];refine aG (λbB=>?_) (λdG=>?_)
  ·have k1:k<m:=by omega
   have N:aZ h' b (k*2) 2=some [sl J 0 n 1,I ((F k).2:Nat)]:=by rw[fB kZ (by simp only;omega)];simp only[P]
   have L:k<k+1:=by omega
   have B:(k:Int)<(k:Int)+1:=by omega
   have cl:=Fy (t:=k) (by omega) (by omega) i2;have v:=Pu u q.len;simp(disch:=omega)[q1,i,AK,N,L,B];refine aO (e h' (aL hp g) (hr.grow g) _ k (by omega) q cl v) ?_;rintro _ h3⟨T,w3,rfl,b3⟩;obtain⟨i3,i4⟩:=j (k+1);obtain⟨A,rfl,y,M⟩:=b3.VV (n:=n) i3.len (by omega);rw[i]at S
   try simp(disch:=omega)
   refine Hu.app hp rfl g T S (by omega) y M λv4 U g4 G=>?_;have E4:ahx U h.length n (k+1) v4 (F (k+1)):=⟨A,G⟩;simp(disch:=omega)[xO,AK,wrap64];refine⟨k+1,?_,by omega⟩;and_intros<;>first|assumption|omega|rfl
  ·have:k=m:=by omega
   subst this;have R:=S.res q.len;rw[i]at R;simp(disch:=omega);subst hP;simp(disch:=omega)[i];exact⟨g,R⟩
noncomputable def xA(X:bW):Int×Int:=if iv X then(((tW X (2*X.1.toNat-1)).2+Da (tW X (2*X.1.toNat-1)).1 (qM (2*X.2.1.toNat)) (2*X.2.1.toNat):Nat),0)else(0,1)
noncomputable def Bb(X:bW)(x:Int):(List Nat×Nat)×Int:=if iv X then(if 0<=x∧x<=2*X.1-1 then(EB X (2*X.1.toNat-1-x.toNat),0)else(([],0),2))else(([],0),1)
def sR(X:bW)(x:Int):Int:=if iv X then(if 0<=x∧x<=2*X.1-1 then 0 else 2)else 1
theorem XZ{X:bW}{x:Int}(h:sR X x≠0):Bb X x=(([],0),sR X x):=by
 unfold sR at h ⊢;unfold Bb;split
 ·rename_i q;rw[if_pos q]at h;split
  ·rename_i q2;rw[if_pos q2]at h;exact absurd rfl h
  ·rfl
 ·rfl
theorem J3{A B:List Nat}{n:Nat}(a:iO A n)(b:iO B n):Da A B n<=n:=(EY a (H4 a b) n (aa _)).2
def FrS(h:a9)(v:Value)(c:List Nat×Nat):Prop:=∃b o k y,v=.agg #[sl b o k y,I (c.2:Nat)]∧Rw h (sl b o k y) 1 (ints (cP c.1))
def FrR(h h':a9)(r:Value)(A:(List Nat×Nat)×Int):Prop:=ae h h'∧∃w,r=.tuple #[.agg #[w,I (A.1.2:Nat)],I A.2]∧Rw h' w 1 (ints (cP A.1.1))
theorem c71(h:a9)(hp:0<h.length)(v:Value)(X:bW)(p:Vr h bU v X):aN aE 71 [v] h λr h'=>ae h h'∧r=.tuple #[I (xA X).1,I (xA X).2]:=by
 have B:=p;obtain⟨A,l⟩:=aC (xA X);have c:=l;unfold xA at c;rw[<-l];have i:=λt=>Eh (X:=X) t;have d:=λW H br s (e:X=(W,H,br)) h hp ok R=>c27 h hp W H br s ok R;obtain⟨W,H,br⟩:=X;obtain⟨s,rfl,w1,w2,r⟩:=p.dE;have d:=d W H br s rfl;refine afq ?_;refine bg λK a=>?_
 try simp(disch:=omega)
 refine a ?_;rw[aw];generalize a:aP aE _ _=K
 try simp(disch:=omega)
 refine aO (B7 _ _ h B) ?_;rintro _ h1⟨rfl,rfl⟩;cases f:iv (W,H,br)
 ·simp only[f,ax,if_false]at c;subst c
  try simp(disch:=omega)
  subst a
  try simp(disch:=omega)
  exact ae.refl _
 have ok:=dK.1 f;have w8:=ok.w;have N:=ok.h;simp only at w8 N i;simp only[f,if_true]at c;obtain⟨F,C⟩:=aC (tW (W,H,br));obtain⟨n,G⟩:=aC (2*H.toNat);obtain⟨m,em⟩:∃m,m+1=2*W.toNat:=⟨2*W.toNat-1,by omega⟩;simp only[<-C,<-G,<-em,dV]at c i d;have O:=cQ (2*H) n
 try simp(disch:=omega)
 subst a;simp only[aq];refine bg λK a=>?_
 try simp(disch:=omega)
 refine aO (d h1 hp ok r) ?_;rintro _ L⟨g2,b,w,rfl,z,u⟩
 try simp(disch:=omega)
 refine a ?_;refine bg λK a=>?_;have wm:=cQ ((m:Int)+1-1) m;have j:=cQ (m:Int) m;have Y:m<m+1:=by omega
 have Z:(m:Int)<(m:Int)+1:=by omega
 obtain⟨wb,wo,wn,wy,rfl⟩:∃T ko U V,w=sl T ko U V:=by obtain⟨b,o,n,y,e,_⟩:=u;exact⟨b,o,n,y,e⟩
 simp(disch:=omega)[wm,j,Y,Z,z];refine a ?_;refine bg λK a=>?_;obtain⟨q,S⟩:=i m;have cl:=Fy (t:=m) (by omega) (by omega) S;have x:=aL hp g2;simp(disch:=omega)[O];refine aO (ahR L x n (by omega)) ?_;rintro nv M⟨g,b3⟩;have k:iO (qM n) n:=Kh (by omega);have ll:=J3 q k
 try simp(disch:=omega)
 refine aO (aCl M (aL x g) _ _ _ _ n q k (by omega) (u.grow g) b3.rw) ?_;rintro _ h4⟨J,rfl⟩;obtain⟨P,D⟩:=aC (Da (F m).1 (qM n) n);rw[<-D]at ll c ⊢;obtain⟨Q,E⟩:=aC ((F m).2);rw[<-E]at cl c ⊢;have wq:=cQ ((Q:Int)+P) (((Q+P:Nat):Int));simp(disch:=omega)[wq];refine a ?_
 try simp(disch:=omega)
 refine⟨(g2.trans g).trans J,?_⟩;rw[c];simp
theorem aCg(h:a9)(v:Value)(X:bW)(x:Int)(g:Vr h bU v X)(hx:bK x):aN aE 151 [v,I x] h λr h'=>r=I (sR X x)∧h'=h:=by
 have i:=g;obtain⟨A,f⟩:=aC (sR X x);have a:=f;unfold sR at a;rw[<-f];obtain⟨W,H,br⟩:=X;obtain⟨s,rfl,w1,w2,r⟩:=g.dE;refine afq ?_;refine bg λK b=>?_
 try simp(disch:=omega)
 refine b ?_;rw[aw];generalize b:aP aE _ _=K
 try simp(disch:=omega)
 refine aO (B7 _ _ h i) ?_;rintro _ h1⟨rfl,rfl⟩;cases c:iv (W,H,br)
 ·simp only[c,ax,if_false]at a;subst a
  try simp(disch:=omega)
  subst b
  try simp(disch:=omega)
 have ok:=dK.1 c;have j:=ok.w;simp only at j;simp only[c,if_true]at a;have k:=cQ (2*W) (2*W);have d:=cQ (2*W-1) (2*W-1)
 try simp(disch:=omega)
 subst b;simp only[aq];rw[aw];generalize b:aP aE _ _=K;simp(disch:=omega)[k,d];refine aO (B8 x 0 _ h1) ?_;rintro _ l⟨rfl,rfl⟩;by_cases q:0<=x∧x<=2*W-1
 ·have:gZ x 0 (2*W-1)=true:=fM.2 q;rw[if_pos q]at a;subst a;rw[this]
  try simp(disch:=omega)
  subst b
  try simp(disch:=omega)
 ·have:gZ x 0 (2*W-1)=false:=by
   cases e:gZ x 0 (2*W-1)
   ·rfl
   ·exact absurd (fM.1 e) q
  rw[if_neg q]at a;subst a;rw[this]
  try simp(disch:=omega)
  subst b
  try simp(disch:=omega)
theorem c85(h:a9)(hp:0<h.length)(v:Value)(X:bW)(x:Int)(J:Vr h bU v X)(hx:bK x):aN aE 85 [v,I x] h λr h'=>FrR h h' r (Bb X x):=by
 have dD:=J;obtain⟨A,C⟩:=aC (Bb X x);have d:=C;have O:=XZ (X:=X) (x:=x);obtain⟨Z,N⟩:=aC (sR X x);have g:=N;unfold sR at g;have P:=aCg h v X x J hx;unfold Bb at d;rw[<-C,<-N]at O;rw[<-N]at P;rw[<-C];have u:=λt=>Ob (X:=X) t;have cs:∀t,EB X (t+1)=zT X (2*X.1.toNat-1-t) (EB X t):=λt=>rfl;have i:EB X 0=(qM (2*X.2.1.toNat),0):=rfl;have z:∀x c,(pN (rD x (2*X.2.1.toNat) λj=>fZ X.1.toNat X.2.1.toNat X.2.2 x j) c.1 (2*X.2.1.toNat)).1=(zT X x c).1:=λx c=>rfl;have B:∀x c,c.2+(pN (rD x (2*X.2.1.toNat) λj=>fZ X.1.toNat X.2.1.toNat X.2.2 x j) c.1 (2*X.2.1.toNat)).2=(zT X x c).2:=λx c=>rfl;obtain⟨W,H,br⟩:=X;obtain⟨s,rfl,w1,w2,r⟩:=J.dE;refine afq ?_;refine bg λK f=>?_
 try simp(disch:=omega)
 refine f ?_;rw[aw];generalize f:aP aE _ _=K
 try simp(disch:=omega)
 refine aO P ?_;rintro _ h1⟨rfl,rfl⟩;by_cases l:Z=0
 case neg=>
  have hb:=O l;simp(disch:=omega)[l];subst f
  try simp(disch:=omega)
  rw[hb];exact⟨ae.refl _,_,rfl,⟨0,0,0,0,rfl,by simp[ints,cP],.inl rfl⟩⟩
 rw[l]at g;have Q:iv (W,H,br)=true:=by
  cases e:iv (W,H,br)
  ·rw[e]at g;simp at g
  ·rfl
 simp only[Q,if_true]at g d;have qx:0<=x∧x<=2*W-1:=by
  by_cases q:0<=x∧x<=2*W-1
  ·exact q
  ·rw[if_neg q]at g;omega
 rw[if_pos qx]at d;have ok:=dK.1 Q;have w8:=ok.w;have h8:=ok.h;simp only at w8 h8 u;simp only at cs z B i;simp(disch:=omega)[l];subst f;simp only[aq];obtain⟨n,S⟩:=aC (2*H.toNat);obtain⟨F,eF⟩:=aC (EB (W,H,br));simp only[<-eF,<-S]at d u cs z B i;have hH:=cQ (2*H) n;refine bg λK f=>?_;simp(disch:=omega)[hH];refine aO (ahR h1 hp n (by omega)) ?_;rintro w0 h2⟨g2,b2⟩;obtain⟨wb,rfl⟩:=b2.nw
 try simp(disch:=omega)
 refine f ?_;obtain⟨m,em⟩:=aC (2*W.toNat-1);rw[<-em]at d;simp only[<-em]at cs;obtain⟨a,rfl⟩:∃a:Nat,x=a:=⟨x.toNat,by omega⟩;rw[aM]at d;have hW:=cQ (2*W) (m+1);have U:=cQ ((m:Int)+1-1) m;have G:=cQ (m:Int) m;have E:Rw h2 (sl wb 0 (ints (cP (qM n))).length 1) 1 (ints (cP (F 0).1)):=by rw[i];exact b2.rw
 have xm:a<=m:=by omega
 rw[aw];generalize hP:aP aE _ _=PP;simp(disch:=omega)[hW,U,G];refine aU (λt σ h'=>t<=m-a∧ae h1 h'∧σ 1=I a∧σ 2=.agg #[I W,I H,s]∧σ 4=.agg #[sl 0 0 0 0,I 0]∧σ 8=I (m-t:Nat)∧FrS h' (σ 7) (F t)) (λt=>m-a-t) 0 ?_ ?_
 ·exact⟨by omega,g2,by simp,by simp,by simp,by simp,_,_,_,_,by rw[i];rfl,E⟩
 ·rintro t σ h'⟨ht,p,q1,q2,q4,M,b,o,k,y,L,T⟩;simp(disch:=omega)[q1,M];refine aG (λbB=>?_) (λdG=>?_)
  ·have t1:t<m-a:=by omega
   obtain⟨i1,i2⟩:=u t;have cl:=Fy (t:=t) (by omega) (by omega) i2;obtain⟨i3,i4⟩:=u (t+1);have NO:=Fy (t:=t+1) (by omega) (by omega) i4;simp(disch:=omega)[q2,L,M];refine aO (c43 h' (aL hp p) W H br s _ (m-t) n (F t).1 false ok (r.grow p) (by omega) S i1 T) ?_;rintro _ h3⟨g3,w,rfl,b3⟩;rw[z,<-cs]at b3;have R:=B (m-t) (F t);rw[<-cs]at R;obtain⟨V,D⟩:=aC ((pN (rD (m-t) n λj=>fZ W.toNat H.toNat br (m-t:Nat) j) (F t).1 n).2);rw[<-D]at R ⊢;have wq:=cQ (((F t).2:Int)+V) ((F (t+1)).2);have wt:=cQ (((m-t:Nat):Int)-1) (((m-(t+1):Nat):Int));obtain⟨Y,rfl⟩:=b3.nw;simp(disch:=omega)[L,M,wq,wt];have g03:=p.trans g3;have res:FrS h3 (.agg #[sl Y 0 (ints (cP (F (t+1)).1)).length 1,I ((F (t+1)).2:Nat)]) (F (t+1)):=⟨_,_,_,_,rfl,b3.rw⟩;refine⟨t+1,?_,by omega⟩;and_intros<;>first|assumption|omega|rfl
  ·have:t=m-a:=by omega
   subst this
   try simp(disch:=omega)
   subst hP;simp(disch:=omega)[q4,L];rw[d];exact⟨p,_,rfl,T⟩
theorem anC{W H x y:Nat}{l u:Bool}(a:kK (2*W) x l)(hy:(x+y)%2=1)(ok:kK (2*H) y u):sj W H (x,y,if l then -1 else 1,if u then -1 else 1)∧kY H (x,y,if l then -1 else 1,if u then -1 else 1)=vQ x (2*H) y l u:=by
 have b:sj W H (x,y,if l then -1 else 1,if u then -1 else 1):=by unfold kK at ok a;refine⟨?_,?_,?_,?_,?_,?_,?_⟩<;>cases l<;>cases u<;>simp at ok a ⊢<;>omega
 refine⟨b,?_⟩;have h1:=yy b;have c:rW (x:Int) (x+if l then -1 else 1)=((if l then x-1 else x:Nat):Int):=by unfold kK at a;rw[rX (by cases l<;>simp)];cases l<;>simp at a ⊢<;>omega
 have d:rW (y:Int) (y+if u then -1 else 1)=((if u then y-1 else y:Nat):Int):=by unfold kK at ok;rw[rX (by cases u<;>simp)];cases u<;>simp at ok ⊢<;>omega
 simp only at h1;rw[c,d]at h1;unfold vQ;have e:((2*H:Nat):Int)=2*(H:Int):=by omega
 rw[<-e,<-nS]at h1;omega
theorem ZH(h:a9)(v:Value)(X:bW)(x y:Nat)(dx dy:Int)(l u:Bool)(e:gY h v X)(ok:fg X)(b:kK (2*X.1.toNat) x l)(hy:(x+y)%2=1)(c:kK (2*X.2.1.toNat) y u)(ex:dx=if l then -1 else 1)(d:dy=if u then -1 else 1):aN aE 485 [v,.agg #[I x,I y],I dx,I dy] h λr h'=>r=I (vQ x (2*X.2.1.toNat) y l u:Nat)∧h'=h:=by obtain⟨a,es⟩:=anC (l:=l) b hy c;rw[<-ex,<-d]at a es;rw[<-es];refine akV ?_;refine aO (ZE h v X x y dx dy e ok a) ?_;rintro _ h1⟨rfl,rfl⟩;simp(disch:=omega)
theorem HG(h:a9)(a b:Int):aN aE 483 [I a,I b] h λr h'=>r=sl h.length 0 2 1∧h'=h++[⟨[I (min a b),I (if b<a then a else b)],true⟩]:=by
 obtain⟨A,f⟩:=aC (min a b);obtain⟨C,g⟩:=aC (if b<a then a else b);have d:=aoL h a b;have e:=Zy h a b;rw[<-f]at d ⊢;rw[<-g]at e ⊢;refine afq ?_
 try simp(disch:=omega)
 refine aO d ?_;rintro _ h1⟨rfl,rfl⟩
 try simp(disch:=omega)
 refine aO e ?_;rintro _ c⟨rfl,rfl⟩;have i:aW 1 2 c [(0,.agg #[I 0,I 0]),(1,I A),(1001,I C)]=some (sl c.length 0 2 1,c++[⟨[I A,I C],true⟩]):=by simp[aW]
 try simp(disch:=omega)
 rw[i]
 try simp(disch:=omega)
def Nu(lo:Nat)(h:a9)(c:Value)(p:Int×Int):Prop:=∃b o,c=sl b o 2 1∧lo<=b∧aZ h b o 2=some [I p.1,I p.2]
theorem Nu.grow{lo:Nat}{h h':a9}{c:Value}{p:Int×Int}(x:Nu lo h c p)(g:ae h h'):Nu lo h' c p:=by obtain⟨b,o,e,l,c⟩:=x;exact⟨b,o,e,l,g.aZ c⟩
theorem TE{h0 h:a9}{v:Value}{cs new:List Value}{b o:Nat}{k:Value->a9->Prop}(hp:0<h0.length)(g:ae h0 h)(c:bP h0 h v 1 cs)(hn:new.length=0∨aZ h b o new.length=some new)(f:cs.length+new.length<=maxSize)
  (d:∀a h',ae h0 h'->bP h0 h' a 1 (cs++new)->k a h'):gE (cu 1 h (sl b o new.length 1) v) k:=by
 by_cases e:new=[]
 ·subst e;obtain⟨b',rfl⟩:=c.nw;have i:cu 1 h (sl b o 0 1) (sl b' 0 cs.length 1)=some (sl b' 0 cs.length 1,h):=by simp[cu,cR]
  simp only[aF];rw[i];simp only[bI];exact d _ _ g (by simpa using c)
 ·have hl:new.length≠0:=by intro q;exact e (aB.1 q)
  have l:=hn.resolve_left hl;have hn:cR 1 h (sl b o new.length 1)=some new:=by simp[cR,hl,l]
  refine pH hp g c hn (by omega) e (by simp) f λa h' j b' _=>d a h' j b'
theorem bP.cells{B0 h:a9}{b n:Nat}{cs:List Value}(x:bP B0 h (sl b 0 n 1) 1 cs){i m:Nat}(c:i+m<=cs.length):m=0∨aZ h b i m=some ((cs.drop i).take m):=by
 rcases x with⟨e,_⟩|⟨b',j,a,f,g,d⟩
 ·left;rw[e]at c;simp at c;omega
 ·right;injection a with a _ _;injection a with a;injection a with a _ _;rw[a,fB d c]
theorem Uh{h:a9}{b o n k:Nat}(a:k<=n):gS 3 h (sl b o n 1) none (some (I k)) none=some (sl b o k 1,h):=by
 have:(k:Int)<=n:=by omega
 simp[gS,bound,a]
theorem Ug{h:a9}{b o n k:Nat}(a:k<=n):gS 3 h (sl b o n 1) (some (I k)) none none=some (sl b (o+k) (n-k) 1,h):=by simp[gS,bound,a]
theorem aDg(h:a9)(hp:0<h.length)(lo:Nat)(B0:a9)(v:Value)(Z:List Value)(d f:Nat)(L:List (Int×Int))(p:Int×Int)(t:bP B0 h v 1 Z)(hl:Z.length=L.length)(hZ:∀i (hi:i<L.length),∃c,Z[i]?=some c∧Nu lo h c L[i])(hx:aZ h d f 2=some [I p.1,I p.2])(hm:Z.length<=1000):aN aE 484 [v,sl d f 2 1] h λr h'=>ae h h'∧∃k,k<=Z.length∧bP h h' r 1 (Z.take k++sl d f 2 1::Z.drop k):=by
 obtain⟨b,rfl⟩:=t.nw;obtain⟨N,M⟩:=aC Z.length;rw[<-M]at t hm hl ⊢;have C:cell h d f=some (I p.1):=by have:=(fQ (i:=0) hx (by omega)).1;simpa using this
 have D:cell h d (f+1)=some (I p.2):=by have:=(fQ (i:=1) hx (by omega)).1;simpa using this
 refine ag8 λK n=>?_;refine n ?_;refine akW λK n=>?_;refine n ?_;rw[aw];generalize P:aP aE _ _=PP;have post:∀(σ:Nat->Value) (k:Nat),k<=N->σ 0=sl b 0 N 1->σ 1=sl d f 2 1->σ 5=I k->PP 0 σ h:=by
  intro σ k q g q1 a;subst P;simp only[aq];have n1:cR 1 h (sl b 0 k 1)=some (Z.take k):=by
   by_cases e:k=0
   ·subst e;simp[cR]
   ·have:=t.cells (i:=0) (m:=k) (by omega);simp[cR,e];simpa using this.resolve_left e
  refine bg λK n=>?_;have nX:(k:Int)<=N:=by omega
  simp(disch:=omega)[g,a,Uh q];have u:(Z.take k).length=k:=by rw[bu];omega
  have R:=@TE h h (sl 0 0 0 1) [] (Z.take k) b 0;rw[u]at R;refine R hp (ae.refl _) bP.nil (by have:=t.cells (i:=0) (m:=k) (by omega);simpa using this) (by simp[maxSize];omega) λv1 h1 g1 b1=>?_;rw[df]at b1
  try simp(disch:=omega)
  refine n ?_;refine bg λK n=>?_;simp(disch:=omega)[q1];have eb:aW 1 1 h1 [(0,.agg #[sl 0 0 0 0]),(1,sl d f 2 1)]=some (sl h1.length 0 1 1,h1++[⟨[sl d f 2 1],true⟩]):=by simp[aW]
  rw[eb];simp only[bI];refine AU hp g1 (aa _) g1.le b1 rfl (by omega) (by rw[u];simp[maxSize];omega) λv2 O g2 l2 b2 n2 f2=>?_
  try simp(disch:=omega)
  refine n ?_;refine bg λK n=>?_;have e2:(Z.drop k).length=N-k:=by rw[gA];omega
  obtain⟨b3,z⟩:=b2.nw;have H:(Z.take k++[sl d f 2 1]).length=k+1:=by rw[af,u];rfl
  rw[H]at z;subst z;simp(disch:=omega)[g,a,Ug q];have S:=@TE h O (sl b3 0 (k+1) 1) (Z.take k++[sl d f 2 1]) (Z.drop k) b k;rw[e2]at S;have s:bP B0 O (sl b 0 N 1) 1 Z∨N=0:=by
   rcases t with⟨e,_⟩|⟨b',n',u,z,H,e5⟩
   ·right;rw[M,e];rfl
   ·left;exact .inr ⟨b',n',u,z,H,g2.at e5⟩
  refine S hp g2 b2 ?_ (by simp[maxSize];omega) λv4 h4 g4 Y=>?_
  ·rcases s with s|e
   ·rcases s.cells (i:=k) (m:=N-k) (by omega)with e|e
    ·exact .inl e
    ·right;rw[e,aY (by omega)]
   ·left;omega
  ·try simp(disch:=omega)
   refine n ?_;simp(disch:=omega);refine⟨g4,k,q,?_⟩;simpa using Y
 rw[gJ];have Q:∀(σ:Nat->Value) (k:Nat),k<=N->σ 0=sl b 0 N 1->σ 1=sl d f 2 1->σ 5=I k->eY 0 PP 2 σ h:=by intro σ k q g q1 a;rw[fk,if_pos (by omega)];exact post σ k q g q1 a
 clear post P;generalize eY 0 PP=T at Q ⊢;refine aU (λk σ h'=>k<=N∧h'=h∧σ 0=sl b 0 N 1∧σ 1=sl d f 2 1∧σ 5=I k) (λk=>k) N ?_ ?_
 ·exact⟨by omega,rfl,by simp,by simp,by simp⟩
 rintro k σ h'⟨q,rfl,g,q1,a⟩;have G:∀(σ:Nat->Value),σ 0=sl b 0 N 1->σ 1=sl d f 2 1->σ 5=I k->T 2 σ h':=λσ U V W=>Q σ k q U V W;by_cases k0:k=0
 ·subst k0;simp(disch:=omega)[a];exact G _ (by simpa using g) (by simpa using q1) (by simpa using a)
 ·have l:0<k:=by omega
  have X:(0:Int)<k:=by omega
  have wk:=cQ ((k:Int)-1) (((k-1:Nat):Int));obtain⟨j,ej⟩:=aC (k-1);rw[<-ej]at wk;have A:j<N:=by omega
  have o:(j:Int)<N:=by omega
  obtain⟨c,hc,cb,co,rfl,_,J⟩:=hZ j (by omega);have y:cell h' b j=some (sl cb co 2 1):=by have:=t.cells (i:=j) (m:=1) (by omega);have c1:=this.resolve_left (by omega);have c2:=(fQ (i:=0) c1 (by omega)).1;rw[bA]at c2;rw[c2,<-hc];simp
  have E:cell h' cb co=some (I (L[j]'(by omega)).1):=by have:=(fQ (i:=0) J (by omega)).1;simpa using this
  have y1:cell h' cb (co+1)=some (I (L[j]'(by omega)).2):=by have:=(fQ (i:=1) J (by omega)).1;simpa using this
  obtain⟨w1,F⟩:∃w,w=decide (p.1<(L[j]'(by omega)).1):=⟨_,rfl⟩;obtain⟨w2,B⟩:∃w,w=decide ((L[j]'(by omega)).1=p.1):=⟨_,rfl⟩;obtain⟨w3,x⟩:∃w,w=decide (p.2<(L[j]'(by omega)).2):=⟨_,rfl⟩;cases w1
  ·cases w2
   ·simp(disch:=omega)[g,q1,a,l,wk,A,o,y,E,y1,C,D,<-F,<-B,<-x];exact G _ (by simpa using g) (by simpa using q1) (by simpa using a)
   ·cases w3
    ·simp(disch:=omega)[g,q1,a,l,wk,A,o,y,E,y1,C,D,<-F,<-B,<-x];exact G _ (by simpa using g) (by simpa using q1) (by simpa using a)
    ·simp(disch:=omega)[g,q1,a,l,wk,A,o,y,E,y1,C,D,<-F,<-B,<-x];exact⟨j,by and_intros<;>first|assumption|omega|rfl,by omega⟩
  ·simp(disch:=omega)[g,q1,a,l,wk,A,o,y,E,y1,C,D,<-F,<-B,<-x];exact⟨j,by and_intros<;>first|assumption|omega|rfl,by omega⟩
def yW(lo:Nat)(h:a9)(v:Value)(L:List (Int×Int)):Prop:=∃B0 Z,lo<=B0.length∧bP B0 h v 1 Z∧Z.length=L.length∧∀i (hi:i<L.length),∃c,Z[i]?=some c∧Nu lo h c L[i]
variable {lo : Nat}
theorem yW.grow{h h':a9}{v:Value}{L:List (Int×Int)}(x:yW lo h v L)(g:ae h h'):yW lo h' v L:=by obtain⟨B0,Z,l0,b,l,c⟩:=x;refine⟨B0,Z,l0,b.grow g,l,λi hi=>?_⟩;obtain⟨w,c1,c2⟩:=c i hi;exact⟨w,c1,c2.grow g⟩
theorem WW{h:a9}{a b o n:Nat}{k:mm}(c:a≠b):aZ (h.set a k) b o n=aZ h b o n:=by unfold aZ;rw[ag c]
theorem yW.put{h:a9}{v:Value}{L:List (Int×Int)}{b:Nat}{k:mm}(x:yW lo h v L)(p:b<lo):yW lo (h.set b k) v L:=by
 obtain⟨B0,Z,l0,a,l,c⟩:=x;refine⟨B0,Z,l0,?_,l,λi hi=>?_⟩
 ·rcases a with e|⟨b',n,f,g,j,m⟩
  ·exact .inl e
  ·exact .inr ⟨b',n,f,g,j,by rw[ag (by omega)];exact m⟩
 ·obtain⟨w,c1,wb,o,e,l,d⟩:=c i hi;exact⟨w,c1,wb,o,e,l,by rw[WW (by omega)];exact d⟩
theorem yW.nil{h:a9}(hl:lo<=h.length):yW lo h (sl 0 0 0 1) []:=⟨h,[],hl,bP.nil,rfl,by simp⟩
theorem yW.sl{h:a9}{v:Value}{L:List (Int×Int)}(x:yW lo h v L):∃b,v=Am.sl b 0 L.length 1:=by obtain⟨B0,Z,l0,b,l,c⟩:=x;rw[<-l];exact b.nw
theorem yW.at{h:a9}{b n:Nat}{L:List (Int×Int)}(x:yW lo h (Am.sl b 0 n 1) L){i:Nat}(hi:i<L.length):∃w o,cell h b i=some (Am.sl w o 2 1)∧cell h w o=some (I L[i].1)∧cell h w (o+1)=some (I L[i].2):=by
 obtain⟨B0,Z,l0,e,l,c⟩:=x;obtain⟨w,c1,wb,f,rfl,_,a⟩:=c i hi;have d:=e.Jc (i:=i) (by omega);rw[ah (by omega)]at c1;injection c1 with c1;rw[c1]at d;refine⟨wb,f,d,?_,?_⟩
 ·have:=(fQ (i:=0) a (by omega)).1;simpa using this
 ·have:=(fQ (i:=1) a (by omega)).1;simpa using this
theorem DX(h:a9)(hp:0<h.length)(v:Value)(d e:Nat)(L:List (Int×Int))(p:Int×Int)(u:lo<=h.length)(x:yW lo h v L)(m:lo<=d)(hx:aZ h d e 2=some [I p.1,I p.2])(hm:L.length<=1000):aN aE 484 [v,Am.sl d e 2 1] h λr h'=>ae h h'∧∃f,yW lo h' r f∧f.length=L.length+1∧∀q,q∈f↔q=p∨q∈L:=by
 obtain⟨B0,Z,l0,t,l,c⟩:=x;refine(aDg h hp lo B0 v Z d e L p t l c hx (by omega)).mono ?_;rintro r h'⟨g,k,y,b⟩;refine⟨g,L.take k++p::L.drop k,⟨h,_,u,b,by simp[l],λi hi=>?_⟩,by simp;omega,λq=>?_⟩
 ·have lt:(L.take k).length=k:=by rw[bu];omega
  have s:(Z.take k).length=k:=by rw[bu];omega
  by_cases q1:i<k
  ·obtain⟨w,c1,c2⟩:=c i (by omega);refine⟨w,?_,?_⟩
   ·rw[ai (by omega),bO q1];exact c1
   ·rw[dY (by omega)];simpa using c2.grow g
  ·by_cases q2:i=k
   ·subst q2;refine⟨Am.sl d e 2 1,?_,?_⟩
    ·rw[aX (by omega),s];simp
    ·rw[fG (by omega)];simp only[lt,gN,qI];exact⟨d,e,rfl,m,g.aZ hx⟩
   ·have iY:i-1<L.length:=by simp at hi;omega
    obtain⟨w,c1,c2⟩:=c (i-1) iY;obtain⟨j,o⟩:∃j,i-k=j+1:=⟨i-k-1,by omega⟩;have n:k+j=i-1:=by omega
    refine⟨w,?_,?_⟩
    ·rw[aX (by omega),s,o,jn,dU,n];exact c1
    ·rw[fG (by omega)];simp only[lt,o,kg,afF,n];exact c2.grow g
 ·rw[cS,bR];have:q∈L↔q∈L.take k∨q∈L.drop k:=by rw[<-cS,gb]
  rw[this];constructor
  ·rintro(a|a|a)
   ·exact .inr (.inl a)
   ·exact .inl a
   ·exact .inr (.inr a)
  ·rintro(a|a|a)
   ·exact .inr (.inl a)
   ·exact .inl a
   ·exact .inr (.inr a)
def DP(a b:Int):Int×Int:=(min a b,if b<a then a else b)
def J8(x n y:Nat)(d:vg×vg):Int×Int:=DP (vQ x n y d.1.1 d.1.2:Nat) (vQ x n y d.2.1 d.2.2:Nat)
def LX(m n x y:Nat)(kd:Nat->Int):List (vg×vg):=if x=m then[((true,true),(true,false))]else BY n y kd
theorem wK{h:a9}{a b:Int}:aZ (h++[⟨[I (min a b),I (if b<a then a else b)],true⟩]) h.length 0 2=some [I (DP a b).1,I (DP a b).2]:=by unfold DP;exact cI (cs:=[I (min a b),I (if b<a then a else b)]) (rw:=true) (by simp) rfl
def Dy(D:List (vg×vg))(x n y:Nat)(q:Int×Int):Prop:=∃d∈D,q=J8 x n y d
def aBD(lo:Nat)(h:a9)(r:Value)(L:List (Int×Int))(P:Int×Int->Prop):Prop:=∃a,yW lo h r a∧a.length<=L.length+2∧∀q,q∈a↔q∈L∨P q
def PsE(lo:Nat)(h:a9)(r:Value)(k:Nat)(P:Int×Int->Prop):Prop:=∃L,yW lo h r L∧L.length<=k∧∀q,q∈L↔P q
theorem aDf(h:a9)(hp:0<h.length)(v pv:Value)(X:bW)(x y:Nat)(L:List (Int×Int))(pp:gY h pv X)(ok:fg X)(hx:1<=x∧x<=2*X.1.toNat)(hy:(x+y)%2=1)(Yp:y<=2*X.2.1.toNat)(fh:lo<=h.length)(hL:yW lo h v L)(hm:L.length<=900):aN aE 481 [pv,.agg #[I x,I y],v] h λr h'=>ae h h'∧aBD lo h' r L (Dy (LX (2*X.1.toNat) (2*X.2.1.toNat) x y (λj=>fZ X.1.toNat X.2.1.toNat X.2.2 x j)) x (2*X.2.1.toNat) y):=by
 have Z:=λP Q=>ZH h pv X x y (-1) (-1) true true pp ok P hy Q rfl rfl;have J:=λP Q=>ZH h pv X x y 1 (-1) false true pp ok P hy Q rfl rfl;have Y:=λP Q=>ZH h pv X x y (-1) 1 true false pp ok P hy Q rfl rfl;have G:=λP Q=>ZH h pv X x y 1 1 false false pp ok P hy Q rfl rfl;have Dg:=pp;have w8:=ok.w;have h8:=ok.h;have iJ:=ok.row;obtain⟨S,i⟩:=aC (LX (2*X.1.toNat) (2*X.2.1.toNat) x y (λj=>fZ X.1.toNat X.2.1.toNat X.2.2 x j));rw[<-i];unfold LX BY at i;obtain⟨W,H,br⟩:=X;obtain⟨b,o,s,rfl,k1,k2,k3,hs,_,_⟩:=pp;simp only at w8 h8 iJ hx Yp k1 k2 k3 hs i Z J Y G ⊢;obtain⟨m,em⟩:=aC (2*W.toNat);obtain⟨n,en⟩:=aC (2*H.toNat);simp only[<-en,<-em]at i Z J Y G hx Yp ⊢;have wW:=cQ (2*W) m;have wH:=cQ (2*H) n;obtain⟨g,V⟩:∃T:Int,T=(vQ x n y true true:Nat):=⟨_,rfl⟩;obtain⟨f,U⟩:∃T:Int,T=(vQ x n y true false:Nat):=⟨_,rfl⟩;obtain⟨l,E⟩:∃T:Int,T=(vQ x n y false true:Nat):=⟨_,rfl⟩;obtain⟨k,D⟩:∃T:Int,T=(vQ x n y false false:Nat):=⟨_,rfl⟩;rw[<-V]at Z;rw[<-U]at Y;rw[<-E]at J;rw[<-D]at G;have one:∀(d:vg×vg) (c:List (Int×Int)),(∀q,q∈c↔q=J8 x n y d∨q∈L)->S=[d]->∀q,q∈c↔q∈L∨Dy S x n y q:=by
  intro d c hq e q;unfold Dy;rw[hq,e];simp only[bR,List.not_mem_nil,or_false,exists_eq_left];constructor
  ·rintro(a|a)
   ·exact .inr a
   ·exact .inl a
  ·rintro(a|a)
   ·exact .inr a
   ·exact .inl a
 have two:∀(d d':vg×vg) (L1 c:List (Int×Int)),(∀q,q∈L1↔q=J8 x n y d∨q∈L)->(∀q,q∈c↔q=J8 x n y d'∨q∈L1)->S=[d,d']->∀q,q∈c↔q∈L∨Dy S x n y q:=by
  intro d d' L1 c h1 hq e q;unfold Dy;rw[hq,h1,e];simp only[bR,List.not_mem_nil,or_false,exists_eq_or_imp,exists_eq_left];constructor
  ·rintro(a|a|a)
   ·exact .inr (.inr a)
   ·exact .inr (.inl a)
   ·exact .inl a
  ·rintro(a|a|a)
   ·exact .inr (.inr a)
   ·exact .inr (.inl a)
   ·exact .inl a
 have x0:¬x=0:=by omega
 refine afq ?_;rw[aw,cy];generalize p:aP aE _ _ 0=K
 try simp(disch:=omega)
 subst p;simp only[aq];rw[aw];generalize p:aP aE _ _=K;simp(disch:=omega)[x0,k1,wW];by_cases qx:x=m
 ·rw[if_pos qx]at i;simp(disch:=omega)[qx];subst qx;have t1:=Z (by unfold kK;simp;omega) (by unfold kK;simp;omega);have R:=Y (by unfold kK;simp;omega) (by unfold kK;simp;omega);have B:=HG h g f;have C:=DX (h++[⟨[I (min g f),I (if f<g then g else f)],true⟩]) (by simp) v h.length 0 L (DP g f) (by simp;omega) (hL.grow ⟨_,rfl⟩) fh wK (by omega);refine aO t1 ?_;rintro _ _⟨rfl,rfl⟩
  try simp(disch:=omega)
  refine aO R ?_;rintro _ _⟨rfl,rfl⟩
  try simp(disch:=omega)
  refine aO B ?_;rintro _ _⟨rfl,rfl⟩
  try simp(disch:=omega)
  refine aO C ?_;rintro r u⟨A,c,t,l',z⟩
  try simp(disch:=omega)
  subst p;obtain⟨rb,rfl⟩:=t.sl
  try simp(disch:=omega)
  refine⟨ae.trans ⟨_,rfl⟩ A,c,t,by omega,one ((true,true),(true,false)) c ?_ i⟩;rw[V,U]at z;exact z
 rw[if_neg qx]at i;have Bo:1<=x∧x<m:=by omega
 have qxI:¬(x:Int)=m:=by omega
 simp(disch:=omega)[qx,qxI];by_cases q0:y=0
 ·rw[if_pos q0]at i;subst q0;simp(disch:=omega);have t1:=Y (by unfold kK;simp;omega) (by unfold kK;simp;omega);have R:=G (by unfold kK;simp;omega) (by unfold kK;simp;omega);have B:=HG h f k;have C:=DX (h++[⟨[I (min f k),I (if k<f then f else k)],true⟩]) (by simp) v h.length 0 L (DP f k) (by simp;omega) (hL.grow ⟨_,rfl⟩) fh wK (by omega);refine aO t1 ?_;rintro _ _⟨rfl,rfl⟩
  try simp(disch:=omega)
  refine aO R ?_;rintro _ _⟨rfl,rfl⟩
  try simp(disch:=omega)
  refine aO B ?_;rintro _ _⟨rfl,rfl⟩
  try simp(disch:=omega)
  refine aO C ?_;rintro r u⟨A,c,t,l',z⟩
  try simp(disch:=omega)
  subst p;obtain⟨rb,rfl⟩:=t.sl
  try simp(disch:=omega)
  refine⟨ae.trans ⟨_,rfl⟩ A,c,t,by omega,one ((true,false),(false,false)) c ?_ i⟩;rw[U,D]at z;exact z
 rw[if_neg q0]at i;have q0I:¬(y:Int)=0:=by omega
 simp(disch:=omega)[q0,q0I,k2,wH];by_cases qn:y=n
 ·rw[if_pos qn]at i;subst qn;simp(disch:=omega);have t1:=Z (by unfold kK;simp;omega) (by unfold kK;simp;omega);have R:=J (by unfold kK;simp;omega) (by unfold kK;simp;omega);have B:=HG h g l;have C:=DX (h++[⟨[I (min g l),I (if l<g then g else l)],true⟩]) (by simp) v h.length 0 L (DP g l) (by simp;omega) (hL.grow ⟨_,rfl⟩) fh wK (by omega);refine aO t1 ?_;rintro _ _⟨rfl,rfl⟩
  try simp(disch:=omega)
  refine aO R ?_;rintro _ _⟨rfl,rfl⟩
  try simp(disch:=omega)
  refine aO B ?_;rintro _ _⟨rfl,rfl⟩
  try simp(disch:=omega)
  refine aO C ?_;rintro r u⟨A,c,t,l',z⟩
  try simp(disch:=omega)
  subst p;obtain⟨rb,rfl⟩:=t.sl
  try simp(disch:=omega)
  refine⟨ae.trans ⟨_,rfl⟩ A,c,t,by omega,one ((true,true),(false,true)) c ?_ i⟩;rw[V,E]at z;exact z
 rw[if_neg qn]at i;have qnI:¬(y:Int)=n:=by omega
 simp(disch:=omega)[qn,qnI];subst p;simp only[aq];have t1:=Z (by unfold kK;simp;omega) (by unfold kK;simp;omega);have R:=J (by unfold kK;simp;omega) (by unfold kK;simp;omega);have B:=Y (by unfold kK;simp;omega) (by unfold kK;simp;omega);have C:=G (by unfold kK;simp;omega) (by unfold kK;simp;omega);rw[aw,cy];generalize p:aP aE _ _ 0=K
 try simp(disch:=omega)
 refine aO t1 ?_;rintro _ _⟨rfl,rfl⟩
 try simp(disch:=omega)
 subst p;simp only[aq];rw[aw,cy];generalize p:aP aE _ _ 0=K
 try simp(disch:=omega)
 refine aO R ?_;rintro _ _⟨rfl,rfl⟩
 try simp(disch:=omega)
 subst p;simp only[aq];rw[aw,cy];generalize p:aP aE _ _ 0=K
 try simp(disch:=omega)
 refine aO B ?_;rintro _ _⟨rfl,rfl⟩
 try simp(disch:=omega)
 subst p;simp only[aq];rw[aw,cy];generalize p:aP aE _ _ 0=K
 try simp(disch:=omega)
 refine aO C ?_;rintro _ _⟨rfl,rfl⟩
 try simp(disch:=omega)
 subst p;simp only[aq];have hk:=Cp (W:=W.toNat) (H:=H.toNat) (x:=x) (y:=y) (by omega) (by omega) (by omega);have e0:¬gr W.toNat H.toNat (x:Int) (y:Int):=by unfold gr;omega
 have mh:jd W.toNat x y<br.length:=by rw[iJ];exact hk
 have A9:fZ W.toNat H.toNat br (x:Int) (y:Int)=br[jd W.toNat x y]:=by unfold fZ;rw[if_neg e0];simp only[aM];exact ng mh
 obtain⟨sb,so,sz,rfl,is1,is2,is3,hc⟩:=hs.ints;have sM:=eG hc mh;rw[<-A9]at sM;obtain⟨kd,Mz⟩:=aC (fZ W.toNat H.toNat br (x:Int) (y:Int));simp only[<-Mz]at sM i;rename_i F;have axq:=PX F (pt b o) (W,H,br) W.toNat x y Dg (by simp only;omega) (by omega) (by omega) (by omega) (by omega);rw[aw];generalize p:aP aE _ _=K;simp(disch:=omega)[k3];refine aO axq ?_;rintro _ _⟨rfl,rfl⟩;rename_i F;by_cases q1:kd=1
 ·rw[if_pos q1]at i;simp(disch:=omega)[mh,sM,q1];have B:=HG F g f;have C:=DX (F++[⟨[I (min g f),I (if f<g then g else f)],true⟩]) (by simp) v F.length 0 L (DP g f) (by simp;omega) (hL.grow ⟨_,rfl⟩) fh wK (by omega);refine aO B ?_;rintro _ _⟨rfl,rfl⟩
  try simp(disch:=omega)
  refine aO C ?_;rintro r5 u⟨A,N,M,l5,O⟩;obtain⟨rb5,rfl⟩:=M.sl;have U9:lo<=u.length:=by have:=A.le;simp at this;omega
  try simp(disch:=omega)
  have t6:=HG u l k;have t7:=DX (u++[⟨[I (min l k),I (if k<l then l else k)],true⟩]) (by simp) _ u.length 0 N (DP l k) (by simp;omega) (M.grow ⟨_,rfl⟩) U9 wK (by omega);refine aO t6 ?_;rintro _ _⟨rfl,rfl⟩
  try simp(disch:=omega)
  refine aO t7 ?_;rintro r h7⟨g7,c,t,l',z⟩;obtain⟨rb,rfl⟩:=t.sl
  try simp(disch:=omega)
  try subst p
  try simp(disch:=omega)
  refine⟨(ae.trans ⟨_,rfl⟩ A).trans (ae.trans ⟨_,rfl⟩ g7),c,t,by omega,two ((true,true),(true,false)) ((false,true),(false,false)) N c ?_ ?_ i⟩
  ·rw[V,U]at O;exact O
  ·rw[E,D]at z;exact z
 rw[if_neg q1]at i;by_cases q2:kd=2
 ·rw[if_pos q2]at i;simp(disch:=omega)[mh,sM,q1,q2];have B:=HG F g l;have C:=DX (F++[⟨[I (min g l),I (if l<g then g else l)],true⟩]) (by simp) v F.length 0 L (DP g l) (by simp;omega) (hL.grow ⟨_,rfl⟩) fh wK (by omega);refine aO B ?_;rintro _ _⟨rfl,rfl⟩
  try simp(disch:=omega)
  refine aO C ?_;rintro r5 u⟨A,N,M,l5,O⟩;obtain⟨rb5,rfl⟩:=M.sl;have U9:lo<=u.length:=by have:=A.le;simp at this;omega
  try simp(disch:=omega)
  have t6:=HG u f k;have t7:=DX (u++[⟨[I (min f k),I (if k<f then f else k)],true⟩]) (by simp) _ u.length 0 N (DP f k) (by simp;omega) (M.grow ⟨_,rfl⟩) U9 wK (by omega);refine aO t6 ?_;rintro _ _⟨rfl,rfl⟩
  try simp(disch:=omega)
  refine aO t7 ?_;rintro r h7⟨g7,c,t,l',z⟩;obtain⟨rb,rfl⟩:=t.sl
  try simp(disch:=omega)
  try subst p
  try simp(disch:=omega)
  refine⟨(ae.trans ⟨_,rfl⟩ A).trans (ae.trans ⟨_,rfl⟩ g7),c,t,by omega,two ((true,true),(false,true)) ((true,false),(false,false)) N c ?_ ?_ i⟩
  ·rw[V,E]at O;exact O
  ·rw[U,D]at z;exact z
 rw[if_neg q2]at i;simp(disch:=omega)[mh,sM,q1,q2];subst p;simp only[aq];simp(disch:=omega);have B:=HG F g k;have C:=DX (F++[⟨[I (min g k),I (if k<g then g else k)],true⟩]) (by simp) v F.length 0 L (DP g k) (by simp;omega) (hL.grow ⟨_,rfl⟩) fh wK (by omega);refine aO B ?_;rintro _ _⟨rfl,rfl⟩
 try simp(disch:=omega)
 refine aO C ?_;rintro r5 u⟨A,N,M,l5,O⟩;obtain⟨rb5,rfl⟩:=M.sl;have U9:lo<=u.length:=by have:=A.le;simp at this;omega
 try simp(disch:=omega)
 have t6:=HG u l f;have t7:=DX (u++[⟨[I (min l f),I (if f<l then l else f)],true⟩]) (by simp) _ u.length 0 N (DP l f) (by simp;omega) (M.grow ⟨_,rfl⟩) U9 wK (by omega);refine aO t6 ?_;rintro _ _⟨rfl,rfl⟩
 try simp(disch:=omega)
 refine aO t7 ?_;rintro r h7⟨g7,c,t,l',z⟩;obtain⟨rb,rfl⟩:=t.sl
 try simp(disch:=omega)
 try simp(disch:=omega)
 refine⟨(ae.trans ⟨_,rfl⟩ A).trans (ae.trans ⟨_,rfl⟩ g7),c,t,by omega,two ((true,true),(false,false)) ((false,true),(true,false)) N c ?_ ?_ i⟩
 ·rw[V,D]at O;exact O
 ·rw[E,U]at z;exact z
theorem aoS(h:a9)(hp:0<h.length)(pv:Value)(X:bW)(x:Nat)(pp:gY h pv X)(ok:fg X)(hx:1<=x∧x<=2*X.1.toNat):aN aE 482 [pv,I x] h λr h'=>ae h h'∧PsE h.length h' r 100 (λq=>∃y,y<=2*X.2.1.toNat∧(x+y)%2=1∧Dy (LX (2*X.1.toNat) (2*X.2.1.toNat) x y (λj=>fZ X.1.toNat X.2.1.toNat X.2.2 x j)) x (2*X.2.1.toNat) y q):=by
 have t:=λh' hp v y L pp hy F H d hm=>aDf (lo:=h.length) h' hp v pv X x y L pp ok hx hy F H d hm;have T:=ok.h;have Z:=ok.w;obtain⟨D,G⟩:=aC (λy=>LX (2*X.1.toNat) (2*X.2.1.toNat) x y (λj=>fZ X.1.toNat X.2.1.toNat X.2.2 x j));obtain⟨n,u⟩:=aC (2*X.2.1.toNat);have k:∀y,LX (2*X.1.toNat) n x y (λj=>fZ X.1.toNat X.2.1.toNat X.2.2 x j)=D y:=λy=>by rw[G,u]
 simp only[<-u,k]at t ⊢;have B:=pp;have R:=cQ (2*X.2.1) n;obtain⟨b,o,s,rfl,V,P,W,U,_,_⟩:=pp;refine afq ?_;refine bg λK l=>?_
 try simp(disch:=omega)
 refine l ?_;refine bg λK l=>?_
 try simp(disch:=omega)
 refine l ?_;rw[aw];generalize O:aP aE _ _=PP
 try simp(disch:=omega)
 refine aU (λy σ h'=>y<=n+1∧ae h h'∧σ 0=pt b o∧σ 1=I x∧σ 6=I y∧PsE h.length h' (σ 5) (y*2) (λq=>∃j,j<y∧(x+j)%2=1∧Dy (D j) x n j q)) (λy=>n+1-y) 0 ?_ ?_
 ·exact⟨by omega,ae.refl _,by simp,by simp,by simp,[],by simpa using yW.nil (aa _),by simp,λq=>by simp⟩
 rintro y σ h'⟨hy,f,z,q1,g,L,d,Y,m⟩;obtain⟨lb,i⟩:=d.sl;rw[i]at d;have C:=f.cell P;simp(disch:=omega)[z,g,C,R];refine aG (λhle=>?_) (λS=>?_)
 ·have hle:y<=n:=by omega
  have p:=cQ ((x:Int)+y) (((x+y:Nat):Int));have tm:Int.tmod ((x+y:Nat):Int) 2=(((x+y)%2:Nat):Int):=by rw[cj (by omega)];omega
  simp(disch:=omega)[q1,g,p];rw[<-rq,tm];by_cases par:(x+y)%2=1
  ·rw[par];simp(disch:=omega)[z,q1,g,i];refine aO (t h' (aL hp f) _ y L (B.grow f) par hle f.le d (by omega)) ?_;rintro v N⟨M,E,A,l',Q⟩;have res:PsE h.length N v ((y+1)*2) (λq=>∃j,j<y+1∧(x+j)%2=1∧Dy (D j) x n j q):=by
    refine⟨E,A,by omega,λq=>?_⟩;rw[Q,m];constructor
    ·rintro(⟨j,a,b,c⟩|c)
     ·exact⟨j,by omega,b,c⟩
     ·exact⟨y,by omega,par,c⟩
    ·rintro⟨j,a,b,c⟩;by_cases e:j=y
     ·subst e;exact .inr c
     ·exact .inl ⟨j,by omega,b,c⟩
   have J:=f.trans M;simp(disch:=omega)[g,wrap64];refine⟨y+1,?_,by omega⟩;and_intros<;>first|assumption|omega|rfl
  ·have p0:(x+y)%2=0:=by omega
   rw[p0];have res:PsE h.length h' (σ 5) ((y+1)*2) (λq=>∃j,j<y+1∧(x+j)%2=1∧Dy (D j) x n j q):=by
    rw[i];refine⟨L,d,by omega,λq=>?_⟩;rw[m];constructor
    ·rintro⟨j,a,b,c⟩;exact⟨j,by omega,b,c⟩
    ·rintro⟨j,a,b,c⟩;have:j≠y:=by intro e;subst e;omega
     exact⟨j,by omega,b,c⟩
   simp(disch:=omega)[g,wrap64];refine⟨y+1,?_,by omega⟩;and_intros<;>first|assumption|omega|rfl
 ·have:y=n+1:=by omega
  subst this;have res:PsE h.length h' (sl lb 0 L.length 1) 100 (λq=>∃y,y<=n∧(x+y)%2=1∧Dy (D y) x n y q):=by
   refine⟨L,d,by omega,λq=>?_⟩;rw[m];constructor
   ·rintro⟨j,a,b,c⟩;exact⟨j,by omega,b,c⟩
   ·rintro⟨j,a,b,c⟩;exact⟨j,by omega,b,c⟩
  simp(disch:=omega);subst O;simp(disch:=omega)[i];exact⟨f,res⟩
end Am

/- Contracts of functions. -/
import Derived.Test.YtpgioncclmancaaGreatPK7
set_option linter.unusedVariables false
set_option linter.unusedSimpArgs false
set_option maxHeartbeats 4000000
set_option maxRecDepth 40000
namespace Am
open Go
theorem Iu(b:UInt8):∀(s cur:List UInt8),iL b cur (s++[b])=iL b cur s++[[]]
 |[],cur=>by simp[iL]
 |c::r,cur=>by
  simp only[fx,iL];split
  ·rw[Iu b r []];rfl
  ·exact Iu b r _
theorem Gw{b x:UInt8}(hx:x≠b):∀(s cur:List UInt8),∃L w,iL b cur (s++[x])=L++[w++[x]]
 |[],cur=>⟨[],cur,by simp[iL,hx]⟩
 |c::r,cur=>by
  simp only[fx,iL];split
  ·obtain⟨L,w,h⟩:=Gw hx r [];exact⟨cur::L,w,by rw[h];rfl⟩
  ·exact Gw hx r _
theorem bP.Fs{h0 h:a9}{v:Value}{L:List (List UInt8)}(x:bP h0 h v 1 (texts L)):∃b,v=sl b 0 L.length 1∧(L=[]∨aZ h b 0 L.length=some (texts L)):=by
 have hl:(Am.texts L).length=L.length:=by simp[Am.texts]
 rcases x with⟨a,rfl⟩|⟨b,n,rfl,d,e,c⟩
 ·rw[a]at hl;have:L=[]:=aB.1 (by simpa using hl.symm)
  simp_all
 ·have:n=L.length:=by omega
  subst this;exact⟨b,rfl,.inr (cI c hl.symm)⟩
section
variable {α : Type} {f g : α -> α} {V : α -> Prop} {ix : Nat -> α} {n : Nat}
end
section
variable {α : Type} {f g R : α -> α} {seg : α -> Nat} {V : α -> Prop} {N : Nat} {wk : Nat -> α}
end
theorem X9{a b:List Int}{i:Nat}{v:Int}:∀n,(dpre a b n).length<=(dpre a (b.set i v) n).length+if i<n then 1 else 0
 |0=>by simp[dpre]
 |n+1=>by
  have ih:=X9 (a:=a) (b:=b) (i:=i) (v:=v) n;rw[uw,uw,af,af];by_cases e:i=n
  ·subst e;rw[if_neg (by omega)]at ih;rw[if_pos (show i<i+1 by omega)];have:(if fi a i=fi b i then[]else[((i:Int),fi a i,fi b i)]).length<=1:=by split<;>simp
   omega
  ·have c:fi (b.set i v) n=fi b n:=by unfold fi;rw[aA,ag e,<-aA]
   rw[c];generalize (if fi a n=fi b n then[]else[((n:Int),fi a n,fi b n)]).length=q;by_cases hi:i<n
   ·rw[if_pos hi]at ih;rw[if_pos (by omega)];omega
   ·rw[if_neg hi]at ih;rw[if_neg (by omega)];omega
theorem QY(a:List Int):∀n,dpre a a n=[]
 |0=>rfl
 |n+1=>by rw[uw,QY a n];simp
theorem X8{c:List Int}{n:Nat}:∀{l:List dF} {b:List Int},kF l b=some c->(dpre c b n).length<=l.length
 |[],b,h=>by
  simp only[kF,aI]at h;subst h;rw[QY];simp
 |s::l,b,h=>by
  obtain⟨g1,g2,d⟩:=Kw h;have ih:=X8 (n:=n) d;have:=X9 (a:=c) (b:=b) (i:=s.1.toNat) (v:=s.2.1) n;simp only[az];split at this<;>omega
theorem Kx{st br:List Int}(hl:st.length=br.length)(d:∀x∈st,0<=x∧x<=2)(c:∀x∈br,0<=x∧x<=2):
  ∀k,k<=br.length->∀x:List Int,x.length=br.length->(∀i,i<k->fi x i=fi br i)->(∀i,k<=i->i<br.length->fi x i=fi st i)->kF (dpre st br k).reverse x=some st
 |0,_,x,h1,_,b=>by
  simp only[dpre,List.range_zero,List.flatMap_nil,lq,kF,aI];apply gz (by omega);intro i hi iY;have:=b i (by omega) (by omega);rw[ng hi,ng iY]at this;exact this
 |k+1,h,x,h1,a,b=>by
  rw[uw];by_cases e:fi st k=fi br k
  ·rw[if_pos e,gH];refine Kx hl d c k (by omega) x h1 (λi hi=>a i (by omega)) λi hi iY=>?_;by_cases q:i=k
   ·subst q;rw[a i (by omega),e]
   ·exact b i (by omega) iY
  ·rw[if_neg e,mr];simp only[kT,lq,df,lM];have f:=XB d k;have g:=XB c k;refine QA ?_ ?_ ?_
   ·rw[nD];refine⟨?_,f,g,e⟩;simp only;omega
   ·simp only[aM];exact a k (by omega)
   ·simp only[aM];refine Kx hl d c k (by omega) _ (by simpa using h1) (λi hi=>?_) λi hi iY=>?_
    ·unfold fi;rw[aA,ag (by omega),<-aA];exact a i (by omega)
    ·by_cases q:i=k
     ·subst q;exact KU (by omega)
     ·unfold fi;rw[aA,ag (by omega),<-aA];exact b i (by omega) iY
theorem Wl:∀{l:List dF} {b c:List Int},kF l b=some c->l.reverse.foldl (λb s=>b.set s.1.toNat s.2.2) c=b
 |[],b,c,h=>by
  simp only[kF,aI]at h;subst h;rfl
 |s::l,b,c,h=>by
  obtain⟨g1,g2,a⟩:=Kw h;have ih:=Wl a;rw[kT,ju,ih];simp only[gI,afs];have:=QE g1;rw[iZ,<-g2,Hi this.1]
structure aBG (W H:Int) (br:List Int) (p f:List dF):Prop where
 ok:gK ((W,H,br),dpre (ij ((W,H,br),p,f)) br br.length,[])=true
 len:(dpre (ij ((W,H,br),p,f)) br br.length).length<=p.length
 st:ij ((W,H,br),dpre (ij ((W,H,br),p,f)) br br.length,[])=ij ((W,H,br),p,f)
 fin:kM p (ij ((W,H,br),p,f)) p.length=br
theorem ayl{W H:Int}{br:List Int}{p f:List dF}(h:gK ((W,H,br),p,f)=true):aBG W H br p f:=by
 obtain⟨ok,hle,⟨c,a⟩,_⟩:=nh h;obtain⟨s1,s2⟩:=AL h;have es:ij ((W,H,br),p,f)=c:=by
  show(kF p.reverse br).getD []=c
  rw[a];rfl
 rw[es]at s1 s2;have d:=Kx s1 s2 ok.b br.length (aa _) br rfl (λi _=>rfl) (λi h1 e=>by omega);have hl:(dpre c br br.length).length<=p.length:=by have:=X8 (n:=br.length) a;simpa using this
 refine⟨?_,by rw[es];exact hl,?_,?_⟩
 ·rw[es,oT];refine⟨dK.2 ok,?_,⟨c,d⟩,br,rfl⟩
  grind
 ·rw[es]
  show(kF (dpre c br br.length).reverse br).getD []=c
  rw[d];rfl
 ·rw[es];unfold kM;rw[aK];have:=Wl a;simpa using this
theorem Cq{X:de}(h:gK X=true):hI ba X<=1048576:=by obtain⟨⟨W,H,br⟩,p,f⟩:=X;obtain⟨ok,hle,_⟩:=nh h;have:=jH ok;rw[mz];omega
theorem Iw{h:a9}{b o n z:Nat}{l:List UInt8}(hn:n=l.length)(a:n=0∨aZ h b o n=some (cD l)):kr 21 (sl b o n z) h=some (S l,h):=by
 simp only[kr];by_cases h0:n=0
 ·grind
 ·simp[h0,a.resolve_left h0,Er]
theorem HE(l:List UInt8):(cD l).length=l.length:=by simp[cD]
theorem jy{h:a9}{b:Nat}{c d:mm}(a:h[b]?=some c):(h.set b d)[b]?=some d:=by
 grind
def kQ(l:List Bool):List Value:=l.map B
theorem aeE(l:List Bool):(kQ l).length=l.length:=by simp[kQ]
theorem D6(h:a9)(n:Nat)(hn:n<=1000):nR 1 h (I n) (I n) (.agg #[B false])=some (sl h.length 0 n 1,h++[⟨kQ (List.replicate n false),true⟩]):=by
 simp(disch:=omega)[nR,maxSize];constructor
 ·omega
 ·simp[jN,kQ]
theorem vU{h:a9}{b k:Nat}{l:List Bool}(a:h[b]?=some ⟨kQ l,true⟩)(c:k<l.length):cell h b k=some (B (l.getD k false)):=i9 a (by simp[kQ,c,aA])
theorem PF{h:a9}{b k:Nat}{l:List Bool}{v:Bool}(a:h[b]?=some ⟨kQ l,true⟩)(c:k<l.length):storeAt h b k [B v]=some (h.set b ⟨kQ (l.set k v),true⟩):=by rw[ld a (by rw[aeE];exact c)];simp[kQ,jS]
theorem EV:∀(X:List Int),(∀x∈X,bK x)->∀k,k<=X.length->(du [32] ((X.take k).map bE)).length<=21*k
 |X,hx,0,_=>by simp[du]
 |X,hx,k+1,h=>by
  have ih:=EV X hx k (by omega);rw[aj (by omega),cq,bX,mZ,oI];have:=(dW (hx _ (aD (show k<X.length by omega)))).2;split
  ·omega
  ·simp only[af,dH];omega
theorem aCh(h:a9)(hp:0<h.length)(v:Value)(X:List Int)(s:Vr h cZ v X)(C:X.length<=1000):aN aE 156 [v,S [32]] h λr h'=>ae h h'∧r=S (du [32] (X.map bE)):=by
 obtain⟨m,o,w,rfl,x,hm,hx,q⟩:=s.ints;refine ag8 λK d=>?_;refine d ?_;refine akW λK d=>?_;refine d ?_;simp(disch:=omega);refine aU (λk σ h'=>k<=X.length∧ae h h'∧bP h h' (σ 5) 1 (texts ((X.take k).map bE))∧σ 1=S [32]∧σ 9=sl m o X.length w∧σ 10=I X.length∧σ 11=I k) (λk=>X.length-k) 0 ?_ ?_
 ·exact⟨by omega,ae.refl _,by simpa [texts]using bP.nil,by simp,by simp,by simp,by simp⟩
 ·rintro k σ h'⟨B,a,f,j,g,i,c⟩;simp(disch:=omega)[i,c];refine aG (λy=>?_) (λz=>?_)
  ·have b:k<X.length:=by omega
   have t:=hx _ (aD b);have q1:=eG (q.imp id (dZ a)) b;simp(disch:=omega)[g,c,b,q1];refine aQ (zC _ t _ (aL hp a)) ?_;rintro _ p⟨rfl,g2⟩;have l:=a.trans g2
   try refine⟨λe=>(by first|exact g2|cases e),?_⟩
   try simp(disch:=omega)
   refine lN hp (by simp;omega) l (f.grow g2) λD A n b3=>?_
   try simp(disch:=omega)[j,g,i,c,wrap64]
   refine⟨k+1,⟨by omega,n,?_,by omega⟩,by omega⟩;rw[<-bH,aj b,cq];exact b3
  ·have:k=X.length:=by omega
   subst this;rw[aK]at f;have u:=EV X hx X.length (aa _);rw[aK]at u
   try simp(disch:=omega)[j,g]
   refine aO (TZ _ _ [32] _ f.reads (by omega) (by simp;omega)) ?_;rintro _ p⟨rfl,rfl⟩;simp(disch:=omega)[a]
theorem aoL(h:a9)(a b:Int):aN aE 434 [I a,I b] h λr h'=>r=I (min a b)∧h'=h:=by
 refine akV ?_;refine aG (λh1=>?_) (λh1=>?_)
 ·simp(disch:=omega);omega
 ·simp(disch:=omega);omega
def kU(W H:Nat)(br:List Int)(x y:Int):Bool:=!decide (gr W H x y)&&decide (fi br (jd W x.toNat y.toNat)=0)
def lU(br:List Int)(k:Nat):Nat:=((br.take k).filter λx=>decide (x=0)).length
theorem B9(br:List Int)(k:Nat):lU br k<=k:=by unfold lU;have h1:=mY (λx=>decide (x=0)) (br.take k);rw[bu]at h1;omega
theorem Ay{br:List Int}{k:Nat}(a:k<br.length):lU br (k+1)=lU br k+if br[k]=0 then 1 else 0:=by unfold lU;rw[aj a,List.filter_append,af];by_cases e:br[k]=0<;>simp[e]
def lX(x:Int):Int:=if x%2=1 then 1 else -1
structure Lq (W H:Nat) (x y:Int):Prop where
 hx:0<=x∧x<=2*W
 hy:0<=y∧y<=2*H
 hp:(x+y)%2=1
theorem sj.nxp{W H:Nat}{w:Wk}(h:sj W H w):Lq W H (w.1+w.2.2.1) (w.2.1+w.2.2.2):=by obtain⟨a,b,g,i,c,d,j⟩:=h;exact⟨c,d,by rcases a with e|e<;>rcases b with f|f<;>rw[e,f]<;>omega⟩
theorem C7{W H:Nat}{br:List Int}{x y:Int}(n:Lq W H x y)(hn:br.length=jW W (2*H))(w1:1<=W)(h1:1<=H)(he:¬gr W H x y):∃a b:Nat,x=a∧y=b∧(1<=a∧a<2*W)∧(1<=b∧b<2*H)∧(a+b)%2=1∧jd W a b<br.length:=by obtain⟨c,d,e⟩:=n;unfold gr at he;simp only[not_or]at he;refine⟨x.toNat,y.toNat,by omega,by omega,by omega,by omega,by omega,?_⟩;rw[hn];exact Cp (by omega) (by omega) (by omega)
theorem fg.nat{W H:Int}{br:List Int}(ok:fg (W,H,br)):∃a b:Nat,W=a∧H=b∧W.toNat=a∧H.toNat=b∧1<=a∧a<9∧1<=b∧b<9∧br.length=jW a (2*b):=by have c:=ok.row;have h1:=ok.w;have d:=ok.h;simp only at h1 d c;exact⟨W.toNat,H.toNat,by omega,by omega,rfl,rfl,by omega,by omega,by omega,by omega,c⟩
theorem c35(h:a9)(W H x y:Int)(br:List Int)(s:Value)(ok:fg (W,H,br))(l:Vr h cZ s br)(n:Lq W.toNat H.toNat x y):aN aE 35 [.agg #[I W,I H,s],.agg #[I x,I y]] h λr h'=>r=B (kU W.toNat H.toNat br x y)∧h'=h:=by
 obtain⟨b2,o2,z2,rfl,_,hm,_,k⟩:=l.ints;obtain⟨a,b,j,i,e,f,d,g,b1,u,m⟩:=ok.nat;rw[e,f]at n ⊢;refine akV ?_;refine aO (c34 h W H x y _ (by omega) (by omega)) ?_;rintro _ h1⟨rfl,rfl⟩;rw[e,f];by_cases he:gr a b x y
 ·simp(disch:=omega)[he,kU]
 ·obtain⟨q,t,rfl,rfl,q1,q2,p,c⟩:=C7 n m d b1 he;simp(disch:=omega)[he];rw[j,i];refine aO (XE h1 a b q t _ d g (by omega) (by omega) p) ?_;rintro _ v⟨rfl,rfl⟩;have o:=eG k c;simp(disch:=omega)[c,o,kU,he,ng c]
theorem aoX(h:a9)(v:Value)(X:bW)(x y:Int)(m:gY h v X)(ok:fg X)(n:Lq X.1.toNat X.2.1.toNat x y):aN aE 502 [v,.agg #[I x,I y]] h λr h'=>r=B (kU X.1.toNat X.2.1.toNat X.2.2 x y)∧h'=h:=by
 obtain⟨W,H,br⟩:=X;have e:=m;obtain⟨C,E,s,rfl,h1,i,j,l,w1,w2⟩:=m;obtain⟨b2,o2,z2,rfl,_,hm,_,k⟩:=l.ints;obtain⟨a,b,p,D,f,g,d,o,b1,A,q⟩:=ok.nat;simp only at n h1 i j l hm k ⊢;rw[f,g]at n ⊢;refine akV ?_;refine aO (ZA h _ (W,H,br) x y e ok) ?_;rintro _ z⟨rfl,rfl⟩;simp only;rw[f,g];by_cases he:gr a b x y
 ·simp(disch:=omega)[he,kU]
 ·obtain⟨u,w,rfl,rfl,q1,q2,F,c⟩:=C7 n q d b1 he;simp(disch:=omega)[he,j];refine aO (PX z _ (W,H,br) a u w e p d o (by omega) (by omega)) ?_;rintro _ i⟨rfl,rfl⟩;have t:=eG k c;simp(disch:=omega)[c,t,kU,he,ng c]
theorem aoC(h:a9)(x y:Int)(hx:0<=x):aN aE 179 [.agg #[I x,I y]] h λr h'=>r=I (lX x)∧h'=h:=by
 have e:x.tmod 2=x%2:=cj hx;refine afq ?_;simp(disch:=omega)[e];refine aG (λh1=>?_) (λh1=>?_)
 ·simp(disch:=omega)[lX,h1]
 ·simp(disch:=omega)[lX,h1]
theorem aDq(h:a9)(x y:Int)(hx:0<=x):aN aE 506 [.agg #[I x,I y]] h λr h'=>r=I (lX x)∧h'=h:=by
 have e:x.tmod 2=x%2:=cj hx;refine afq ?_;simp(disch:=omega)[e];refine aG (λh1=>?_) (λh1=>?_)
 ·simp(disch:=omega)[lX,h1]
 ·simp(disch:=omega)[lX,h1]
theorem c28(h:a9)(W H x y:Int)(br:List Int)(s:Value)(ok:fg (W,H,br))(z:Vr h cZ s br)(n:Lq W.toNat H.toNat x y)(he:¬gr W.toNat H.toNat x y):aN aE 28 [.agg #[I W,I H,s],.agg #[I x,I y]] h λr h'=>r=I (lU br (jd W.toNat x.toNat y.toNat))∧h'=h:=by
 obtain⟨b2,o2,z2,rfl,P,hm,_,w⟩:=z.ints;have F:=jH ok;obtain⟨a,b,t,q,i,p,f,o,b1,G,A⟩:=ok.nat;rw[i,p]at n he;rw[i];obtain⟨l,m,rfl,rfl,q1,q2,D,E⟩:=C7 n A f b1 he;rw[aM,aM];obtain⟨N,v⟩:=aC (jd a l m);have g:=XE h a b l m (sl b2 o2 br.length z2) f o (by omega) (by omega) D;rw[<-v]at E g ⊢;rw[t,q];refine ag8 λK u=>?_;refine u ?_;simp(disch:=omega);refine aO g ?_;rintro _ h1⟨rfl,rfl⟩;have es:gS 3 h1 (sl b2 o2 br.length z2) none (some (I N)) none=some (sl b2 o2 N z2,h1):=by
  have:N<=br.length:=by omega
  simp[gS,bound,this];omega
 rw[es];simp only[bI];simp(disch:=omega);refine aU (λk σ h'=>h'=h1∧k<=N∧σ 5=I (lU br k)∧σ 13=sl b2 o2 N z2∧σ 14=I N∧σ 15=I k) (λk=>N-k) 0 ?_ ?_
 ·exact⟨rfl,by omega,by simp[lU],by simp,by simp,by simp⟩
 ·rintro k σ h'⟨rfl,O,e,BZ,xO,AK⟩;simp(disch:=omega)[xO,AK];refine aG (λJ=>?_) (λL=>?_)
  ·have B:k<N:=by omega
   have j:k<br.length:=by omega
   have C:=eG w j;have c:=Ay j;have M:=B9 br k;simp(disch:=omega)[e,BZ,xO,AK,B,C];by_cases d:br[k]=0
   ·rw[if_pos d]at c;simp(disch:=omega)[d,e,AK,wrap64];refine⟨k+1,?_,by omega⟩;and_intros<;>first|assumption|rfl|omega|(simp[c];done)|(simp[c];omega)
   ·rw[if_neg d]at c;simp(disch:=omega)[d,e,AK,wrap64];refine⟨k+1,?_,by omega⟩;and_intros<;>first|assumption|rfl|omega|(simp[c];done)|(simp[c];omega)
  ·have:k=N:=by omega
   subst this;simp(disch:=omega)[e]
theorem aoW(h:a9)(v:Value)(X:bW)(x y:Int)(u:gY h v X)(ok:fg X)(n:Lq X.1.toNat X.2.1.toNat x y)(he:¬gr X.1.toNat X.2.1.toNat x y):aN aE 501 [v,.agg #[I x,I y]] h λr h'=>r=I (lU X.2.2 (jd X.1.toNat x.toNat y.toNat))∧h'=h:=by
 obtain⟨W,H,br⟩:=X;have C:=u;obtain⟨B,O,s,rfl,h1,F,p,t,w1,w2⟩:=u;obtain⟨b2,o2,z2,rfl,_,hm,_,q⟩:=t.ints;have Q:=jH ok;obtain⟨a,b,E,U,o,D,l,A,b1,R,L⟩:=ok.nat;simp only at n h1 F p t hm q he ⊢;rw[o,D]at n he;rw[o];obtain⟨i,j,rfl,rfl,q1,q2,q3,P⟩:=C7 n L l b1 he;rw[aM,aM];obtain⟨N,J⟩:=aC (jd a i j);have m:=PX h _ (W,H,br) a i j C E l A (by omega) (by omega);rw[<-J]at P m ⊢;refine ag8 λK G=>?_;refine G ?_;simp(disch:=omega);refine aU (λk σ h'=>h'=h∧k<=N∧σ 0=pt B O∧σ 3=.agg #[I i,I j]∧σ 5=I (lU br k)∧σ 6=I k) (λk=>N-k) 0 ?_ ?_
 ·exact⟨rfl,by omega,by simp,by simp,by simp[lU],by simp⟩
 ·rintro k σ h'⟨rfl,Y,w,z,f,d⟩;simp(disch:=omega)[w,z,d];refine aO m ?_;rintro _ yg⟨rfl,rfl⟩;simp(disch:=omega)[d];refine aG (λS=>?_) (λT=>?_)
  ·have Z:k<N:=by omega
   have g:k<br.length:=by omega
   have M:=eG q g;have c:=Ay g;have V:=B9 br k;simp(disch:=omega)[w,f,d,g,M,p];by_cases e:br[k]=0
   ·rw[if_pos e]at c;simp(disch:=omega)[e,f,d,wrap64];refine⟨k+1,?_,by omega⟩;and_intros<;>first|assumption|rfl|omega|(simp[c];done)|(simp[c];omega)
   ·rw[if_neg e]at c;simp(disch:=omega)[e,f,d,wrap64];refine⟨k+1,?_,by omega⟩;and_intros<;>first|assumption|rfl|omega|(simp[c];done)|(simp[c];omega)
  ·have:k=N:=by omega
   subst this;simp(disch:=omega)[f]
def Rw(h:a9)(v:Value)(z:Nat)(cs:List Value):Prop:=∃b o n y,v=sl b o n y∧n*z=cs.length∧(n=0∨aZ h b o (n*z)=some cs)
theorem Rw.grow{h h':a9}{v:Value}{z:Nat}{cs:List Value}(x:Rw h v z cs)(g:ae h h'):Rw h' v z cs:=by obtain⟨b,o,n,y,h1,a,c⟩:=x;exact⟨b,o,n,y,h1,a,c.imp id λh=>g.aZ h⟩
theorem Rw.nil{h:a9}{z y:Nat}:Rw h (sl 0 0 0 y) z []:=⟨0,0,0,y,rfl,by simp,.inl rfl⟩
theorem bP.rw{h0 h:a9}{v:Value}{z:Nat}{cs:List Value}(x:bP h0 h v z cs):Rw h v z cs:=by obtain⟨b,o,n,h1,a,c⟩:=x.reads;exact⟨b,o,n,z,h1,a,c⟩
theorem P7{α:Type}{f:α->List Value}{z:Nat}(b:∀a,(f a).length=z):∀{l:List α} {i:Nat} (hi:i<l.length),(((l.map f).flatten).drop (i*z)).take z=f l[i]
 |a::l,0,_=>by simp[<-b a]
 |a::l,i+1,hi=>by
  have iY:i<l.length:=by simpa using hi
  have:=P7 b iY;simp only[bX,cK,kg];rw[show(i+1)*z=(f a).length+i*z by rw[b,cX];omega,List.drop_length_add_append];exact this
theorem Cg{α:Type}{f:α->List Value}{z:Nat}(b:∀a,(f a).length=z):∀{l:List α},((l.map f).flatten).length=l.length*z
 |[]=>by simp
 |a::l=>by simp only[bX,cK,af,b,Cg b,az,cX];omega
theorem HW{α:Type}{f:α->List Value}{z:Nat}(d:∀a,(f a).length=z){h:a9}{b o n:Nat}{l:List α}(hn:n*z=(l.map f).flatten.length)(g:0<z)(c:n=0∨aZ h b o (n*z)=some (l.map f).flatten):n=l.length∧∀i (hi:i<l.length),aZ h b (o+i*z) z=some (f l[i]):=by
 rw[Cg d]at hn;have e:n=l.length:=mH g hn;refine⟨e,λi hi=>?_⟩;rcases c with c|c
 ·omega
 ·have:=AX (i:=i*z) (m:=z) c (by
   have:(i+1)*z<=n*z:=bM z (by omega);rw[cX]at this;omega)
  rw[P7 d hi]at this;exact this
def I3(h:a9)(v:Value)(ws:List Wk):Prop:=∃b o,v=sl b o ws.length 4∧∀i (hi:i<ws.length),aZ h b (o+i*4) 4=some [I ws[i].1,I ws[i].2.1,I ws[i].2.2.1,I ws[i].2.2.2]
theorem I3.grow{h h':a9}{v:Value}{ws:List Wk}(x:I3 h v ws)(g:ae h h'):I3 h' v ws:=by obtain⟨b,o,e,c⟩:=x;exact⟨b,o,e,λi hi=>g.aZ (c i hi)⟩
theorem AM{h:a9}{b:Nat}{ws:List Wk}(a:h[b]?=some ⟨mQ ws,true⟩):I3 h (sl b 0 ws.length 4) ws:=by
 have hl:(mQ ws).length=ws.length*4:=by rw[Iz];omega
 refine⟨b,0,rfl,λi hi=>?_⟩;exact(HW (f:=λw:Wk=>[I w.1,I w.2.1,I w.2.2.1,I w.2.2.2]) (λ_=>rfl) (n:=ws.length) (hl.symm) (by omega) (.inr (cI a hl.symm))).2 i hi
def xd(W H:Nat)(br:List Int)(w:Wk):Option (Int×Bool):=if kU W H br (w.1+w.2.2.1) (w.2.1+w.2.2.2)then some ((lU br (jd W (w.1+w.2.2.1).toNat (w.2.1+w.2.2.2).toNat):Nat),decide (w.2.2.1*w.2.2.2=lX (w.1+w.2.2.1)))else none
def qq(W H:Nat)(br:List Int)(ws:List Wk):List (Int×Bool):=ws.filterMap (xd W H br)
def rN(l:List (Int×Bool)):List Value:=(l.map λp=>[I p.1,B p.2]).flatten
theorem agt{l:List (Int×Bool)}:(rN l).length=l.length*2:=Cg (f:=λp:Int×Bool=>[I p.1,B p.2]) (λ_=>rfl)
theorem D9{W H:Nat}{br:List Int}{ws:List Wk}{w:Wk}:qq W H br (ws++[w])=qq W H br ws++(xd W H br w).toList:=by unfold qq;rw[List.filterMap_append];cases e:xd W H br w<;>simp[e]
theorem Ii{W H:Nat}{br:List Int}{ws:List Wk}:(qq W H br ws).length<=ws.length:=List.length_filterMap_le _ _
theorem Ao{W H:Nat}{br:List Int}{x y:Int}(h:kU W H br x y=true):¬gr W H x y:=by unfold kU at h;simp only[aH,fp,decide_eq_false_iff_not]at h;exact h.1
theorem aoZ(h:a9)(W H:Nat)(x y dx dy:Int)(hw:sj W H (x,y,dx,dy))(c:W<=8∧H<=8):aN aE 504 [.agg #[I x,I y,I dx,I dy]] h λr h'=>r=B (decide (dx*dy=lX (x+dx)))∧h'=h:=by
 have hn:=hw.nxp;obtain⟨a,b,d,f,g,i,j⟩:=hw;simp only at*;have hm:dx*dy=1∨dx*dy=-1:=by rcases a with rfl|rfl<;>rcases b with rfl|rfl<;>omega
 refine akV ?_;refine aO (T5 h x y dx dy (by omega) (by omega) (by omega) (by omega)) ?_;rintro _ h1⟨rfl,rfl⟩
 try simp(disch:=omega)
 refine aO (aDq h1 _ _ (by omega)) ?_;rintro _ h1⟨rfl,rfl⟩;have e:(lX (x+dx)=dx*dy)=(dx*dy=lX (x+dx)):=propext ⟨Eq.symm,Eq.symm⟩;simp(disch:=omega)[wrap64,e]
theorem TD{h h':a9}{v:Value}{l:List (Int×Bool)}{c:Int}{b:Bool}{K:Value->a9->Prop}(hp:0<h.length)(g:ae h h')(hl:l.length<=1000)(f:bP h h' v 2 (rN l))
  (e:∀d a,ae h a->bP h a d 2 (rN (l++[(c,b)]))->K d a):gE (cu 2 (h'++[⟨[I c,B b],true⟩]) (sl h'.length 0 1 2) v) K:=by
 refine AU hp g (aa _) g.le f rfl (by omega) (by rw[agt];simp[maxSize];omega) λd a g2 _ b2 _ _=>?_;exact e d a g2 (by simpa [rN]using b2)
theorem c45(h:a9)(hp:0<h.length)(W H:Int)(br:List Int)(s v:Value)(ws:List Wk)(ok:fg (W,H,br))(A:Vr h cZ s br)(L:I3 h v ws)(p:∀w∈ws,sj W.toNat H.toNat w)(hl:ws.length<=512):aN aE 45 [.agg #[I W,I H,s],v] h λr h'=>ae h h'∧bP h h' r 2 (rN (qq W.toNat H.toNat br ws)):=by
 obtain⟨b,o,rfl,D⟩:=L;obtain⟨a,Z,eW,eH,e1,e2,U,V,b1,X,iJ⟩:=ok.nat;refine ag8 λK m=>?_;refine m ?_;refine akW λK m=>?_;refine m ?_;rw[aw];generalize J:aP aE _ _=P;simp(disch:=omega);refine aU (λk σ h'=>k<=ws.length∧ae h h'∧bP h h' (σ 5) 2 (rN (qq W.toNat H.toNat br (ws.take k)))∧σ 2=.agg #[I W,I H,s]∧σ 10=sl b o ws.length 4∧σ 11=I ws.length∧σ 12=I k) (λk=>ws.length-k) 0 ?_ ?_
 ·exact⟨by omega,ae.refl _,by simpa [qq,rN]using bP.nil,by simp,by simp,by simp,by simp⟩
 ·rintro k σ h'⟨hk,d,c,q2,nK,oL,DR⟩;simp(disch:=omega)[oL,DR];refine aG (λY=>?_) (λdG=>?_)
  ·have i:k<ws.length:=by omega
   have t:=d.aZ (D k i);have hw:=p _ (aD i);have q:ws.take (k+1)=ws.take k++[ws[k]]:=aj i;have M:=Ii (W:=W.toNat) (H:=H.toNat) (br:=br) (ws:=ws.take k);rw[bu]at M;obtain⟨w,F⟩:=aC (ws[k]);rw[<-F]at t hw q;obtain⟨x,y,dx,dy⟩:=w;have hn:=hw.nxp;have C:=hw;obtain⟨u,z,N,O,Q,R,S⟩:=C;simp only at u z N O Q R S hn t;have hm:dx*dy=1∨dx*dy=-1:=by rcases u with rfl|rfl<;>rcases z with rfl|rfl<;>omega
   simp(disch:=omega)[q2,nK,DR,i,t];refine aO (c58 h' x y dx dy (by omega) (by omega) (by omega) (by omega)) ?_;rintro _ h1⟨rfl,rfl⟩;simp(disch:=omega)[q2];refine aO (c35 h1 W H _ _ br s ok (A.grow d) hn) ?_;rintro _ h1⟨rfl,rfl⟩;cases j:kU W.toNat H.toNat br (x+dx) (y+dy)
   ·have l:xd W.toNat H.toNat br (x,y,dx,dy)=none:=by simp[xd,j]
    simp(disch:=omega)[DR,wrap64];have f:bP h h1 (σ 5) 2 (rN (qq W.toNat H.toNat br (ws.take (k+1)))):=by rw[q,D9,l];simpa using c
    refine⟨k+1,?_,by omega⟩;and_intros<;>first|assumption|omega|rfl
   ·have l:xd W.toNat H.toNat br (x,y,dx,dy)=some (((lU br (jd W.toNat (x+dx).toNat (y+dy).toNat):Nat):Int),decide (dx*dy=lX (x+dx))):=by simp[xd,j]
    simp(disch:=omega)[q2];refine aO (c28 h1 W H _ _ br s ok (A.grow d) hn (Ao j)) ?_;rintro _ h1⟨rfl,rfl⟩;simp(disch:=omega)[wrap64];refine aO (aoC h1 _ _ (by omega)) ?_;rintro _ h1⟨rfl,rfl⟩;simp(disch:=omega);have E:aW 2 1 h1 [(0,.agg #[I 0,B false]),(2,.agg #[I (lU br (jd W.toNat (x+dx).toNat (y+dy).toNat)),B (decide (dx*dy=lX (x+dx)))])]=some (sl h1.length 0 1 2,h1++[⟨[I (lU br (jd W.toNat (x+dx).toNat (y+dy).toNat)),B (decide (dx*dy=lX (x+dx)))],true⟩]):=by simp[aW]
    rw[E];simp only[bI];refine TD hp d (by omega) c λT G g2 b2=>?_;simp(disch:=omega)[q2,nK,oL,DR,wrap64];have f:bP h G T 2 (rN (qq W.toNat H.toNat br (ws.take (k+1)))):=by rw[q,D9,l];exact b2
    refine⟨k+1,?_,by omega⟩;and_intros<;>first|assumption|omega|rfl
  ·have:k=ws.length:=by omega
   subst this;rw[aK]at c;simp(disch:=omega);subst J;obtain⟨f,g⟩:∃f n,σ 5=sl f 0 n 2:=by
    rcases c with⟨_,e⟩|⟨b,n,e,_⟩
    ·exact⟨0,0,e⟩
    ·exact⟨b,n,e⟩
   obtain⟨n5,g⟩:=g;rw[g]at c;simp(disch:=omega)[g];exact⟨d,c⟩
theorem aDp(h:a9)(hp:0<h.length)(v:Value)(X:bW)(w:Wk)(P:gY h v X)(ok:fg X)(hw:sj X.1.toNat X.2.1.toNat w):aN aE 505 [v,wv w] h λr h'=>ae h h'∧bP h h' r 2 (rN (qq X.1.toNat X.2.1.toNat X.2.2 (nP (fK X.1.toNat X.2.1.toNat X.2.2) w (im (fK X.1.toNat X.2.1.toNat X.2.2) w)))):=by
 have A:=xR (W:=X.1.toNat) (H:=X.2.1.toNat) (br:=X.2.2) (by have:=ok.w;omega) (by have:=ok.h;omega);obtain⟨P1,P2,Q,R⟩:=A.Bz hw;obtain⟨f,ef⟩:=aC (fK X.1.toNat X.2.1.toNat X.2.2);rw[<-ef]at A P1 P2 Q R ⊢;have hN:4*X.1.toNat*X.2.1.toNat<=4*8*8:=dh (by have:=ok.w;omega) (by have:=ok.h;omega);have b8:X.1.toNat<=8∧X.2.1.toNat<=8:=⟨by have:=ok.w;omega,by have:=ok.h;omega⟩;obtain⟨n,y⟩:=aC (im f w);rw[<-y]at P1 P2 Q R ⊢;refine afq ?_;refine bg λK p=>?_;simp(disch:=omega)[wv];refine p ?_;refine akW λK p=>?_;refine p ?_;refine akW λK p=>?_;refine p ?_;rw[aw];generalize hP:aP aE _ _=PP;simp(disch:=omega);refine aU (λ(k:Nat) σ h'=>k<=n∧ae h h'∧σ 0=v∧σ 3=wv w∧σ 6=wv (dP f k w)∧σ 7=I k∧bP h h' (σ 5) 2 (rN (qq X.1.toNat X.2.1.toNat X.2.2 (nP f w k)))) (λk=>n-k) 0 ?_ ?_
 ·exact⟨by omega,ae.refl _,by simp,by simp[wv],by simp[wv,dP],by simp,by simpa [nP,qq,rN]using bP.nil⟩
 ·rintro k σ h'⟨hk,g,q0,s,q,F,x⟩;have Z:=A.vi hw k;have t:=Z;have inj:∀a b:Wk,wv a=wv b->a=b:=by rintro⟨_,_,_,_⟩⟨_,_,_,_⟩ e;simp[wv]at e;obtain⟨rfl,rfl,rfl,rfl⟩:=e;rfl
  obtain⟨u,z⟩:=aC (dP f k w);rw[<-z]at q Z t;rw[aw];generalize p:aP aE _ _=K;have GS:(nP f w k).length=k:=Fb;have oS:=Ii (W:=X.1.toNat) (H:=X.2.1.toNat) (br:=X.2.2) (ws:=nP f w k);have D:nP f w (k+1)=nP f w k++[u]:=by rw[Kp,z]
  have key:k<n->∀j:Nat->Value,j 0=v->j 3=wv w->j 6=wv u->j 7=I k->j 5=σ 5->K 0 j h':=by
   intro tQ j p0 p3 E p7 p5;subst p;simp only[aq];obtain⟨m,o,i,l⟩:=u;simp only[wv]at E;have YC:=t;have hn:=t.nxp;obtain⟨d1,d2,d3,d4,d5,d6,d7⟩:=YC;simp only at d1 d2 d3 d4 d5 d6 d7 hn;obtain⟨a,b,c,d,Y⟩:∃a b c d,fK X.1.toNat X.2.1.toNat X.2.2 (m,o,i,l)=(a,b,c,d):=⟨_,_,_,_,rfl⟩;have e9:dP f (k+1) w=(a,b,c,d):=by show f (dP f k w)=_;rw[<-z,ef];exact Y
   simp(disch:=omega)[E];refine aO (T5 h' m o i l (by omega) (by omega) (by omega) (by omega)) ?_;rintro _ h1⟨rfl,rfl⟩;simp(disch:=omega)[p0];refine aO (aoX h1 v X _ _ (P.grow g) ok hn) ?_;rintro _ h1⟨rfl,rfl⟩;cases U:kU X.1.toNat X.2.1.toNat X.2.2 (m+i) (o+l)
   ·have O:xd X.1.toNat X.2.1.toNat X.2.2 (m,o,i,l)=none:=by simp[xd,U]
    have S:bP h h1 (j 5) 2 (rN (qq X.1.toNat X.2.1.toNat X.2.2 (nP f w (k+1)))):=by rw[D,D9,O,p5];simpa using x
    simp(disch:=omega)[p0,E];refine aO (ZG h1 v X m o i l (P.grow g) ok t) ?_;rintro _ h1⟨rfl,rfl⟩;rw[Y];simp(disch:=omega)[wv,p7,wrap64];exact⟨k+1,⟨by omega,g,by simpa [wv]using p3,by simp[e9],by omega,S⟩,by omega⟩
   ·have O:xd X.1.toNat X.2.1.toNat X.2.2 (m,o,i,l)=some (((lU X.2.2 (jd X.1.toNat (m+i).toNat (o+l).toNat):Nat):Int),decide (i*l=lX (m+i))):=by simp[xd,U]
    simp(disch:=omega)[p0];refine aO (aoW h1 v X _ _ (P.grow g) ok hn (Ao U)) ?_;rintro _ h1⟨rfl,rfl⟩;simp(disch:=omega)[E];refine aO (aoZ h1 X.1.toNat X.2.1.toNat m o i l t b8) ?_;rintro _ h1⟨rfl,rfl⟩
    try simp(disch:=omega)
    obtain⟨ci,DK⟩:∃ci:Int,ci=((lU X.2.2 (jd X.1.toNat (m+i).toNat (o+l).toNat):Nat):Int):=⟨_,rfl⟩;obtain⟨cb,sM⟩:=aC (decide (i*l=lX (m+i)));rw[<-DK,<-sM]at O ⊢;have eb:aW 2 1 h1 [(0,.agg #[I 0,B false]),(2,.agg #[I ci,B cb])]=some (sl h1.length 0 1 2,h1++[⟨[I ci,B cb],true⟩]):=by simp[aW]
    rw[eb,p5];simp only[bI];refine TD hp g (by omega) x λv' C g2 b2=>?_;have S:bP h C v' 2 (rN (qq X.1.toNat X.2.1.toNat X.2.2 (nP f w (k+1)))):=by rw[D,D9,O];exact b2
    try simp(disch:=omega)[p0,E]
    refine aO (ZG C v X m o i l (P.grow g2) ok t) ?_;rintro _ V⟨rfl,rfl⟩;rw[Y];simp(disch:=omega)[wv,p7,wrap64];exact⟨k+1,⟨by omega,g2,by simpa [wv]using p3,by simp[e9],by omega,S⟩,by omega⟩
  by_cases T:k=0
  ·simp(disch:=omega)[s,q,F,T];exact key (by omega) _ (by simp[q0]) (by simp[s]) (by simp[q]) (by simp[F]) (by simp)
  ·have Q3:¬(k:Int)=0:=by omega
   by_cases N:k<n
   ·have ne:u≠w:=by rw[z];exact R k (by omega) N
    obtain⟨m,o,i,l⟩:=u;obtain⟨L,M,G,J⟩:=w;simp only[wv]at q s;have y:Ah .neq 4 [I m,I o,I i,I l] [I L,I M,I G,I J]=some (.bool true):=by by_cases h1:m=L<;>by_cases C:o=M<;>by_cases V:i=G<;>by_cases h4:l=J<;>simp[Ah,gF,h1,C,V,h4];subst h1;subst C;subst V;subst h4;exact absurd rfl ne
    simp(disch:=omega)[s,q,F,T,y];exact key (by omega) _ (by simp[q0]) (by simp[s,wv]) (by simp[q,wv]) (by simp[F]) (by simp)
   ·have e:k=n:=by omega
    have eq:u=w:=by rw[z,e];exact Q
    subst eq;obtain⟨L,M,G,J⟩:=u;simp only[wv]at q s;have y:Ah .neq 4 [I L,I M,I G,I J] [I L,I M,I G,I J]=some (.bool false):=by simp[Ah,gF]
    obtain⟨b3,n3,Wg⟩:∃b n,σ 5=sl b 0 n 2:=by
     rcases x with⟨N,e2⟩|⟨b,n,N,_⟩
     ·exact⟨0,0,e2⟩
     ·exact⟨b,n,N⟩
    rw[Wg]at x;simp(disch:=omega)[s,q,F,T,y];subst p;simp(disch:=omega);subst hP;simp(disch:=omega)[Wg];rw[e]at x;exact⟨g,x⟩
theorem FV{X:bW}(ok:fg X):aki (fK X.1.toNat X.2.1.toNat X.2.2) (kY X.2.1.toNat) (qw X.2.1.toNat) (4*X.1.toNat*X.2.1.toNat) (4*X.1.toNat*X.2.1.toNat):=by have A:=xR (W:=X.1.toNat) (H:=X.2.1.toNat) (br:=X.2.2) (by have:=ok.w;omega) (by have:=ok.h;omega);exact A.owned (λk a=>Dr (by have:=ok.h;omega) a) (λk a=>Hr (by have:=ok.h;omega) a) _ (aa _)
theorem YE{X:bW}(ok:fg X):(tZ X).length=4*X.1.toNat*X.2.1.toNat:=by have A:=xR (W:=X.1.toNat) (H:=X.2.1.toNat) (br:=X.2.2) (by have:=ok.w;omega) (by have:=ok.h;omega);exact(A.st (λk a=>Dr (by have:=ok.h;omega) a) _ (aa _)).1
theorem BI(X:bW):(jA X).length=bC X:=zY _ _ _ _ _
theorem Gp(X:bW):(yH X).length=bC X:=WZ
theorem Li{X:bW}(ok:fg X):4*X.1.toNat*X.2.1.toNat<=256:=by exact(dh (by have:=ok.w;omega) (by have:=ok.h;omega):4*X.1.toNat*X.2.1.toNat<=4*8*8)
theorem mf{X:bW}(ok:fg X):bC X<=256:=by have A:=xR (W:=X.1.toNat) (H:=X.2.1.toNat) (br:=X.2.2) (by have:=ok.w;omega) (by have:=ok.h;omega);have h1:=(A.st (λk b=>Dr (by have:=ok.h;omega) b) _ (aa _)).2.2;have a:=Li ok;exact a7 h1 a
noncomputable def my(X:bW)(c:Nat):Wk:=qw X.2.1.toNat ((jA X).getD c 0)
noncomputable def fq(X:bW)(c:Nat):List Wk:=nP (fK X.1.toNat X.2.1.toNat X.2.2) (my X c) (im (fK X.1.toNat X.2.1.toNat X.2.2) (my X c))
theorem Nc{X:bW}(ok:fg X){c:Nat}(g:c<bC X):(jA X).getD c 0<4*X.1.toNat*X.2.1.toNat∧fi (tZ X) ((jA X).getD c 0)=c∧∀j,j<(jA X).getD c 0->fi (tZ X) j≠c:=by
 have ow:=FV ok;have hl:c<(jA X).length:=by rw[BI];exact g
 have e:(jA X).getD c 0=(jA X)[c]:=by rw[aA,ah hl];rfl
 obtain⟨h1,b⟩:=ow.st c hl;have d:=ow.on c hl 0;have f:kY X.2.1.toNat (dP (fK X.1.toNat X.2.1.toNat X.2.2) 0 (qw X.2.1.toNat (jA X)[c]))=(jA X)[c]:=Hr (by have:=ok.h;omega) h1;rw[e];refine⟨h1,?_,b⟩;have a:fi (tZ X) (kY X.2.1.toNat (dP (fK X.1.toNat X.2.1.toNat X.2.2) 0 (qw X.2.1.toNat (jA X)[c])))=c:=d;rw[f]at a;exact a
theorem yf{X:bW}(ok:fg X){c:Nat}(a:c<bC X):sj X.1.toNat X.2.1.toNat (my X c):=Dr (by have:=ok.h;omega) (Nc ok a).1
theorem Ca{X:bW}(ok:fg X){c:Nat}(a:c<bC X):∀w∈fq X c,sj X.1.toNat X.2.1.toNat w:=by have A:=xR (W:=X.1.toNat) (H:=X.2.1.toNat) (br:=X.2.2) (by have:=ok.w;omega) (by have:=ok.h;omega);intro w hw;unfold fq nP at hw;obtain⟨j,_,rfl⟩:=bj.1 hw;exact A.vi (yf ok a) j
theorem QV{X:bW}{c:Nat}(a:c<(yH X).length):(yH X)[c]=fq X c:=by
 have hl:c<(jA X).length:=by rw[BI,<-Gp];exact a
 have e:(jA X).getD c 0=(jA X)[c]:=by rw[aA,ah hl];rfl
 unfold fq my;rw[e];exact iP (l:=jA X) _ (h:=a)
theorem yG{X:bW}(ok:fg X){c:Nat}(a:c<bC X):(fq X c).length<=256:=by have A:=xR (W:=X.1.toNat) (H:=X.2.1.toNat) (br:=X.2.2) (by have:=ok.w;omega) (by have:=ok.h;omega);have h1:=(A.Bz (yf ok a)).2.1;unfold fq;rw[Fb];exact a7 h1 (Li ok)
noncomputable def uL(X:bW)(c:Int):Wk×Bool:=if 0<=c∧c<bC X then(my X c.toNat,true)else((0,0,0,0),false)
theorem anl{X:bW}(ok:fg X){c:Int}{k:Nat}(a:k<4*X.1.toNat*X.2.1.toNat)(he:fi (tZ X) k=c)(hn:∀j,j<k->fi (tZ X) j≠c):uL X c=(qw X.2.1.toNat k,true):=by
 have ow:=FV ok;have h0:0<=c:=by rw[<-he];exact ow.all k a
 have h1:c<bC X:=by rw[<-he];exact ow.lt k a
 obtain⟨s1,s2,b⟩:=Nc ok (c:=c.toNat) (by omega);have e:(jA X).getD c.toNat 0=k:=by
  rcases qf ((jA X).getD c.toNat 0) k with q|q|q
  ·exact absurd s2 (by have:=hn _ q;omega)
  ·exact q
  ·exact absurd he (by have:=b _ q;omega)
 unfold uL;rw[if_pos ⟨h0,h1⟩];unfold my;rw[e]
theorem ajQ{X:bW}(ok:fg X){c:Int}(hn:∀j,j<4*X.1.toNat*X.2.1.toNat->fi (tZ X) j≠c):uL X c=((0,0,0,0),false):=by unfold uL;rw[if_neg];rintro⟨h0,h1⟩;obtain⟨s1,s2,a⟩:=Nc ok (c:=c.toNat) (by omega);have:=hn _ s1;omega
theorem ao0(h:a9)(hp:0<h.length)(v:Value)(X:bW)(c:Int)(o:gY h v X)(ok:fg X):aN aE 507 [v,I c] h λr h'=>ae h h'∧r=.tuple #[wv (uL X c).1,B (uL X c).2]:=by
 have z:=Li ok;have s:=YE ok;obtain⟨N,b⟩:=aC (4*X.1.toNat*X.2.1.toNat);have Rp:∀k,k<N->fi (tZ X) k=c->(∀j,j<k->fi (tZ X) j≠c)->uL X c=(qw X.2.1.toNat k,true):=λk f=>anl ok (by rw[<-b];exact f);have none_:(∀j,j<N->fi (tZ X) j≠c)->uL X c=((0,0,0,0),false):=λhn=>ajQ ok (by rw[<-b];exact hn);refine ag8 λK d=>?_;refine d ?_;refine akW λK d=>?_;refine aO (NK h hp v X o ok) ?_;rintro _ h1⟨g1,b1,b2,Z,rfl,F,L,H,A⟩;simp(disch:=omega);refine d ?_;rw[<-b]at z s ⊢;have g:=o.grow g1;have w:∀k,k<N->cell h1 b2 k=some (I (fi (tZ X) k)):=λk f=>i9 A (by simp[ints,fi,aA,show k<(tZ X).length by omega]);rw[aw];generalize n:aP aE _ _=PP;simp(disch:=omega);refine aU (λk σ h'=>h'=h1∧k<=N∧(∀j,j<k->fi (tZ X) j≠c)∧σ 0=v∧σ 1=I c∧σ 4=.agg #[I 0,I 0,I 0,I 0]∧σ 7=sl b2 0 N 1∧σ 8=I k) (λk=>N-k) 0 ?_ ?_
 ·exact⟨rfl,by omega,λj D=>by omega,by simp,by simp,by simp,by simp,by simp⟩
 ·rintro k σ h'⟨rfl,f,hn,p,q1,l,m,a⟩;simp(disch:=omega)[m,a];refine aG (λE=>?_) (λG=>?_)
  ·have i:k<N:=by omega
   have C:=w k i;simp(disch:=omega)[q1,m,a,i,C];refine aG (λheq=>?_) (λt=>?_)
   ·simp(disch:=omega)[p,a];refine aO (aoP h' v X k g ok (by omega)) ?_;rintro _ J⟨rfl,rfl⟩;have e:=Rp k i heq hn;obtain⟨u,hu⟩:=aC (qw X.2.1.toNat k);rw[<-hu]at e ⊢;obtain⟨x,y,dx,dy⟩:=u;simp(disch:=omega)[wv,l];subst n;rw[e];simp(disch:=omega)[wv,cY,cJ,cO,bD];exact g1
   ·simp(disch:=omega)[a,wrap64];exact⟨k+1,⟨by omega,λj D=>(by
     by_cases q:j=k
     ·rw[q];exact t
     ·exact hn j (by omega)),p,q1,l,m,by omega⟩,by omega⟩
  ·have:k=N:=by omega
   subst this;have e:=none_ hn;simp(disch:=omega);subst n;rw[e];simp(disch:=omega)[l,wv,cY,cJ,cO,bD];exact g1
noncomputable def iD(X:bW)(c:Int):List (Int×Bool)×Int:=if iv X then(if 0<=c∧c<bC X then(qq X.1.toNat X.2.1.toNat X.2.2 (fq X c.toNat),0)else([],2))else([],1)
theorem Xc(X:bW)(c:Int):(iD X c).1.length<=256:=by
 unfold iD;split
 ·rename_i h;have ok:=dK.1 h;split
  ·rename_i b;have h1:=Ii (W:=X.1.toNat) (H:=X.2.1.toNat) (br:=X.2.2) (ws:=fq X c.toNat);have a:=yG ok (c:=c.toNat) (by omega);exact a7 h1 a
  ·simp
 ·simp
def RwC(h h':a9)(r:Value)(z:Nat)(cs:List Value)(c:Int):Prop:=∃v,r=.tuple #[v,I c]∧Rw h' v z cs∧(∃b o n y,v=sl b o n y)∧ae h h'
theorem Rw.sl{h:a9}{v:Value}{z:Nat}{cs:List Value}(x:Rw h v z cs):∃b o n y,v=Am.sl b o n y:=by obtain⟨b,o,n,y,e,_⟩:=x;exact⟨b,o,n,y,e⟩
theorem aoY(h:a9)(hp:0<h.length)(v:Value)(X:bW)(c:Int)(j:gY h v X):aN aE 503 [v,I c] h λr h'=>RwC h h' r 2 (rN (iD X c).1) (iD X c).2:=by
 refine afq ?_;rw[aw,cy];generalize a:aP aE _ _ 0=K;simp(disch:=omega);subst a;simp only[aq];rw[aw];generalize a:aP aE _ _=K;simp(disch:=omega);refine aO (An v X h j) ?_;rintro _ h1⟨rfl,rfl⟩;cases f:iv X
 ·have d:iD X c=([],1):=by simp[iD,f]
  rw[d]at a;simp(disch:=omega);subst a;simp(disch:=omega);exact⟨_,rfl,Rw.nil,⟨_,_,_,_,rfl⟩,ae.refl _⟩
 have ok:=dK.1 f;simp(disch:=omega);subst a;simp only[aq];rw[aw,cy];generalize a:aP aE _ _ 0=K;simp(disch:=omega);refine aO (ao0 h1 hp v X c j ok) ?_;rintro _ p⟨g2,rfl⟩;by_cases g:0<=c∧c<bC X
 ·have d:iD X c=(qq X.1.toNat X.2.1.toNat X.2.2 (fq X c.toNat),0):=by simp[iD,f,g]
  have i:uL X c=(my X c.toNat,true):=by simp[uL,g]
  rw[d]at a;rw[i];have l:=yf ok (c:=c.toNat) (by omega);have e:=aDp p (aL hp g2) v X (my X c.toNat) (j.grow g2) ok l;have k:nP (fK X.1.toNat X.2.1.toNat X.2.2) (my X c.toNat) (im (fK X.1.toNat X.2.1.toNat X.2.2) (my X c.toNat))=fq X c.toNat:=rfl;rw[k]at e;obtain⟨u,hu⟩:=aC (my X c.toNat);rw[<-hu]at e ⊢;obtain⟨x,y,dx,dy⟩:=u;simp only[wv]at e;have q:¬c<0:=by omega
  simp(disch:=omega)[wv];subst a;simp only[aq];simp(disch:=omega)[q];refine aO e ?_;rintro t s⟨m,b3⟩;obtain⟨b,o,n,y,rfl⟩:=b3.rw.sl;simp(disch:=omega);exact⟨_,rfl,b3.rw,⟨_,_,_,_,rfl⟩,g2.trans m⟩
 ·have d:iD X c=([],2):=by simp[iD,f,g]
  have i:uL X c=((0,0,0,0),false):=by simp[uL,g]
  rw[d]at a;rw[i];simp(disch:=omega)[wv];subst a;simp(disch:=omega);exact⟨_,rfl,Rw.nil,⟨_,_,_,_,rfl⟩,g2⟩
theorem aCU(h:a9)(hp:0<h.length)(v:Value)(X:bW)(c:Int)(g:Vr h bU v X):aN aE 404 [v,I c] h λr h'=>RwC h h' r 2 (rN (iD X c).1) (iD X c).2:=by
 obtain⟨W,H,br⟩:=X;obtain⟨s,rfl,w1,w2,r⟩:=g.dE;refine ag8 λK f=>?_;obtain⟨h0,a⟩:=aC (h++[⟨[I W,I H,s],true⟩]);rw[<-a];have d:ae h h0:=⟨_,a⟩;have l0:=d.le;have i:h0[h.length]?=some ⟨[I W,I H,s],true⟩:=by rw[a];simp
 have pp:gY h0 (pt h.length 0) (W,H,br):=gY.at i (r.grow d) w1 w2;refine f ?_;simp(disch:=omega);refine aO (aoY h0 (by omega) _ (W,H,br) c pp) ?_;rintro _ h1⟨v1,rfl,e,⟨b,o,n,y,rfl⟩,g1⟩;simp(disch:=omega);exact⟨_,rfl,e,⟨_,_,_,_,rfl⟩,d.trans g1⟩
noncomputable def ke(X:bW)(L:List Int):Int:=if iv X then(if ∀x∈L,0<=x∧x<bC X then 0 else 2)else 1
theorem aoy(h:a9)(hp:0<h.length)(v w:Value)(X:bW)(L:List Int)(p:Vr h bU v X)(hw:Rw h w 1 (ints L))(hl:L.length<=1000):aN aE 155 [v,w] h λr h'=>ae h h'∧r=I (ke X L):=by
 have l:=p;obtain⟨W,H,br⟩:=X;obtain⟨s,rfl,w1,w2,r⟩:=p.dE;obtain⟨b,o,n,y,rfl,hn,m⟩:=hw;have A:n=L.length:=by simpa [ints]using hn
 subst A;simp only[dn]at m;have D:L=[]∨aZ h b o L.length=some (ints L):=m.imp (λe=>aB.1 e) id;refine afq ?_;rw[aw,cy];generalize c:aP aE _ _ 0=K;simp(disch:=omega);subst c;simp only[aq];rw[aw];generalize c:aP aE _ _=K;simp(disch:=omega);refine aO (B7 _ _ h l) ?_;rintro _ h1⟨rfl,rfl⟩;cases d:iv (W,H,br)
 ·have a:ke (W,H,br) L=1:=by simp[ke,d]
  rw[a]at c;simp(disch:=omega);subst c;simp(disch:=omega);exact ae.refl _
 have ok:=dK.1 d;have M:=mf ok;simp(disch:=omega);subst c;simp only[aq];rw[aw];generalize f:aP aE _ _=PP;simp(disch:=omega);refine aU (λk σ h'=>ae h1 h'∧k<=L.length∧(∀x∈L.take k,0<=x∧x<bC (W,H,br))∧σ 2=.agg #[I W,I H,s]∧σ 10=sl b o L.length y∧σ 11=I L.length∧σ 12=I k) (λk=>L.length-k) 0 ?_ ?_
 ·exact⟨ae.refl _,by omega,by simp,by simp,by simp,by simp,by simp⟩
 ·rintro k σ h'⟨g,N,j,q2,nK,oL,DR⟩;simp(disch:=omega)[oL,DR];refine aG (λF=>?_) (λG=>?_)
  ·have i:k<L.length:=by omega
   have E:=eG (D.imp id (dZ g)) i;simp(disch:=omega)[q2,nK,DR,i,E];refine aO (Ms h' (aL hp g) _ (W,H,br) (l.grow g) ok) ?_;rintro _ B⟨g2,rfl⟩;have u:=cQ ((bC (W,H,br):Int)-1) ((bC (W,H,br):Int)-1);simp(disch:=omega)[u];refine aO (B8 _ _ _ B) ?_;rintro _ J⟨rfl,rfl⟩;have z:gZ L[k] 0 ((bC (W,H,br):Int)-1)=decide (0<=L[k]∧L[k]<bC (W,H,br)):=by
    unfold gZ;by_cases q:0<=L[k]∧L[k]<bC (W,H,br)
    ·simp[q];omega
    ·simp[q];omega
   rw[z];by_cases q:0<=L[k]∧L[k]<bC (W,H,br)
   ·simp(disch:=omega)[q,DR,wrap64];refine⟨k+1,?_,by omega⟩;have t:∀x∈L.take (k+1),0<=x∧x<bC (W,H,br):=by
     intro x hx;rw[aj i]at hx;rcases cS.1 hx with hx|hx
     ·exact j x hx
     ·simp at hx;rw[hx];exact q
    and_intros<;>first|assumption|omega|exact g.trans g2|exact t
   ·have a:ke (W,H,br) L=2:=by unfold ke;rw[d,if_pos rfl,if_neg];intro C;exact q (C _ (aD i))
    rw[a]at f;simp(disch:=omega)[q];subst f;simp(disch:=omega);exact g.trans g2
  ·have:k=L.length:=by omega
   subst this;rw[aK]at j;have a:ke (W,H,br) L=0:=by unfold ke;rw[d,if_pos rfl,if_pos j]
   rw[a]at f;simp(disch:=omega);subst f;simp(disch:=omega);exact g
end Am

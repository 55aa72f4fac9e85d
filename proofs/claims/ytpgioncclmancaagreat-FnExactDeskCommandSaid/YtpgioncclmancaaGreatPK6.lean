/- Contracts of functions. -/
import Derived.Test.YtpgioncclmancaaGreatPK5
set_option linter.unusedVariables false
set_option linter.unusedSimpArgs false
set_option maxHeartbeats 4000000
set_option maxRecDepth 40000
namespace Am
open Go
def FX(X:bW)(k:Nat):List UInt8:=tg X.1::120::tg X.2.1::58::(X.2.2.take k).map mW
theorem agr(X:bW)(k:Nat)(a:k<=X.2.2.length):(FX X k).length=4+k:=by simp[FX];omega
theorem adQ{X:bW}{k:Nat}(a:k<X.2.2.length):FX X (k+1)=FX X k++[mW X.2.2[k]]:=by unfold FX;rw[aj a,cq];rfl
theorem anf{b:Int}(h:0<=b∧b<=2):oD b=true:=by unfold oD;rw[fM];exact h
theorem aCn(v:Value)(X:bW)(h:a9)(hp:0<h.length)(p:Vr h bU v X)(ok:fg X):aN aE 182 [v] h λr h'=>r=S (nE X)∧ae h h':=by
 have g:=ok.hI;have q:=ok;have l:=yP ok;obtain⟨W,H,br⟩:=X;obtain⟨s,rfl,w1,w2,r⟩:=p.dE;obtain⟨f,e,t,qb⟩:=ok;obtain⟨b2,o2,z,rfl,_,hm,hx,n⟩:=r.ints;simp only at f e t qb g;refine akV ?_;refine aQ (zC W w1 h hp) ?_;rintro _ h1⟨rfl,g1⟩;rw[Ev f];simp(disch:=omega);refine aQ (zC H w2 h1 (by have:=g1.le;omega)) ?_;rintro _ j⟨rfl,g2⟩;rw[Ev e];simp(disch:=omega);have gT:=g1.trans g2;refine aU (λk σ h'=>h'=j∧k<=br.length∧σ 3=S (FX (W,H,br) k)∧σ 16=sl b2 o2 br.length z∧σ 17=I br.length∧σ 18=I k) (λk=>br.length-k) 0 ?_ ?_
 ·simp[FX]
 ·rintro k σ h'⟨rfl,o,d,IS,Fh,tU⟩;have hl:=agr (W,H,br) k o;simp(disch:=omega)[Fh,tU];refine aG (λu=>?_) (λw=>?_)
  ·have a:k<br.length:=by omega
   have i:=eG (n.imp id (dZ gT)) a;have m:=qb _ (aD a);have hm:=OW (h:=h') (anf m);have c:=adQ (X:=(W,H,br)) a;simp only at c;have b:4+k<=4611686018427387903:=by omega
   simp(disch:=omega)[d,IS,Fh,tU,a,i,wrap64,hm,hl,b];exact⟨k+1,⟨by omega,by rw[c],by omega⟩,by omega⟩
  ·have:k=br.length:=by omega
   subst this;simp(disch:=omega)[d,l,FX];exact gT
theorem Un:∀(f r:Nat) (acc:List UInt8),(zg f r acc).length<=f+acc.length
 |0,r,acc=>by simp[zg]
 |f+1,r,acc=>by
  simp only[zg];split
  ·omega
  ·have:=Un f (r/10) (UInt8.ofNat (48+r%10)::acc);simp only[az]at this;omega
theorem ajx{m:Nat}(h:m<=1099511627776):(yn m).length<=maxLen:=by
 rw[cH];unfold yn;split
 ·simp
 ·have:=Un m m []
  grind
theorem ND{h:a9}{lo hi:Nat}{v:Value}{l:List Int}{a:Int}{K:Value->a9->Prop}(hp:0<lo)(hl:l.length<=1048576)(f:Bf h lo hi v 1 (ints l))
  (d:∀c b,Mod lo hi h b->Bf b h.length b.length c 1 (ints (l++[a]))->K c b):
  gE (aW 1 1 h [(0,.agg #[I 0]),(1,I a)]) λy b=>gE (cu 1 b y v) K:=by
 have e:aW 1 1 h [(0,.agg #[I 0]),(1,I a)]=some (sl h.length 0 1 1,h++[⟨[I a],true⟩]):=by simp[aW]
 rw[e];simp only[bI];refine I9 hp (f.grow ⟨_,rfl⟩) (new:=[I a]) ?_ (by omega) (by simp) (by simp) (by simp[ints,maxSize];omega) ?_
 ·simp[cR];rw[fB (k:=⟨[I a],true⟩) (by simp) (by simp)];simp
 ·intro c b g b1;refine d c b ((Mod.push _).trans g) ?_;rw[CO];exact b1.wide (by simp) (aa _)
theorem Vz(l:List UInt8):∀x∈l.map lT,bK x:=by intro x hx;obtain⟨c,_,rfl⟩:=bj.1 hx;exact ajn c
theorem OL{l:List UInt8}{k:Nat}(a:k<l.length):(l.map lT).take (k+1)=(l.map lT).take k++[lT l[k]]:=by rw[aj (by simpa using a)];simp
theorem Dd{l:List (List UInt8)}{i:Nat}(h:i<l.length):nth l i=l[i]:=by simp[nth,h]
def sH(s:List UInt8):bW×Bool:=if(rP s).length=2∧(pQ s).length=2 then(Ga s,Fo s)else((0,0,[]),false)
theorem aDc(h:a9)(hp:0<h.length)(s:List UInt8)(hs:s.length<=1048576):aN aE 468 [S s] h λr h'=>ae h h'∧∃W,r=.tuple #[W,B (sH s).2]∧Vo h' h.length h'.length bU W (sH s).1:=by
 refine afq ?_;rw[aw,cy];generalize a:aP aE _ _ 0=K;simp(disch:=omega);subst a;simp only[aq];rw[aw,cy];generalize a:aP aE _ _ 0=K;simp(disch:=omega);refine aQ (CB (.inr rfl) s 58 hs h hp) ?_;rintro wv h1⟨g1,Q⟩;have hW:fF 58 s=rP s:=rfl;rw[hW]at Q;obtain⟨wb,wo,wn,rfl,d,p⟩:=Q.reads;have D:wn=(rP s).length:=by simpa [texts]using d
 subst D;have l1:=g1.le;subst a;simp only[aq];by_cases e:(rP s).length=2
 rotate_left
 ·have m:sH s=((0,0,[]),false):=by simp[sH,e]
  rw[m];have b:¬((rP s).length:Int)=2:=by omega
  simp(disch:=omega)[e,b,cY,cJ,cO,bD];exact⟨g1,Vo.pW⟩
 have b:((rP s).length:Int)=2:=by omega
 have R:=BL p d (k:=0) (by omega);have c1:=BL p d (k:=1) (by omega);rw[<-Dd (i:=0) (by omega),bA]at R;rw[<-Dd (i:=1) (by omega)]at c1;have wl:∀w∈rP s,w.length<=s.length:=by intro w hw;have:=uK 58 s [] w hw;simpa using this
 have n0:(nth (rP s) 0).length<=s.length:=by rw[Dd (by omega)];exact wl _ (aD _)
 have n1:(nth (rP s) 1).length<=s.length:=by rw[Dd (by omega)];exact wl _ (aD _)
 rw[aw];generalize a:aP aE _ (zn _ _)=K;simp(disch:=omega)[e,b];subst a;simp only[aq];rw[aw,cy];generalize a:aP aE _ _ 0=K;simp(disch:=omega)[e,R];refine aQ (CB (.inr rfl) (nth (rP s) 0) 120 (by omega) h1 (by omega)) ?_;rintro vv h2⟨g2,bv⟩;have hV:fF 120 (nth (rP s) 0)=pQ s:=rfl;rw[hV]at bv;obtain⟨vb,vo,vn,rfl,c,o⟩:=bv.reads;have C:vn=(pQ s).length:=by simpa [texts]using c
 subst C;have gT:=g1.trans g2;have l2:=gT.le;subst a;simp only[aq];by_cases f:(pQ s).length=2
 rotate_left
 ·have m:sH s=((0,0,[]),false):=by simp[sH,f]
  rw[m];have A:¬((pQ s).length:Int)=2:=by omega
  simp(disch:=omega)[f,A,cY,cJ,cO,bD];exact⟨gT,Vo.pW⟩
 have A:((pQ s).length:Int)=2:=by omega
 have m:sH s=(Ga s,Fo s):=by simp[sH,e,f]
 rw[m];have T:=BL o c (k:=0) (by omega);have u:=BL o c (k:=1) (by omega);rw[<-Dd (i:=0) (by omega),bA]at T;rw[<-Dd (i:=1) (by omega)]at u;have X:∀w∈pQ s,w.length<=s.length:=by
  intro w hw;have:=uK 120 (nth (rP s) 0) [] w hw;have h':w.length<=(nth (rP s) 0).length:=by simpa using this
  omega
 have m0:(nth (pQ s) 0).length<=s.length:=by rw[Dd (by omega)];exact X _ (aD _)
 have m1:(nth (pQ s) 1).length<=s.length:=by rw[Dd (by omega)];exact X _ (aD _)
 have c1:=g2.cell c1;rw[aw];generalize a:aP aE _ (zn _ _)=K;simp(disch:=omega)[f,A];subst a;simp only[aq];rw[aw,cy];generalize a:aP aE _ _ 0=K;simp(disch:=omega)[f,T];refine aQ (ahU (nth (pQ s) 0) (by omega) h2 (by omega)) ?_;rintro _ h3⟨v,rfl⟩;simp(disch:=omega);subst a;simp only[aq];rw[aw,cy];generalize a:aP aE _ _ 0=K;have u:=v.cell u;have l3:=v.le;simp(disch:=omega)[f,u];refine aQ (ahU (nth (pQ s) 1) (by omega) h3 (by omega)) ?_;rintro _ F⟨U,rfl⟩;simp(disch:=omega);subst a;simp only[aq];have DJ:=gT.trans (v.trans U);have l4:=DJ.le;have c1:=(v.trans U).cell c1;have i1:=Fi (nth (pQ s) 0);have i2:=Fi (nth (pQ s) 1);rw[aw,cy];generalize a:aP aE _ _ 0=K;simp(disch:=omega);subst a;simp only[aq];rw[aw];generalize a:aP aE _ (zn _ _)=K;simp(disch:=omega);refine aU (λ(k:Nat) σ h'=>k<=(nth (rP s) 1).length∧ae F h'∧σ 2=.agg #[I 0,I 0,sl 0 0 0 0]∧σ 4=sl wb wo 2 1∧σ 7=B (eU (nth (pQ s) 0)).2∧σ 9=B (eU (nth (pQ s) 1)).2∧σ 11=I k∧∃q,σ 10=.agg #[I (eU (nth (pQ s) 0)).1,I (eU (nth (pQ s) 1)).1,q]∧Bf h' F.length h'.length q 1 (ints (((nth (rP s) 1).map lT).take k))) (λk=>(nth (rP s) 1).length-k) 0 ?_ ?_
 ·refine⟨by omega,ae.refl _,by simp,by simp[e],by simp,by simp,by simp,sl 0 0 0 0,by simp,?_⟩;simp[ints];exact Bf.nil
 ·rintro k σ h'⟨hk,g,q2,J,y,q9,oL,q,nK,t⟩;have l:=g.cell c1;have lg:=g.le;simp(disch:=omega)[J,oL,l];refine aG (λbB=>?_) (λdG=>?_)
  ·have x:k<(nth (rP s) 1).length:=by omega
   have G:=aes x;have n:=aer x;have H:=OL x;simp(disch:=omega)[J,nK,oL,l,x,G,n];refine aO (aDb _ h') ?_;rintro _ h'⟨rfl,rfl⟩
   try simp(disch:=omega)
   refine ND (by omega) (by simp;omega) t λv2 h5 V P=>?_;have Z:=V.kR g (aa _);have l5:=V.1;obtain⟨L,M,O,ev⟩:=P.sl;subst ev;simp(disch:=omega)[q2,J,y,q9,nK,oL,wrap64];refine⟨k+1,⟨by omega,Z,by omega,?_⟩,by omega⟩;rw[H,n];exact P.wide (by omega) (aa _)
  ·have Y:k=(nth (rP s) 1).length:=by omega
   rw[Y,aY (by simp)]at t;have vo:=t.ints (by rw[bL,cH];omega) (Vz _);have vp:Vo h' F.length h'.length bU (.agg #[I (eU (nth (pQ s) 0)).1,I (eU (nth (pQ s) 1)).1,q]) (Ga s):=Vo.jF i1 i2 vo;obtain⟨L,M,O,ev⟩:=t.sl;subst ev;subst a;have N:=vp.wide l4 (aa _);have E:=DJ.trans g;cases j:(eU (nth (pQ s) 0)).2
   ·simp(disch:=omega)[q2,y,q9,nK,j,cY,cJ,cO,bD];exact⟨E,_,⟨rfl,by simp[Fo,j]⟩,N⟩
   ·cases z:(eU (nth (pQ s) 1)).2
    ·simp(disch:=omega)[q2,y,q9,nK,j,z,cY,cJ,cO,bD];exact⟨E,_,⟨rfl,by simp[Fo,j,z]⟩,N⟩
    ·simp(disch:=omega)[q2,y,q9,nK,j,z,cY,cJ,cO,bD];exact⟨E,_,⟨rfl,by simp[Fo,j,z]⟩,N⟩
theorem anx(s:List UInt8):gU s=if(sH s).2&&iv (sH s).1 then((sH s).1,true)else((0,0,[]),false):=by
 by_cases b:(rP s).length=2
 ·by_cases c:(pQ s).length=2
  ·have a:sH s=(Ga s,Fo s):=by simp[sH,b,c]
   rw[a];cases h1:Fo s
   ·rw[amu (.inl h1)];rfl
   ·cases d:iv (Ga s)
    ·rw[amu (.inr d)];simp only[d];rfl
    ·rw[awk b c h1 d];simp only[d];rfl
  ·have a:sH s=((0,0,[]),false):=by simp[sH,c]
   rw[a,aFg c];rfl
 ·have a:sH s=((0,0,[]),false):=by simp[sH,b]
  rw[a,aFh b];rfl
theorem aCY(h:a9)(hp:0<h.length)(s:List UInt8)(n:s.length<=1048576):aN aE 413 [S s] h λr h'=>ae h h'∧∃j,r=.tuple #[j,B (gU s).2]∧Vo h' h.length h'.length bU j (gU s).1:=by
 refine akV ?_;refine aQ (aDc h hp s n) ?_;rintro _ h1⟨g1,j,rfl,o1⟩;obtain⟨a,b,c,rfl⟩:=o1.vr.ass;have l:=rH (h:=h1) (cs:=[I 0,I 0,sl 0 0 0 0]) (xs:=[a,b,c]) rfl
 try refine⟨λe=>(by cases e),?_⟩
 simp(disch:=omega)[l];obtain⟨d,g⟩:=aC (h1++[⟨[a,b,c],true⟩]);have g2:ae h1 d:=⟨_,g⟩;have k:d[h1.length]?=some ⟨[a,b,c],true⟩:=by rw[g];simp
 try rw[<-g]
 have i:=g1.trans g2;have rs:=anx s;cases q1:(sH s).2
 ·rw[q1]at rs;have f:gU s=((0,0,[]),false):=rs;rw[f];simp(disch:=omega)[cY,cJ,cO,bD];exact⟨i,Vo.pW⟩
 rw[q1]at rs;obtain⟨P,m⟩:=aC ((sH s).1);rw[<-m]at o1 rs;obtain⟨W,H,br⟩:=P;have o:=o1;obtain⟨p,es,w1,w2,o3⟩:=o1.dE;simp at es;obtain⟨rfl,rfl,rfl⟩:=es;simp(disch:=omega);refine aO (An _ (W,H,br) d (gY.at k (o3.vr.grow g2) w1 w2)) ?_;rintro _ d⟨rfl,rfl⟩;cases q2:iv (W,H,br)
 ·rw[q2]at rs;have f:gU s=((0,0,[]),false):=rs;rw[f];simp(disch:=omega)[cY,cJ,cO,bD];exact⟨i,Vo.pW⟩
 ·rw[q2]at rs;have f:gU s=((W,H,br),true):=rs;rw[f];have cl:aZ d h1.length 0 3=some [I W,I H,c]:=cI k rfl;simp(disch:=omega)[cl,cY,cJ,cO,bD];exact⟨i,(o.grow g2).wide (aa _) g2.le⟩
theorem K6:∀(s:List UInt8) (c:UInt8) (i:Nat),-1<=idx s c i∧idx s c i<i+s.length∧(idx s c i=-1∨(i:Int)<=idx s c i)
 |[],c,i=>by simp[idx];omega
 |x::r,c,i=>by
  simp only[idx];split
  ·simp only[az];omega
  ·have:=K6 r c (i+1);simp only[az];omega
theorem Vp:∀(s:List UInt8) (c:UInt8) (i n:Nat),idx s c i=((i+n:Nat):Int)->s[n]?=some c
 |[],c,i,n,h=>by simp only[idx]at h;omega
 |x::r,c,i,n,h=>by
  simp only[idx]at h;split at h
  ·rename_i e;have:n=0:=by omega
   subst this;simp[e]
  ·have h1:=K6 r c (i+1);obtain⟨m,rfl⟩:∃m,n=m+1:=⟨n-1,by omega⟩;have:=Vp r c (i+1) m (by rw[h];congr 1;omega);simpa using this
theorem aB6(h:a9)(hp:0<h.length)(s:List UInt8)(T:s.length<=1048576):aN aE 122 [S s] h λr h'=>ae h h'∧∃V,r=.tuple #[V,B (gU s).2]∧Vo h' h.length h'.length bU V (gU s).1:=by
 obtain⟨i1,i2,i3⟩:=K6 s 120 0;obtain⟨j1,j2,j3⟩:=K6 s 58 0;refine akV ?_;refine aO (aoD s T 120 h) ?_;rintro _ h⟨rfl,rfl⟩;simp(disch:=omega);refine aO (aoD s T 58 h) ?_;rintro _ h⟨rfl,rfl⟩;obtain⟨x,hx⟩:=aC (idx s 120 0);obtain⟨c,y⟩:=aC (idx s 58 0);rw[<-hx]at i1 i2 i3 ⊢;rw[<-y]at j1 j2 j3 ⊢;have J:x<0∨c<x∨(129:Int)<s.length-c->gU s=((0,0,[]),false):=λq=>awd (by unfold Ti;rw[<-hx,<-y];exact q);by_cases b1:x<0
 ·have f:=J (.inl b1);rw[f];simp(disch:=omega)[b1,cY,cJ,cO,bD];exact⟨ae.refl _,Vo.pW⟩
 by_cases b2:c<x
 ·have f:=J (.inr (.inl b2));rw[f];simp(disch:=omega)[b1,b2,cY,cJ,cO,bD];exact⟨ae.refl _,Vo.pW⟩
 by_cases b3:(129:Int)<s.length-c
 ·have f:=J (.inr (.inr b3));rw[f];simp(disch:=omega)[b1,b2,b3,wrap64,cY,cJ,cO,bD];exact⟨ae.refl _,Vo.pW⟩
 obtain⟨d,rfl⟩:=bc (show 0<=x by omega);obtain⟨e,rfl⟩:=bc (show 0<=c by omega);have ex:Sh s=d:=by unfold Sh;rw[<-hx];rfl
 have R:Wi s=e:=by unfold Wi;rw[<-y];rfl
 have H:d+1<=e:=by
  have:d≠e:=by rintro rfl;have W:=Vp s 120 0 d (by rw[<-hx];simp);have P:=Vp s 58 0 d (by rw[<-y];simp);rw[W]at P;simp at P
  omega
 have iC:e<=s.length:=by omega
 have F:DS s=((eU (s.take d)).1,(eU ((s.take e).drop (d+1))).1,(s.drop (e+1)).map lT):=by unfold DS;rw[ex,R]
 have o:M5 s=((eU (s.take d)).2&&((eU ((s.take e).drop (d+1))).2&&(iv (DS s)&&decide (nE (DS s)=s)))):=by unfold M5;rw[ex,R]
 have pd:¬((d:Nat):Int)<0:=by omega
 have s1:=Wv (h:=h) (s:=s) (b:=d) (by omega);simp(disch:=omega)[pd,b2,b3,wrap64,s1];refine aO (ahP (s.take d) (by simp;omega) h hp) ?_;rintro _ h1⟨g1,rfl⟩;have l1:=g1.le;obtain⟨m,lS⟩:=aC (d+1);rw[<-lS]at F o H;have s2:=Is (h:=h1) (s:=s) (a:=m) (b:=e) (by omega) (by omega);have X:(d:Int)+1=(m:Int):=by omega
 simp(disch:=omega)[wrap64,X,s2];refine aO (ahP ((s.take e).drop m) (by simp;omega) h1 (by omega)) ?_;rintro _ E⟨g2,rfl⟩;have gT:=g1.trans g2;have l2:=gT.le;have C:=Fi (s.take d);have D:=Fi ((s.take e).drop m);obtain⟨c1,uE⟩:=aC (e+1);have Y:(e:Int)+1=(c1:Int):=by omega
 rw[<-uE]at F;simp(disch:=omega)[wrap64,Y];refine aU (λ(k:Nat) σ h'=>c1+k<=s.length∧ae E h'∧σ 0=S s∧σ 2=.agg #[I 0,I 0,sl 0 0 0 0]∧σ 7=B (eU (s.take d)).2∧σ 9=B (eU ((s.take e).drop m)).2∧σ 11=I ((c1:Int)+k)∧∃q,σ 10=.agg #[I (eU (s.take d)).1,I (eU ((s.take e).drop m)).1,q]∧Bf h' E.length h'.length q 1 (ints (((s.drop c1).map lT).take k))) (λk=>s.length-k) 0 ?_ ?_
 ·refine⟨by omega,ae.refl _,by simp,by simp,by simp,by simp,by simp,sl 0 0 0 0,by simp,?_⟩;simp[ints];exact Bf.nil
 ·rintro k σ h'⟨hk,g,p,q2,j,q9,oL,q,nK,v⟩;have lg:=g.le;simp(disch:=omega)[p,oL];refine aG (λbB=>?_) (λdG=>?_)
  ·have K:c1+k<s.length:=by omega
   have kl:k<(s.drop c1).length:=by rw[gA];omega
   have G:=aes K;have t:=aer K;have u:=OL kl;have hd:(s.drop c1)[k]=at8 s (c1+k):=by rw[afF];exact t
   rw[hd]at u;have t1:((c1:Int)+k).toNat=c1+k:=by omega
   have t2:(0:Int)<=(c1:Int)+k:=by omega
   have t3:(c1:Int)+k<s.length:=by omega
   simp(disch:=omega)[p,nK,oL,K,G,t,t1,t2,t3];refine aO (aCm _ h') ?_;rintro _ h'⟨rfl,rfl⟩
   try simp(disch:=omega)
   refine ND (by omega) (by simp;omega) v λv2 h5 U Q=>?_;have g5:=U.kR g (aa _);have l5:=U.1;obtain⟨L,M,O,ev⟩:=Q.sl;subst ev;simp(disch:=omega)[p,q2,j,q9,nK,oL,wrap64];refine⟨k+1,⟨by omega,g5,by omega,?_⟩,by omega⟩;rw[<-sy,u];exact Q.wide (by omega) (aa _)
  ·have Z:(s.drop c1).length<=k:=by rw[gA];omega
   rw[aY (by rw[bL];exact Z)]at v;have vo:=v.ints (by rw[bL,gA,cH];omega) (Vz _);have N:Vo h' E.length h'.length bU (.agg #[I (eU (s.take d)).1,I (eU ((s.take e).drop m)).1,q]) (DS s):=by rw[F];exact Vo.jF C D vo
   have vw:=N.wide l2 (aa _);have n:=gT.trans g;have lh:=n.le;obtain⟨L,M,O,ev⟩:=v.sl;subst ev;simp(disch:=omega);cases i:(eU (s.take d)).2
   ·have f:gU s=((0,0,[]),false):=Tj (by rw[o,i];rfl);rw[f];simp(disch:=omega)[q2,j,q9,nK,i,cY,cJ,cO,bD];exact⟨n,Vo.pW⟩
   cases l:(eU ((s.take e).drop m)).2
   ·have f:gU s=((0,0,[]),false):=Tj (by rw[o,i,l];rfl);rw[f];simp(disch:=omega)[q2,j,q9,nK,i,l,cY,cJ,cO,bD];exact⟨n,Vo.pW⟩
   simp(disch:=omega)[q2,j,q9,nK,i,l];refine aO (B7 _ (DS s) h' N.vr) ?_;rintro _ h'⟨rfl,rfl⟩;cases z:iv (DS s)
   ·have f:gU s=((0,0,[]),false):=Tj (by rw[o,i,l,z];rfl);rw[f];simp(disch:=omega)[q2,j,q9,nK,i,l,cY,cJ,cO,bD];exact⟨n,Vo.pW⟩
   simp(disch:=omega)[p,q2,j,q9,nK,i,l];refine aO (aCn _ (DS s) h' (by omega) N.vr (dK.1 z)) ?_;rintro _ h6⟨rfl,w⟩;by_cases A:nE (DS s)=s
   ·have f:gU s=(DS s,true):=awe (by rw[o,i,l,z];simp[A]);rw[f];simp(disch:=omega)[p,q2,j,q9,nK,A,cY,cJ,cO,bD];exact⟨n.trans w,(vw.grow w).wide (aa _) w.le⟩
   ·have f:gU s=((0,0,[]),false):=Tj (by rw[o,i,l,z];simp[A]);rw[f];simp(disch:=omega)[p,q2,j,q9,nK,A,cY,cJ,cO,bD];exact⟨n.trans w,Vo.pW⟩
theorem T5(h:a9)(x y dx dy:Int)(b:-100<=x∧x<=100)(a:-100<=y∧y<=100)(bd:-100<=dx∧dx<=100)(be:-100<=dy∧dy<=100):aN aE 459 [.agg #[I x,I y,I dx,I dy]] h λr h'=>r=.agg #[I (x+dx),I (y+dy)]∧h'=h:=by refine afq ?_;simp(disch:=omega)[wrap64,gV,bD]
theorem c58(h:a9)(x y dx dy:Int)(b:-100<=x∧x<=100)(a:-100<=y∧y<=100)(bd:-100<=dx∧dx<=100)(be:-100<=dy∧dy<=100):aN aE 58 [.agg #[I x,I y,I dx,I dy]] h λr h'=>r=.agg #[I (x+dx),I (y+dy)]∧h'=h:=by refine afq ?_;simp(disch:=omega)[wrap64,gV,bD]
theorem aC9(h:a9)(x y dx dy:Int)(b:-100<=x∧x<=100)(a:-100<=y∧y<=100)(bd:-100<=dx∧dx<=100)(be:-100<=dy∧dy<=100):aN aE 458 [.agg #[I x,I y,I dx,I dy]] h λr h'=>r=.tuple #[.agg #[I (if dx=1 then x else x+dx),I (if dx=1 then y else y+dy)],I (if dx=1 then y+dy else y)]∧h'=h:=by
 refine akV ?_;refine aQ (T5 h x y dx dy b a bd be) ?_;rintro _ h'⟨rfl,rfl⟩;simp(disch:=omega);refine aG (λe=>?_) (λe=>?_)
 ·simp(disch:=omega)[e,gV,bD,cY,cJ,cO]
 ·simp(disch:=omega)[e,gV,bD,cY,cJ,cO]
theorem ZA(h:a9)(v:Value)(X:bW)(x y:Int)(i:gY h v X)(ok:fg X):aN aE 446 [v,.agg #[I x,I y]] h λr h'=>r=B (decide (gr X.1.toNat X.2.1.toNat x y))∧h'=h:=by
 obtain⟨b,o,s,rfl,h1,c,_⟩:=i;obtain⟨w,j,_,_⟩:=ok;refine afq ?_;have w1:(X.1.toNat:Int)=X.1:=by omega
 have w2:(X.2.1.toNat:Int)=X.2.1:=by omega
 have n1:¬2*X.1=0:=by omega
 have n2:¬2*X.2.1=0:=by omega
 have n3:¬X.1=0:=by omega
 have d:¬X.2.1=0:=by omega
 by_cases a:x=0
 ·simp(disch:=omega)[h1,c,a,wrap64,gr,w1,w2,n1,n2,n3,d]
 by_cases e:y=0
 ·simp(disch:=omega)[h1,c,a,e,wrap64,gr,w1,w2,n1,n2,n3,d]
 by_cases f:x=2*X.1
 ·simp(disch:=omega)[h1,c,a,e,f,wrap64,gr,w1,w2,n1,n2,n3,d]
 by_cases g:y=2*X.2.1
 ·simp(disch:=omega)[h1,c,a,e,f,g,wrap64,gr,w1,w2,n1,n2,n3,d]
 simp(disch:=omega)[h1,c,a,e,f,g,wrap64,gr,w1,w2,n1,n2,n3,d]
theorem c34(h:a9)(W H x y:Int)(s:Value)(w:1<=W∧W<=8)(f:1<=H∧H<=8):aN aE 34 [.agg #[I W,I H,s],.agg #[I x,I y]] h λr h'=>r=B (decide (gr W.toNat H.toNat x y))∧h'=h:=by
 refine afq ?_;have w1:(W.toNat:Int)=W:=by omega
 have w2:(H.toNat:Int)=H:=by omega
 have n1:¬2*W=0:=by omega
 have n2:¬2*H=0:=by omega
 have n3:¬W=0:=by omega
 have b:¬H=0:=by omega
 by_cases a:x=0
 ·simp(disch:=omega)[a,wrap64,gr,w1,w2,n1,n2,n3,b]
 by_cases c:x=2*W
 ·simp(disch:=omega)[a,c,wrap64,gr,w1,w2,n1,n2,n3,b]
 by_cases d:y=0
 ·simp(disch:=omega)[a,c,d,wrap64,gr,w1,w2,n1,n2,n3,b]
 by_cases e:y=2*H
 ·simp(disch:=omega)[a,c,d,e,wrap64,gr,w1,w2,n1,n2,n3,b]
 simp(disch:=omega)[a,c,d,e,wrap64,gr,w1,w2,n1,n2,n3,b]
theorem ZE(h:a9)(v:Value)(X:bW)(x y dx dy:Int)(m:gY h v X)(ok:fg X)(hw:sj X.1.toNat X.2.1.toNat (x,y,dx,dy)):aN aE 460 [v,.agg #[I x,I y,I dx,I dy]] h λr h'=>r=I (kY X.2.1.toNat (x,y,dx,dy))∧h'=h:=by
 obtain⟨b,o,s,rfl,h1,d,_⟩:=m;obtain⟨w,l,_,_⟩:=ok;have j:=yy hw;obtain⟨⟨s1,s2⟩,B,C⟩:=Hh hw;obtain⟨i,f,u,q,z,t,A⟩:=hw;simp only at*;have w2:(X.2.1.toNat:Int)=X.2.1:=by omega
 have w1:(X.1.toNat:Int)=X.1:=by omega
 rw[w2]at j;rw[j];have n:=rX (x:=x) i;have p:=rX (x:=y) f;rw[n,p];obtain⟨H,k⟩:=aC X.2.1;rw[<-k]at d l q t ⊢;have g:∀a:Int,0<=a->a<=17->0<=a*(2*H)∧a*(2*H)<=17*(2*8):=λa h1 d=>⟨gq (by omega) (by omega),iB (by omega) (by omega) (by omega) (by omega)⟩;refine akV ?_;refine aQ (aC9 h x y dx dy (by omega) (by omega) (by omega) (by omega)) ?_;rintro _ h'⟨rfl,rfl⟩;rcases i with e|e<;>subst e
 ·have b1:=g x (by omega) (by omega);rcases f with c|c<;>subst c<;>simp(disch:=omega)[d,wrap64,kO]<;>refine aG (λe=>?_) (λe=>?_)<;>first|(exfalso;omega)|(simp(disch:=omega)[wrap64]<;>omega)
 ·have b1:=g (x+-1) (by omega) (by omega);have ex:x+-1=x-1:=by omega
  rw[ex]at b1;rcases f with c|c<;>subst c<;>simp(disch:=omega)[d,wrap64,kO,ex]<;>refine aG (λe=>?_) (λe=>?_)<;>first|(exfalso;omega)|(simp(disch:=omega)[wrap64,kO]<;>omega)
def wv(w:Wk):Value:=.agg #[I w.1,I w.2.1,I w.2.2.1,I w.2.2.2]
theorem ZG(h:a9)(v:Value)(X:bW)(x y dx dy:Int)(P:gY h v X)(ok:fg X)(hw:sj X.1.toNat X.2.1.toNat (x,y,dx,dy)):aN aE 461 [v,.agg #[I x,I y,I dx,I dy]] h λr h'=>r=wv (fK X.1.toNat X.2.1.toNat X.2.2 (x,y,dx,dy))∧h'=h:=by
 have L:=P;have F:=ok;obtain⟨b,o,s,rfl,h1,D,O,S,_⟩:=P;obtain⟨b2,o2,z2,rfl,_,hm,_,R⟩:=S.ints;obtain⟨w,hh,hn,_⟩:=ok;obtain⟨Z,d2,p1,p2,V,Y,p5⟩:=hw;simp only at*;have n1:¬2*X.1=0:=by omega
 have n2:¬2*X.2.1=0:=by omega
 have n3:¬X.1=0:=by omega
 have T:¬X.2.1=0:=by omega
 have w2:(X.2.1.toNat:Int)=X.2.1:=by omega
 have w1:(X.1.toNat:Int)=X.1:=by omega
 have w3:max X.1 0=X.1:=by omega
 have w4:max X.2.1 0=X.2.1:=by omega
 refine afq ?_;rw[aw,cy];generalize f:aP aE _ _ 0=K;simp(disch:=omega);subst f;simp only[aq];rw[aw,cy];generalize f:aP aE _ _ 0=K;simp(disch:=omega);refine aQ (T5 h x y dx dy (by omega) (by omega) (by omega) (by omega)) ?_;rintro _ h'⟨rfl,rfl⟩;simp(disch:=omega);subst f;simp only[aq];rw[aw,cy];generalize f:aP aE _ _ 0=K;simp(disch:=omega);obtain⟨nx,Q⟩:=aC (x+dx);obtain⟨ny,m⟩:=aC (y+dy);have es:wv (fK X.1.toNat X.2.1.toNat X.2.2 (x,y,dx,dy))=.agg #[I nx,I ny,I (if nx=0∨nx=2*X.1∨fZ X.1.toNat X.2.1.toNat X.2.2 nx ny=1 then -dx else dx),I (if ny=0∨ny=2*X.2.1∨fZ X.1.toNat X.2.1.toNat X.2.2 nx ny=2 then -dy else dy)]:=by simp only[fK,wv,Q,m,w1,w2]
 rw[es]at f;rw[<-Q]at V ⊢;rw[<-m]at Y ⊢;have n:=ZA h' (pt b o) X nx ny L F;obtain⟨k,B⟩:=aC (fZ X.1.toNat X.2.1.toNat X.2.2 nx ny);rw[<-B]at f;subst f;simp only[aq];rw[aw];generalize f:aP aE _ _=K;have key:∀a:Nat->Value,a 0=pt b o->a 4=.agg #[I 0,I 0,I 0,I 0]->a 5=.agg #[I nx,I ny]->a 6=.agg #[I nx,I ny,I (if nx=0∨nx=2*X.1 then -dx else dx),I dy]->K 0 a h':=by
  intro σ g l i j;subst f;simp only[aq];rw[aw];generalize f:aP aE _ _=K;have q:∀a:Nat->Value,a 0=pt b o->a 4=.agg #[I 0,I 0,I 0,I 0]->a 5=.agg #[I nx,I ny]->a 6=.agg #[I nx,I ny,I (if nx=0∨nx=2*X.1 then -dx else dx),I (if ny=0∨ny=2*X.2.1 then -dy else dy)]->K 0 a h':=by
   intro σ g l i j;subst f;simp only[aq];by_cases E:gr X.1.toNat X.2.1.toNat nx ny
   ·have k0:k=0:=by rw[B];exact wG E
    rw[decide_eq_true E]at n;simp(disch:=omega)[g,i];refine aQ n ?_;rintro _ N⟨rfl,rfl⟩;simp(disch:=omega)[l,j,k0,gV,bD]
   ·have G:¬(nx=0∨nx=2*X.1∨ny=0∨ny=2*X.2.1):=by intro e;apply E;unfold gr;rw[w1,w2];exact e
    have c:¬(nx=0∨nx=2*X.1):=λe=>G (by rcases e with e|e;exact .inl e;exact .inr (.inl e));have d:¬(ny=0∨ny=2*X.2.1):=λe=>G (by rcases e with e|e;exact .inr (.inr (.inl e));exact .inr (.inr (.inr e)));rw[decide_eq_false E]at n;rw[if_neg c,if_neg d]at j;have C:k=fi X.2.2 (jd X.1.toNat nx.toNat ny.toNat):=by rw[B];exact if_neg E
    have t:¬nx=0:=λe=>c (.inl e);have u:¬nx=2*X.1:=λe=>c (.inr e);have z:¬ny=0:=λe=>d (.inl e);have A:¬ny=2*X.2.1:=λe=>d (.inr e);have b1:(nx.toNat:Int)=nx:=by omega
    have U:(ny.toNat:Int)=ny:=by omega
    have p:=Cp (W:=X.1.toNat) (H:=X.2.1.toNat) (x:=nx.toNat) (y:=ny.toNat) (by omega) (by omega) (by omega);have hl:jW X.1.toNat (2*X.2.1.toNat)=X.2.2.length:=by have:=M4 (W:=X.1.toNat) (by omega) (H:=X.2.1.toNat) (by omega) (by omega) (by omega);rw[w1,w2]at this;have O:inner X.1 X.2.1=X.1*(X.2.1-1)+X.2.1*(X.1-1):=rfl;omega
    rw[hl]at p;have M:=eG R p;rw[<-ng p,<-C]at M;have J:=PX h' (pt b o) X X.1.toNat nx.toNat ny.toNat L w1.symm (by omega) (by omega) (by omega) (by omega);rw[b1,U]at J;simp(disch:=omega)[g,i];refine aQ n ?_;rintro _ N⟨rfl,rfl⟩;simp(disch:=omega)[g,i,O];refine aQ J ?_;rintro _ N⟨rfl,rfl⟩;simp(disch:=omega)[p,M];refine⟨ae.refl _,?_⟩;refine aG (λf1=>?_) (λf1=>?_)
    ·simp(disch:=omega)[l,j,f1,t,u,z,A,wrap64,gV,bD]
    ·simp(disch:=omega);refine aG (λf2=>?_) (λf2=>?_)
     ·simp(disch:=omega)[l,j,f1,f2,t,u,z,A,wrap64,gV,bD]
     ·simp(disch:=omega)[l,j,f1,f2,t,u,z,A,wrap64,gV,bD]
  by_cases c:ny=0
  ·simp(disch:=omega)[g,i,j,D,wrap64,c];exact q _ (by simp[g]) (by simp[l]) (by simp[i,c]) (by simp[c])
  by_cases d:ny=2*X.2.1
  ·simp(disch:=omega)[g,i,j,D,wrap64,c,d,n2,T];exact q _ (by simp[g]) (by simp[l]) (by simp[i,d]) (by simp[d])
  simp(disch:=omega)[g,i,j,D,wrap64,c,d];exact q _ (by simp[g]) (by simp[l]) (by simp[i]) (by simp[j,c,d])
 by_cases c:nx=0
 ·simp(disch:=omega)[h1,wrap64,c];exact key _ (by simp) (by simp) (by simp[c]) (by simp[c])
 by_cases d:nx=2*X.1
 ·simp(disch:=omega)[h1,wrap64,c,d,n1,n3];exact key _ (by simp) (by simp) (by simp[d]) (by simp[d])
 simp(disch:=omega)[h1,wrap64,c,d];exact key _ (by simp) (by simp) (by simp) (by simp[c,d])
theorem c51(h:a9)(W H:Int)(s:Value)(w:1<=W∧W<=8)(c:1<=H∧H<=8):aN aE 51 [.agg #[I W,I H,s]] h λr h'=>r=I (4*W.toNat*H.toNat:Nat)∧h'=h:=by
 have b:0<=W*H∧W*H<=8*8:=⟨gq (by omega) (by omega),iB (by omega) (by omega) (by omega) (by omega)⟩;have w1:(W.toNat:Int)=W:=by omega
 have w2:(H.toNat:Int)=H:=by omega
 have w3:max W 0=W:=by omega
 have a:max H 0=H:=by omega
 refine afq ?_;simp(disch:=omega)[wrap64,kO,w1,w2,w3,a]
theorem c50(h:a9)(W H:Int)(s:Value)(x y dx dy:Int)(w:1<=W∧W<=8)(j:1<=H∧H<=8)(hw:sj W.toNat H.toNat (x,y,dx,dy)):aN aE 50 [.agg #[I W,I H,s],.agg #[I x,I y,I dx,I dy]] h λr h'=>r=I (kY H.toNat (x,y,dx,dy))∧h'=h:=by
 have b:=yy hw;obtain⟨⟨s1,s2⟩,p,q⟩:=Hh hw;obtain⟨f,g,k,l,m,n,o⟩:=hw;simp only at*;have w2:(H.toNat:Int)=H:=by omega
 have w1:(W.toNat:Int)=W:=by omega
 rw[w2]at b;rw[b];have c:∀a:Int,0<=a->a<=17->0<=a*(2*H)∧a*(2*H)<=17*(2*8):=λa h1 i=>⟨gq (by omega) (by omega),iB (by omega) (by omega) (by omega) (by omega)⟩;have d:I4 [I x,I (x+dx)]=some (I (rW x (x+dx))):=by
  show some (I (if x+dx<x then x+dx else x))=_
  congr 2;unfold rW;split<;>split<;>omega
 have e:I4 [I y,I (y+dy)]=some (I (rW y (y+dy))):=by
  show some (I (if y+dy<y then y+dy else y))=_
  congr 2;unfold rW;split<;>split<;>omega
 have b1:=c (rW x (x+dx)) (by omega) (by omega);refine akV ?_;refine aQ (c58 h x y dx dy (by omega) (by omega) (by omega) (by omega)) ?_;rintro _ h'⟨rfl,rfl⟩;simp(disch:=omega)[wrap64,kO,d,e]
theorem c56(h:a9)(W H:Int)(s:Value)(k:Nat)(w:1<=W∧W<=8)(g:1<=H∧H<=8)(i:k<4*W.toNat*H.toNat):aN aE 56 [.agg #[I W,I H,s],I k] h λr h'=>r=wv (qw H.toNat k)∧h'=h:=by
 have w2:(H.toNat:Int)=H:=by omega
 have b:k<256:=by have:4*W.toNat*H.toNat<=4*8*8:=dh (by omega) (by omega);omega
 have t1:(k:Int).tdiv (2*H)=((k/(2*H.toNat):Nat):Int):=by rw[show(2*H:Int)=((2*H.toNat:Nat):Int)by omega];rfl
 have c:(k:Int).tmod (2*H)=((k%(2*H.toNat):Nat):Int):=by rw[show(2*H:Int)=((2*H.toNat:Nat):Int)by omega];rfl
 have q1:k/(2*H.toNat)<=256:=by have:=pD k (2*H.toNat);omega
 have q2:k%(2*H.toNat)<2*H.toNat:=kL _ (by omega);have h0:¬2*H=0:=by omega
 have d:¬H=0:=by omega
 unfold qw;obtain⟨q,eq⟩:=aC (k/(2*H.toNat));obtain⟨r,f⟩:=aC (k%(2*H.toNat));rw[<-eq]at t1 q1 ⊢;rw[<-f]at c q2 ⊢;have a:((q:Int)+r).tmod 2=(((q+r)%2:Nat):Int):=rfl;refine afq ?_;simp(disch:=omega)[wrap64,t1,c,h0,d];by_cases e:(q+r)%2=1
 ·rw[if_pos e];have a:((q:Int)+r).tmod 2=1:=by rw[a,e];rfl
  simp(disch:=omega)[a,wrap64,gV,bD,wv]
 ·rw[if_neg e];have a:¬((q:Int)+r).tmod 2=1:=by rw[a];omega
  simp(disch:=omega)[a,wrap64,gV,bD,wv]
theorem c54(h:a9)(W H:Int)(br:List Int)(s:Value)(x y dx dy:Int)(ok:fg (W,H,br))(N:Vr h cZ s br)(hw:sj W.toNat H.toNat (x,y,dx,dy)):aN aE 54 [.agg #[I W,I H,s],.agg #[I x,I y,I dx,I dy]] h λr h'=>(∃t,r=.tuple #[wv (fK W.toNat H.toNat br (x,y,dx,dy)),B t])∧h'=h:=by
 obtain⟨b2,o2,z2,rfl,_,hm,_,L⟩:=N.ints;obtain⟨w,M,hn,_⟩:=ok;obtain⟨S,T,V,X,P,Q,Y⟩:=hw;simp only at*;have n1:¬2*W=0:=by omega
 have n2:¬2*H=0:=by omega
 have n3:¬W=0:=by omega
 have A:¬H=0:=by omega
 have w2:(H.toNat:Int)=H:=by omega
 have w1:(W.toNat:Int)=W:=by omega
 refine afq ?_;rw[aw,cy];generalize g:aP aE _ _ 0=K;simp(disch:=omega);subst g;simp only[aq];rw[aw,cy];generalize g:aP aE _ _ 0=K;simp(disch:=omega);refine aQ (c58 h x y dx dy (by omega) (by omega) (by omega) (by omega)) ?_;rintro _ h'⟨rfl,rfl⟩;simp(disch:=omega);subst g;simp only[aq];rw[aw,cy];generalize g:aP aE _ _ 0=K;simp(disch:=omega);subst g;simp only[aq];rw[aw,cy];generalize g:aP aE _ _ 0=K;simp(disch:=omega);obtain⟨nx,J⟩:=aC (x+dx);obtain⟨ny,o⟩:=aC (y+dy);have es:wv (fK W.toNat H.toNat br (x,y,dx,dy))=.agg #[I nx,I ny,I (if nx=0∨nx=2*W∨fZ W.toNat H.toNat br nx ny=1 then -dx else dx),I (if ny=0∨ny=2*H∨fZ W.toNat H.toNat br nx ny=2 then -dy else dy)]:=by simp only[fK,wv,J,o,w1,w2]
 rw[es]at g;rw[<-J]at P ⊢;rw[<-o]at Q ⊢;have q:=c34 h' W H nx ny (sl b2 o2 br.length z2) w M;obtain⟨k,v⟩:=aC (fZ W.toNat H.toNat br nx ny);rw[<-v]at g;subst g;simp only[aq];rw[aw];generalize g:aP aE _ _=K;have key:∀a:Nat->Value,a 2=.agg #[I W,I H,sl b2 o2 br.length z2]->a 3=.agg #[I x,I y,I dx,I dy]->a 4=.agg #[I 0,I 0,I 0,I 0]->a 6=.agg #[I nx,I ny]->a 7=.agg #[I nx,I ny,I dx,I dy]->a 8=I k->K 0 a h':=by
  intro σ q2 b c j i l;subst g;simp only[aq];rw[aw];generalize g:aP aE _ _=K;have p:∀a:Nat->Value,a 2=.agg #[I W,I H,sl b2 o2 br.length z2]->a 3=.agg #[I x,I y,I dx,I dy]->a 4=.agg #[I 0,I 0,I 0,I 0]->a 6=.agg #[I nx,I ny]->a 7=.agg #[I nx,I ny,I (if nx=0∨nx=2*W∨k=1 then -dx else dx),I dy]->a 8=I k->K 0 a h':=by
   intro σ q2 b c j i l;subst g;simp only[aq];rw[aw];generalize g:aP aE _ _=K;have n:∀a:Nat->Value,a 3=.agg #[I x,I y,I dx,I dy]->a 4=.agg #[I 0,I 0,I 0,I 0]->a 7=.agg #[I nx,I ny,I (if nx=0∨nx=2*W∨k=1 then -dx else dx),I (if ny=0∨ny=2*H∨k=2 then -dy else dy)]->K 0 a h':=by
    intro σ b c i;subst g;simp only[aq];generalize (if nx=0∨nx=2*W∨k=1 then -dx else dx)=D at*;generalize (if ny=0∨ny=2*H∨k=2 then -dy else dy)=E at*;by_cases d:D=dx
    ·by_cases f:E=dy
     ·simp(disch:=omega)[b,c,i,d,f,cY,cJ,cO,bD]
     ·simp(disch:=omega)[b,c,i,d,f,cY,cJ,cO,bD]
    ·simp(disch:=omega)[b,c,i,d,cY,cJ,cO,bD]
   by_cases d:ny=0
   ·simp(disch:=omega)[q2,b,c,j,i,l,wrap64,d];exact n _ (by simp[b]) (by simp[c]) (by simp[d])
   by_cases f:ny=2*H
   ·simp(disch:=omega)[q2,b,c,j,i,l,wrap64,d,f,n2,A];exact n _ (by simp[b]) (by simp[c]) (by simp[f])
   by_cases m:k=2
   ·simp(disch:=omega)[q2,b,c,j,i,l,wrap64,d,f,m,n2,A];exact n _ (by simp[b]) (by simp[c]) (by simp[m])
   simp(disch:=omega)[q2,b,c,j,i,l,wrap64,d,f,m,n2,A];exact n _ (by simp[b]) (by simp[c]) (by simp[i,d,f,m])
  by_cases d:nx=0
  ·simp(disch:=omega)[q2,b,c,j,i,l,wrap64,d];exact p _ (by simp[q2]) (by simp[b]) (by simp[c]) (by simp[j,d]) (by simp[d]) (by simp[l])
  by_cases f:nx=2*W
  ·simp(disch:=omega)[q2,b,c,j,i,l,wrap64,d,f,n1,n3];exact p _ (by simp[q2]) (by simp[b]) (by simp[c]) (by simp[j,f]) (by simp[f]) (by simp[l])
  by_cases m:k=1
  ·simp(disch:=omega)[q2,b,c,j,i,l,wrap64,d,f,m,n1,n3];exact p _ (by simp[q2]) (by simp[b]) (by simp[c]) (by simp[j]) (by simp[m]) (by simp[l,m])
  simp(disch:=omega)[q2,b,c,j,i,l,wrap64,d,f,m,n1,n3];exact p _ (by simp[q2]) (by simp[b]) (by simp[c]) (by simp[j]) (by simp[i,d,f,m]) (by simp[l])
 by_cases E:gr W.toNat H.toNat nx ny
 ·have k0:k=0:=by rw[v];exact wG E
  rw[decide_eq_true E]at q;simp(disch:=omega);refine aQ q ?_;rintro _ G⟨rfl,rfl⟩;simp(disch:=omega);exact key _ (by simp) (by simp) (by simp) (by simp) (by simp) (by simp[k0])
 ·have z:k=fi br (jd W.toNat nx.toNat ny.toNat):=by rw[v];exact if_neg E
  have R:¬(nx=0∨nx=2*W∨ny=0∨ny=2*H):=by intro e;apply E;unfold gr;rw[w1,w2];exact e
  rw[decide_eq_false E]at q;have b1:(nx.toNat:Int)=nx:=by omega
  have O:(ny.toNat:Int)=ny:=by omega
  have u:=Cp (W:=W.toNat) (H:=H.toNat) (x:=nx.toNat) (y:=ny.toNat) (by omega) (by omega) (by omega);have hl:jW W.toNat (2*H.toNat)=br.length:=by have:=M4 (W:=W.toNat) (by omega) (H:=H.toNat) (by omega) (by omega) (by omega);rw[w1,w2]at this;have U:inner W H=W*(H-1)+H*(W-1):=rfl;omega
  rw[hl]at u;have F:=eG L u;rw[<-ng u,<-z]at F;have C:=XE h' W.toNat H.toNat nx.toNat ny.toNat (sl b2 o2 br.length z2) (by omega) (by omega) (by omega) (by omega) (by omega);rw[b1,O,w1,w2]at C;simp(disch:=omega);refine aQ q ?_;rintro _ G⟨rfl,rfl⟩;simp(disch:=omega);refine aQ C ?_;rintro _ G⟨rfl,rfl⟩;simp(disch:=omega)[u,F];exact key _ (by simp) (by simp) (by simp) (by simp) (by simp) (by simp)
def Ht(v w:Value):Prop:=∀b c n m z y,v=sl b 0 n z->w=sl c 0 m y->b=c->b=0
theorem Ht.symm{v w:Value}(a:Ht v w):Ht w v:=λb c n m z y h1 d e=>by
 have:=a c b m n y z d h1 e.symm;omega
theorem Zk{d B0 h:a9}{v x:Value}{z:Nat}{cs new:List Value}{k:Value->a9->Prop}(hp:0<B0.length)(g:ae d h)(y:d.length<=B0.length)(r:B0.length<=h.length)(t:bP B0 h v z cs)(hn:cR z h x=some new)(u:0<z)(l:new≠[])(hm:new.length/z*z=new.length)
  (q:cs.length+new.length<=maxSize) (m:∀o h',ae d h'->h.length<h'.length->o*z=(cs++new).length->h'[h.length]?=some ⟨cs++new,true⟩->(∀c a,h[c]?=some a->(∀n,v≠sl c 0 n z)->h'[c]?=some a)->k (sl h.length 0 o z) h'):gE (cu z h x v) k:=by
 rcases t with⟨rfl,rfl⟩|⟨b,n,rfl,f,w,i⟩
 ·have e:cu z h x (sl 0 0 0 z)=some (sl h.length 0 (new.length/z) z,h++[⟨new,true⟩]):=by simp only[cu,hn];rw[if_neg (by omega),if_neg l,if_neg (by simp at q;omega),if_pos trivial]
  rw[e];exact m _ _ (g.push _) (by simp) hm (by simp) λc a j _=>xq j
 ·have s:n<=cs.length:=by rw[<-f];exact fL n u
  have e:cu z h x (sl b 0 n z)=some (sl h.length 0 (n+new.length/z) z,h.set b ⟨[],false⟩++[⟨cs++new,true⟩]):=by simp only[cu,hn];rw[if_neg (by omega),if_neg l,if_neg (by omega),if_neg (by omega)];simp only[i];rw[if_pos ⟨trivial,trivial⟩,cI i f]
  rw[e];have A:=bZ i;refine m _ _ ((g.put (by omega) _).push _) (by simp) (by rw[cX,hm,f];simp) (by simp) λc a j p=>?_;exact xq (Pm j λe=>p n (by rw[e]))
theorem bP.ajm{B0 h h':a9}{v w:Value}{z y:Nat}{cs:List Value}(hp:0<B0.length)(hw:bP B0 h w y cs)(a:Ht v w)(fr:∀c d,h[c]?=some d->(∀n,v≠sl c 0 n z)->h'[c]?=some d):bP B0 h' w y cs:=by
 rcases hw with⟨rfl,rfl⟩|⟨b,n,rfl,f,g,i⟩
 ·exact .inl ⟨rfl,rfl⟩
 ·refine .inr ⟨b,n,rfl,f,g,fr b _ i λm e=>?_⟩;have:=a b b m n z y e rfl rfl;omega
theorem amN{B0 h h':a9}{n z:Nat}{cs:List Value}(a:B0.length<=h.length)(hn:n*z=cs.length)(b:h'[h.length]?=some ⟨cs,true⟩):bP B0 h' (sl h.length 0 n z) z cs:=.inr ⟨h.length,n,rfl,hn,a,b⟩
theorem aoP(h:a9)(v:Value)(X:bW)(k:Nat)(D:gY h v X)(ok:fg X)(C:k<4*X.1.toNat*X.2.1.toNat):aN aE 462 [v,I k] h λr h'=>r=wv (qw X.2.1.toNat k)∧h'=h:=by
 obtain⟨b,o,s,rfl,h1,p,E,F,_⟩:=D;obtain⟨w,B,hn,_⟩:=ok;obtain⟨H,A⟩:=aC X.2.1;rw[<-A]at p B C ⊢;have w2:(H.toNat:Int)=H:=by omega
 have b0:k<256:=by have:4*X.1.toNat*H.toNat<=4*8*8:=dh (by omega) (by omega);omega
 have g:H*2=((2*H.toNat:Nat):Int):=by omega
 have t1:(k:Int).tdiv (H*2)=((k/(2*H.toNat):Nat):Int):=by rw[g];rfl
 have m:(k:Int).tmod (H*2)=((k%(2*H.toNat):Nat):Int):=by rw[g];rfl
 have f1:(k:Int)/(2*H)=((k/(2*H.toNat):Nat):Int):=by rw[sZ,g];rfl
 have f2:(k:Int)%(2*H)=((k%(2*H.toNat):Nat):Int):=by rw[sZ,g];rfl
 have q1:k/(2*H.toNat)<=256:=by have:=pD k (2*H.toNat);omega
 have q2:k%(2*H.toNat)<2*H.toNat:=kL _ (by omega);have h0:¬H*2=0:=by omega
 have u:¬H=0:=by omega
 unfold qw;obtain⟨q,eq⟩:=aC (k/(2*H.toNat));obtain⟨r,z⟩:=aC (k%(2*H.toNat));rw[<-eq]at t1 f1 q1 ⊢;rw[<-z]at m f2 q2 ⊢;refine ag8 λK f=>?_;refine f ?_;refine bg λK f=>?_;simp(disch:=omega)[p,wrap64,t1,f1,h0,u];refine f ?_;refine bg λK f=>?_;simp(disch:=omega)[p,wrap64,m,f2,h0,u];have key:∀σ:Nat->Value,σ 4=.agg #[I 0,I 0,I 0,I 0]->σ 5=I q->σ 6=I r->K σ h:=by
  clear eq z t1 m f1 f2;intro σ i j l;refine f ?_;have c:(q:Int).tmod 2=((q%2:Nat):Int):=rfl;have a:(r:Int).tmod 2=((r%2:Nat):Int):=rfl;have n:(r:Int).tdiv 2=((r/2:Nat):Int):=rfl;have t:((r:Int)+1).tdiv 2=(((r+1)/2:Nat):Int):=rfl;by_cases e:q%2=0
  ·have c:(q:Int).tmod 2=0:=by rw[c,e];rfl
   by_cases y:r%2=0
   ·have a:(r:Int).tmod 2=0:=by rw[a,y];rfl
    rw[if_neg (by omega)];have d:(r:Int).tdiv 2*2+1=r+1:=by rw[n];omega
    have x:0<=(r:Int).tdiv 2∧(r:Int).tdiv 2<=100:=by rw[n];omega
    simp(disch:=omega)[i,j,l,wrap64,c,a,d,gV,bD,wv]
    try omega
   ·have a:(r:Int).tmod 2=1:=by rw[a];omega
    rw[if_pos (by omega)];have d:(r:Int).tdiv 2*2+1=r:=by rw[n];omega
    have x:0<=(r:Int).tdiv 2∧(r:Int).tdiv 2<=100:=by rw[n];omega
    simp(disch:=omega)[i,j,l,wrap64,c,a,d,gV,bD,wv]
    try omega
  ·have c:¬(q:Int).tmod 2=0:=by rw[c];omega
   have x:0<=((r:Int)+1).tdiv 2∧((r:Int)+1).tdiv 2<=100:=by rw[t];omega
   by_cases y:r%2=0
   ·have a:¬(r:Int).tmod 2=1:=by rw[a];omega
    have d:((r:Int)+1).tdiv 2*2=r:=by rw[t];omega
    rw[if_pos (by omega)];simp(disch:=omega)[i,j,l,wrap64,c,a,d,gV,bD,wv]
    try omega
   ·have a:(r:Int).tmod 2=1:=by rw[a];omega
    have d:((r:Int)+1).tdiv 2*2=r+1:=by rw[t];omega
    rw[if_neg (by omega)];simp(disch:=omega)[i,j,l,wrap64,c,a,d,gV,bD,wv]
    try omega
 refine key _ (by simp) (by simp) ?_;simp;rw[sZ];exact m
theorem AU{d B0 h:a9}{v:Value}{z:Nat}{cs new:List Value}{k:Value->a9->Prop}(hp:0<B0.length)(g:ae d h)(r:d.length<=B0.length)(s:B0.length<=h.length)(w:bP B0 h v z cs)(hl:new.length=z)(l:0<z)(A:cs.length+z<=maxSize)
  (u:∀i h',ae d h'->h.length<=h'.length->bP B0 h' i z (cs++new)->(∀b n y,i=sl b 0 n y->h.length<b)->(∀c a,h[c]?=some a->(∀n,v≠sl c 0 n z)->h'[c]?=some a)->k i h'):gE (cu z (h++[⟨new,true⟩]) (sl h.length 0 1 z) v) k:=by
 have j:ae h (h++[⟨new,true⟩]):=⟨_,rfl⟩;have p:new≠[]:=by intro e;rw[e]at hl;simp at hl;omega
 have hn:cR z (h++[⟨new,true⟩]) (sl h.length 0 1 z)=some new:=by simp[cR];rw[fB (k:=⟨new,true⟩) (by simp) (by simp;omega)];simp[<-hl]
 refine Zk hp (g.trans j) r (by simp;omega) (w.grow j) hn l p (by rw[hl,Nat.div_self l];omega) (by omega) ?_;intro B h' q o x t fr;refine u _ h' q (by simp at o;omega) (amN (by simp;omega) x t) ?_ ?_
 ·intro b n y e;simp[sl]at e;omega
 ·intro c a f m;exact fr c a (xq f) m
theorem Mn{B0 h:a9}{v w:Value}{y:Nat}{cs:List Value}(hp:0<B0.length)(hw:bP B0 h w y cs)(a:∀b n y,v=sl b 0 n y->h.length<b):Ht v w:=by
 intro b c n1 m z1 y1 h1 d e;have:=a b n1 z1 h1;rcases hw with⟨rfl,rfl⟩|⟨b2,n2,rfl,_,_,f⟩
 ·grind
 ·grind
def yS(f:Wk->Wk)(H:Nat)(w:Wk)(k:Nat):List Int:=(List.range k).map λj=>(kY H (dP f j w):Int)
theorem bP.ne{B0 h:a9}{v:Value}{z y c:Nat}{cs:List Value}(x:bP B0 h v z cs)(h0:0<c)(f:c<B0.length):∀n,v≠sl c 0 n y:=by
 intro n e;rcases x with⟨_,a⟩|⟨b,m,a,_,d,_⟩
 ·grind
 ·grind
theorem bP.put{B0 h:a9}{v:Value}{z c:Nat}{cs:List Value}{k:mm}(x:bP B0 h v z cs)(i:c<B0.length):bP B0 (h.set c k) v z cs:=by
 rcases x with⟨d,a⟩|⟨b,m,a,e,f,g⟩
 ·exact .inl ⟨d,a⟩
 ·exact .inr ⟨b,m,a,e,f,Pm g (by omega)⟩
theorem bP.nw{B0 h:a9}{v:Value}{cs:List Value}(x:bP B0 h v 1 cs):∃b,v=sl b 0 cs.length 1:=by
 rcases x with⟨c,a⟩|⟨b,m,a,d,e,f⟩
 ·grind
 ·grind
theorem bP.Jc{B0 h:a9}{b n:Nat}{cs:List Value}(x:bP B0 h (sl b 0 n 1) 1 cs){i:Nat}(hi:i<cs.length):cell h b i=some cs[i]:=by
 rcases x with⟨c,a⟩|⟨b',m,a,e,f,d⟩
 ·subst c;simp at hi
 ·simp[sl]at a;obtain⟨rfl,rfl⟩:=a;exact i9 d (by simp[hi])
theorem aeg(w:Wk):wv w=.agg #[I w.1,I w.2.1,I w.2.2.1,I w.2.2.2]:=rfl
section
variable {α : Type} {f R : α -> α} {seg : α -> Nat} {V : α -> Prop} {N : Nat}
noncomputable def gW(f:α->α)(seg:α->Nat)(wk:Nat->α)(N:Nat):Nat->List Nat
 |0=>[]
 |k+1=>if 0<=fi (dg f seg wk N k).1 k then gW f seg wk N k else gW f seg wk N k++[k]
def nP(f:α->α)(w:α)(n:Nat):List α:=(List.range n).map λj=>dP f j w
theorem Fb{w:α}{n:Nat}:(nP f w n).length=n:=by simp[nP]
theorem Kp{w:α}{n:Nat}:nP f w (n+1)=nP f w n++[dP f n w]:=by simp[nP,dN]
noncomputable def uh(f:α->α)(seg:α->Nat)(wk:Nat->α)(N k:Nat):List (List α):=(gW f seg wk N k).map λs=>nP f (wk s) (im f (wk s))
theorem zY(f:α->α)(seg:α->Nat)(wk:Nat->α)(N:Nat):∀k,(gW f seg wk N k).length=(dg f seg wk N k).2
 |0=>rfl
 |k+1=>by
  have ih:=zY f seg wk N k;simp only[gW,dg];split
  ·exact ih
  ·simp[ih]
theorem WZ{wk:Nat->α}{k:Nat}:(uh f seg wk N k).length=(dg f seg wk N k).2:=by simp[uh,zY]
theorem Yt{w:α}{n:Nat}(h:dP f n w=w):∀q,dP f (n*q) w=w
 |0=>rfl
 |q+1=>by rw[Nat.mul_succ,Ck,Yt h q,h]
theorem Ys{w:α}{n:Nat}(h:dP f n w=w)(m:Nat):dP f m w=dP f (m%n) w:=by
 conv=>lhs;rw[<-afD m n]
 rw[Ck,Yt h]
structure aki (f:α->α) (seg:α->Nat) (wk:Nat->α) (N k:Nat):Prop where
 all:∀j,j<k->0<=fi (dg f seg wk N k).1 j
 lt:∀s,s<N->fi (dg f seg wk N k).1 s<(dg f seg wk N k).2
 st:∀i (hi:i<(gW f seg wk N k).length),(gW f seg wk N k)[i]<k∧(∀j,j<(gW f seg wk N k)[i]->fi (dg f seg wk N k).1 j≠i)
 on:∀i (hi:i<(gW f seg wk N k).length) m,fi (dg f seg wk N k).1 (seg (dP f m (wk (gW f seg wk N k)[i])))=i
theorem lH.owned(a:lH f R seg V N){wk:Nat->α}(hw:∀k,k<N->V (wk k))(x:∀k,k<N->seg (wk k)=k):∀k,k<=N->aki f seg wk N k
 |0,_=>by
  refine⟨by simp,λs h=>?_,λi hi=>?_,λi hi=>?_⟩
  ·simp[dg,fi,aA,jZ,h]
  ·simp[gW]at hi
  ·simp[gW]at hi
 |k+1,H=>by
  have ih:=lH.owned a hw x k (by omega);obtain⟨s1,s2,E⟩:=a.st hw k (by omega);have hl:=zY f seg wk N k;obtain⟨p,g,l,r⟩:=ih;by_cases h0:0<=fi (dg f seg wk N k).1 k
  ·have b:dg f seg wk N (k+1)=dg f seg wk N k:=by simp only[dg];rw[if_pos h0]
   have e:gW f seg wk N (k+1)=gW f seg wk N k:=by simp only[gW];rw[if_pos h0]
   refine⟨?_,?_,?_,?_⟩
   ·rw[b];intro j d;by_cases q:j=k
    ·rw[q];exact h0
    ·exact p j (by omega)
   ·rw[b];exact g
   ·simp only[b,e];intro i hi;have:=l i hi;exact⟨by omega,this.2⟩
   ·simp only[b,e];exact r
  ·obtain⟨O,u⟩:=aC ((dg f seg wk N k).1);obtain⟨c,w⟩:=aC ((dg f seg wk N k).2);have b:dg f seg wk N (k+1)=(oY f seg (wk k) c O (im f (wk k)),c+1):=by simp only[dg];rw[if_neg h0,u,w]
   have e:gW f seg wk N (k+1)=gW f seg wk N k++[k]:=by simp only[gW];rw[if_neg h0]
   rw[<-u]at h0 s1 s2 p g l r;rw[<-w]at hl g E;obtain⟨S,v⟩:=aC (gW f seg wk N k);rw[<-v]at hl e;simp only[<-v]at l r;have o:=hw k (by omega);have y:=x k (by omega);obtain⟨A,I,C,J⟩:=a.Bz o;obtain⟨D,K⟩:=a.run o (c:=(c:Int)) (by omega) s1 s2 (by rw[y];omega);have pa:∀s,s<N->fi (oY f seg (wk k) c O (im f (wk k))) s=if ∃j,j<im f (wk k)∧seg (dP f j (wk k))=s then(c:Int)else fi O s:=λs h=>yu (by rw[s1];exact h) _;have free:∀m,m<im f (wk k)->fi O (seg (dP f m (wk k)))<0:=by
    intro m hm;have h1:=D m hm;rw[yu (by rw[s1];exact a.lt _ (a.vi o m))]at h1;split at h1
    ·omega
    ·exact h1
   have z:∀s,0<=fi O s->¬∃j,j<im f (wk k)∧seg (dP f j (wk k))=s:=by rintro s h⟨j,d,rfl⟩;have:=free j d;omega
   refine⟨?_,?_,?_,?_⟩
   ·rw[b];intro j d;simp only;rw[pa j (by omega)];split
    ·omega
    ·rename_i hn;by_cases q:j=k
     ·exact absurd ⟨0,A,by rw[q];exact y⟩ hn
     ·exact p j (by omega)
   ·rw[b];intro s h;simp only;rw[pa s h];split
    ·omega
    ·have:=g s h;omega
   ·simp only[b,e];intro i hi;rw[o9];split
    ·rename_i n;obtain⟨F,B⟩:=l i n;refine⟨by omega,λj d=>?_⟩;rw[pa j (by omega)];split
     ·omega
     ·exact B j d
    ·have t:i=c:=by simp at hi;omega
     subst t;simp only[gG];refine⟨by omega,λj d=>?_⟩;rw[pa j (by omega),if_neg (z j (p j d))];have:=g j (by omega);omega
   ·simp only[b,e];intro i hi m;rw[o9];split
    ·rename_i n;have h1:=r i n m;have G:=(l i n).1;rw[pa _ (a.lt _ (a.vi (hw _ (by omega)) m)),if_neg (z _ (by omega)),h1]
    ·have t:i=c:=by simp at hi;omega
     subst t;simp only[gG];rw[pa _ (a.lt _ (a.vi o m)),if_pos];exact⟨m%im f (wk k),kL _ A,by rw[<-Ys C]⟩
end
end Am

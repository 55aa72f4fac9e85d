/- Contracts of functions. -/
import Derived.Test.YtpgioncclmancaaGreatPK12
set_option linter.unusedVariables false
set_option linter.unusedSimpArgs false
set_option maxHeartbeats 4000000
set_option maxRecDepth 40000
namespace Am
open Go
def FQ(k:Nat):Nat:=if k%2=0 then k+1 else k-1
def qM(n:Nat):List Nat:=(List.range n).map FQ
theorem K8(n:Nat):(qM n).length=n:=by simp[qM]
theorem MR(n:Nat):qM (n+1)=qM n++[FQ n]:=by simp[qM,dN]
theorem Kg{n k:Nat}(a:k<n):(qM n).getD k 0=FQ k:=by rw[fR (by rw[K8];exact a)];simp[qM]
theorem Kh{n:Nat}(he:n%2=0):iO (qM n) n:=by
 have h0:∀i,i<n->FQ i<n:=λi hi=>by unfold FQ;split<;>omega
 refine⟨K8 n,λi hi=>?_,λi hi=>?_⟩
 ·rw[Kg hi];exact h0 i hi
 ·rw[Kg hi,Kg (h0 i hi)];unfold FQ;split<;>split<;>omega
theorem aFn:∀k,k<32->IntKind.i64.wrap (((BitVec.ofInt 64 (k:Nat)) ^^^ (BitVec.ofInt 64 1)).toNat:Int)=((FQ k:Nat):Int):=by decide+kernel
theorem aem{k:Nat}(a:k<32):AR .xor 0 (I k) (I 1)=some (I ((FQ k:Nat):Int)):=by rw[<-aFn k a];rfl
theorem Kf(l:List Nat)(x:Nat):cP (l++[x])=cP l++[(x:Int)]:=by simp[cP]
theorem ahE{h h':a9}{v:Value}{l:List Int}{x y:Int}{K:Value->a9->Prop}(hp:0<h.length)(g:ae h h')(hl:l.length<=100000)(f:bP h h' v 1 (ints l))
  (e:∀b a,ae h a->bP h a b 1 (ints (l++[x,y]))->K b a):gE (aW 1 2 h' [(0,.agg #[I 0,I 0]),(1,I x),(1001,I y)]) (λy a=>gE (cu 1 a y v) K):=by
 have d:aW 1 2 h' [(0,.agg #[I 0,I 0]),(1,I x),(1001,I y)]=some (sl h'.length 0 2 1,h'++[⟨[I x,I y],true⟩]):=by simp[aW]
 rw[d];simp only[bI];have c:ae h' (h'++[⟨[I x,I y],true⟩]):=⟨_,rfl⟩;have hn:cR 1 (h'++[⟨[I x,I y],true⟩]) (sl h'.length 0 2 1)=some [I x,I y]:=by simp[cR];rw[fB (k:=⟨[I x,I y],true⟩) (by simp) (by simp)];simp
 refine pH hp (g.trans c) (f.grow c) hn (by omega) (by simp) (by simp) (by simp[ints,maxSize];omega) λb a g2 b2 _=>?_;exact e b a g2 (by simpa [ints]using b2)
theorem ahR(h:a9)(hp:0<h.length)(n:Nat)(hn:n<=32):aN aE 176 [I n] h λr h'=>ae h h'∧bP h h' r 1 (ints (cP (qM n))):=by
 refine ag8 λK a=>?_;refine a ?_;refine akW λK a=>?_;refine a ?_;rw[aw];generalize g:aP aE _ _=PP;simp(disch:=omega);refine aU (λk σ h'=>k<=n∧ae h h'∧bP h h' (σ 3) 1 (ints (cP (qM k)))∧σ 6=I n∧σ 7=I k) (λk=>n-k) 0 ?_ ?_
 ·exact⟨by omega,ae.refl _,by simpa [qM,cP,ints]using bP.nil,by simp,by simp⟩
 ·rintro k σ h'⟨p,d,b3,e,b⟩;simp(disch:=omega)[e,b];refine aG (λi=>?_) (λl=>?_)
  ·have q:k<n:=by omega
   have hx:=aem (k:=k) (by omega);simp(disch:=omega)[b,hx];refine oa hp d (by rw[jh,K8];omega) b3 λv4 o m f=>?_;rw[<-Kf,<-MR]at f;simp(disch:=omega)[e,b,wrap64];refine⟨k+1,?_,by omega⟩;and_intros<;>first|assumption|omega|rfl
  ·have:k=n:=by omega
   subst this;obtain⟨j,c⟩:=b3.nw;rw[c]at b3;simp(disch:=omega);subst g;simp(disch:=omega)[c];exact⟨d,b3⟩
theorem aDj(h:a9)(hp:0<h.length)(n:Nat)(hn:n<=16):aN aE 488 [I n] h λr h'=>ae h h'∧bP h h' r 1 (ints (cP (qM (2*n)))):=by
 refine ag8 λK b=>?_;refine b ?_;refine akW λK b=>?_;refine b ?_;rw[aw];generalize j:aP aE _ _=PP;simp(disch:=omega);refine aU (λk σ h'=>k<=n∧ae h h'∧bP h h' (σ 3) 1 (ints (cP (qM (2*k))))∧σ 0=I n∧σ 4=I k) (λk=>n-k) 0 ?_ ?_
 ·exact⟨by omega,ae.refl _,by simpa [qM,cP,ints]using bP.nil,by simp,by simp⟩
 ·rintro k σ h'⟨s,d,b3,e,c⟩;simp(disch:=omega)[e,c];refine aG (λl=>?_) (λo=>?_)
  ·have t:k<n:=by omega
   have g:=cQ (2*(k:Int)) (2*k);have i:=cQ (2*(k:Int)+1) (2*k+1);have a:cP (qM (2*k))++[2*(k:Int)+1,2*(k:Int)]=cP (qM (2*(k+1))):=by
    rw[show 2*(k+1)=2*k+1+1 by omega,MR,MR,Kf,Kf,cC]
    congr 1
    simp[FQ]
   simp(disch:=omega)[c,g,i];refine ahE hp d (by rw[jh,K8];omega) b3 λv4 q p f=>?_;rw[a]at f;simp(disch:=omega)[e,c,wrap64];refine⟨k+1,?_,by omega⟩;and_intros<;>first|assumption|omega|rfl
  ·have:k=n:=by omega
   subst this;obtain⟨m,a⟩:=b3.nw;rw[a]at b3;simp(disch:=omega);subst j;simp(disch:=omega)[a];exact⟨d,b3⟩
def He(n i:Nat):Nat:=if i<n then i else i-n
def uX(x n i:Nat):Nat:=if(x+He n i)%2=1 then He n i else He n i+1
def KL(x n i:Nat):Bool:=decide ((x+He n i)%2≠1)
def Pw(n i:Nat):Bool:=decide (i<n)
def tR(n:Nat)(s u:Bool)(y:Nat):Nat:=(if s then 0 else n)+(if u then y-1 else y)
def kK(n y:Nat)(u:Bool):Prop:=if u then 1<=y∧y<=n else y<n
def Mg(kd:Nat->Int)(y:Nat)(s:Bool):Bool:=if kd y=1 then s else !s
def Mh(n:Nat)(kd:Nat->Int)(y:Nat)(u:Bool):Bool:=if y=0∨y=n∨kd y=2 then u else !u
def zQ(x n:Nat)(kd:Nat->Int)(i:Nat):Nat:=tR n (Mg kd (uX x n i) (Pw n i)) (Mh n kd (uX x n i) (KL x n i)) (uX x n i)
variable {x n : Nat} {kd : Nat -> Int}
theorem MN{y:Nat}{s u:Bool}(hy:(x+y)%2=1)(ok:kK n y u):tR n s u y<2*n∧Pw n (tR n s u y)=s∧uX x n (tR n s u y)=y∧KL x n (tR n s u y)=u:=by
 unfold kK at ok;have a:He n (tR n s u y)=if u then y-1 else y:=by unfold He tR;cases s<;>cases u<;>simp at ok ⊢<;>first|omega|(intro;omega)
 refine⟨?_,?_,?_,?_⟩
 ·unfold tR;cases s<;>cases u<;>simp at ok ⊢<;>omega
 ·unfold Pw tR;cases s<;>cases u<;>simp at ok ⊢<;>omega
 ·unfold uX;rw[a];cases u<;>simp at ok ⊢<;>first|omega|(split<;>omega)|(intro;omega)
 ·unfold KL;rw[a];cases u<;>simp at ok ⊢<;>omega
theorem C8{i:Nat}(hi:i<2*n):(x+uX x n i)%2=1∧kK n (uX x n i) (KL x n i)∧tR n (Pw n i) (KL x n i) (uX x n i)=i∧uX x n i<=n:=by
 have c:He n i<n:=by unfold He;split<;>omega
 have d:(if Pw n i then 0 else n)+He n i=i:=by
  unfold He Pw;by_cases q:i<n
  ·simp[q]
  ·simp[q];omega
 unfold kK tR;by_cases q:(x+He n i)%2=1
 ·have a:uX x n i=He n i:=by unfold uX;rw[if_pos q]
  have b:KL x n i=false:=by unfold KL;simp[q]
  rw[a,b];simp only[ax,if_false];omega
 ·have a:uX x n i=He n i+1:=by unfold uX;rw[if_neg q]
  have b:KL x n i=true:=by unfold KL;simp[q]
  rw[a,b];simp only[if_true,dV];omega
theorem aee{y:Nat}{u:Bool}(ok:kK n y u):kK n y (Mh n kd y u):=by
 unfold Mh;split
 ·exact ok
 ·unfold kK at ok ⊢;cases u<;>simp at ok ⊢<;>omega
theorem Th{y:Nat}{s u:Bool}(hy:(x+y)%2=1)(ok:kK n y u):zQ x n kd (tR n s u y)=tR n (Mg kd y s) (Mh n kd y u) y:=by obtain⟨_,a,b,c⟩:=MN (x:=x) (n:=n) (s:=s) hy ok;unfold zQ;rw[a,b,c]
theorem FL{i:Nat}(hi:i<2*n):zQ x n kd i<2*n∧uX x n (zQ x n kd i)=uX x n i:=by obtain⟨a,b,c,_⟩:=C8 (x:=x) hi;obtain⟨h1,_,d,_⟩:=MN (x:=x) (n:=n) (s:=Mg kd (uX x n i) (Pw n i)) a (aee (kd:=kd) b);exact⟨h1,d⟩
theorem OR{i:Nat}(hi:i<2*n):zQ x n kd (zQ x n kd i)=i:=by
 obtain⟨a,b,c,_⟩:=C8 (x:=x) hi;have e:zQ x n kd i=tR n (Mg kd (uX x n i) (Pw n i)) (Mh n kd (uX x n i) (KL x n i)) (uX x n i):=rfl;rw[e,Th a (aee b)];have d:∀y s,Mg kd y (Mg kd y s)=s:=λy s=>by unfold Mg;split<;>simp
 have f:∀y u,Mh n kd y (Mh n kd y u)=u:=λy u=>by unfold Mh;split<;>simp
 rw[d,f];exact c
def rD(x n:Nat)(kd:Nat->Int):List Nat:=(List.range (2*n)).map (zQ x n kd)
theorem JX{i:Nat}(hi:i<2*n):(rD x n kd).getD i 0=zQ x n kd i:=by rw[fR (by simp[rD];exact hi)];simp[rD]
theorem JY:iO (rD x n kd) (2*n):=by
 refine⟨by simp[rD],λi hi=>?_,λi hi=>?_⟩
 ·rw[JX hi];exact(FL hi).1
 ·rw[JX hi,JX (FL hi).1,OR hi]
def lx(l:List Nat)(p:Nat×Nat):List Nat:=(l.set p.1 p.2).set p.2 p.1
def Nt(ps:List (Nat×Nat))(i:Nat):Prop:=∃p∈ps,i=p.1∨i=p.2
def Nv(x n:Nat)(kd:Nat->Int)(p:Nat×Nat):Prop:=p.1<2*n∧zQ x n kd p.1=p.2
theorem anD{l:List Nat}(hl:l.length=2*n){p:Nat×Nat}(hp:Nv x n kd p){i:Nat}(hi:i<2*n):(lx l p).getD i 0=if i=p.1∨i=p.2 then zQ x n kd i else l.getD i 0:=by
 obtain⟨h1,a⟩:=hp;have b:=OR (x:=x) (kd:=kd) h1;rw[a]at b;unfold lx;rw[AE (by rw[aS];omega),AE (by omega)];by_cases q2:p.2=i
 ·rw[if_pos q2,if_pos (.inr q2.symm),<-q2,b]
 ·rw[if_neg q2];by_cases q1:p.1=i
  ·rw[if_pos q1,if_pos (.inl q1.symm),<-q1,a]
  ·rw[if_neg q1,if_neg (by omega)]
theorem we:∀(ps:List (Nat×Nat)) (l:List Nat),(ps.foldl lx l).length=l.length
 |[],_=>rfl
 |p::ps,l=>by rw[gI,we ps];simp[lx]
open Classical in
theorem Wq:∀(ps:List (Nat×Nat)) (l:List Nat),l.length=2*n->(∀p∈ps,Nv x n kd p)->∀i,i<2*n->(ps.foldl lx l).getD i 0=if Nt ps i then zQ x n kd i else l.getD i 0
 |[],l,_,_,i,_=>by
  rw[if_neg (by rintro⟨p,hp,_⟩;simp at hp)];rfl
 |p::ps,l,hl,hp,i,hi=>by
  have d:=hp p (by simp);rw[gI,Wq ps (lx l p) (by simp[lx,hl]) (λq c=>hp q (by simp[c])) i hi,anD hl d hi];by_cases q1:Nt ps i
  ·rw[if_pos q1,if_pos];obtain⟨a,h1,b⟩:=q1;exact⟨a,by simp[h1],b⟩
  ·rw[if_neg q1];by_cases q2:i=p.1∨i=p.2
   ·rw[if_pos q2,if_pos ⟨p,by simp,q2⟩]
   ·rw[if_neg q2,if_neg];rintro⟨a,h1,b⟩;rcases bR.1 h1 with e|e
    ·rw[e]at b;exact q2 b
    ·exact q1 ⟨a,e,b⟩
theorem Ad{a b:List Nat}(h:a.length=b.length)(e:∀i,i<a.length->a.getD i 0=b.getD i 0):a=b:=by apply gz h;intro i h1 c;have:=e i h1;rw[fR h1,fR c]at this;exact this
def zR(x n:Nat)(kd:Nat->Int)(Y:Nat):List Nat:=(List.range (2*n)).map λi=>if uX x n i<Y then zQ x n kd i else 0
theorem OQ{Y i:Nat}(hi:i<2*n):(zR x n kd Y).getD i 0=if uX x n i<Y then zQ x n kd i else 0:=by rw[fR (by simp[zR];exact hi)];simp[zR]
theorem ajv{Y:Nat}(b:Y<=1)(hx:Y=1->x%2=0):zR x n kd Y=List.replicate (2*n) 0:=by
 refine Ad (by simp[zR]) λi hi=>?_;have hi:i<2*n:=by simpa [zR]using hi
 obtain⟨a,_⟩:=C8 (x:=x) hi;rw[OQ hi,if_neg (by intro q;have:=hx;omega),fR (by simpa using hi)];simp
theorem am9{Y:Nat}(b:n<Y):zR x n kd Y=rD x n kd:=by
 refine Ad (by simp[zR,rD]) λi hi=>?_;have hi:i<2*n:=by simpa [zR]using hi
 obtain⟨_,_,_,a⟩:=C8 (x:=x) hi;rw[OQ hi,JX hi,if_pos (by omega)]
theorem aju{y:Nat}{ps:List (Nat×Nat)}(hy:(x+y)%2=1)(hp:∀p∈ps,Nv x n kd p∧uX x n p.1=y)(d:∀i,i<2*n->uX x n i=y->Nt ps i):ps.foldl lx (zR x n kd y)=zR x n kd (y+2):=by
 refine Ad (by rw[we];simp[zR]) λi hi=>?_;have hi:i<2*n:=by rw[we]at hi;simpa [zR]using hi
 obtain⟨a,_⟩:=C8 (x:=x) hi;rw[Wq ps _ (by simp[zR]) (λp h=>(hp p h).1) i hi,OQ hi,OQ hi];by_cases q:uX x n i=y
 ·rw[if_pos (d i hi q),if_pos (by omega)]
 ·have hn:¬Nt ps i:=by
   rintro⟨p,h1,c⟩;obtain⟨⟨b1,b2⟩,b3⟩:=hp p h1;have b:=(FL (x:=x) (kd:=kd) b1).2;rw[b2]at b;rcases c with e|e
   ·rw[e]at q;exact q b3
   ·rw[e]at q;omega
  rw[if_neg hn];by_cases q2:uX x n i<y
  ·rw[if_pos q2,if_pos (by omega)]
  ·rw[if_neg q2,if_neg (by omega)]
def qP(W H x y:Int):Bool:=decide ((0<=x∧x<=2*W)∧(0<=y∧y<=2*H)∧(x+y)%2=1)
theorem c36(h:a9)(W H x y:Int)(s:Value)(w:1<=W∧W<=8)(i:1<=H∧H<=8):aN aE 36 [.agg #[I W,I H,s],.agg #[I x,I y]] h λr h'=>r=B (qP W H x y)∧h'=h:=by
 obtain⟨A,a⟩:=aC (qP W H x y);rw[<-a];unfold qP at a;have w1:=cQ (2*W) (2*W);have w2:=cQ (2*H) (2*H);refine afq ?_;simp(disch:=omega)[w1];refine aO (B8 x 0 _ h) ?_;rintro _ h1⟨rfl,rfl⟩;by_cases q1:0<=x∧x<=2*W
 ·have b:gZ x 0 (2*W)=true:=fM.2 q1;rw[b];simp(disch:=omega)[w2];refine aO (B8 y 0 _ h1) ?_;rintro _ g⟨rfl,rfl⟩;by_cases q2:0<=y∧y<=2*H
  ·have c:gZ y 0 (2*H)=true:=fM.2 q2;have w3:=cQ (x+y) (x+y);have f:Int.tmod (x+y) 2=(x+y)%2:=cj (by omega);rw[c];by_cases d:(x+y)%2=1
   ·have:A=true:=by rw[a];simp;omega
    subst this;simp(disch:=omega)[w3,f,d]
   ·have:A=false:=by rw[a];simp;omega
    subst this;simp(disch:=omega)[w3,f,d]
  ·have c:gZ y 0 (2*H)=false:=by
    cases e:gZ y 0 (2*H)
    ·rfl
    ·exact absurd (fM.1 e) q2
   have:A=false:=by rw[a];simp;omega
   subst this;rw[c];simp(disch:=omega)
 ·have b:gZ x 0 (2*W)=false:=by
   cases e:gZ x 0 (2*W)
   ·rfl
   ·exact absurd (fM.1 e) q1
  have:A=false:=by rw[a];simp;omega
  subst this;rw[b];simp(disch:=omega)
def vQ(x n y:Nat)(l u:Bool):Nat:=(if l then x-1 else x)*n+(if u then y-1 else y)
theorem awi{W H x y:Nat}{l u:Bool}(hx:1<=x∧x<2*W)(hy:(x+y)%2=1)(ok:kK (2*H) y u):sj W H (x,y,if l then -1 else 1,if u then -1 else 1)∧kY H (x,y,if l then -1 else 1,if u then -1 else 1)=vQ x (2*H) y l u:=by
 have a:sj W H (x,y,if l then -1 else 1,if u then -1 else 1):=by unfold kK at ok;refine⟨?_,?_,?_,?_,?_,?_,?_⟩<;>cases l<;>cases u<;>simp at ok ⊢<;>omega
 refine⟨a,?_⟩;have h1:=yy a;have b:rW (x:Int) (x+if l then -1 else 1)=((if l then x-1 else x:Nat):Int):=by rw[rX (by cases l<;>simp)];cases l<;>simp<;>omega
 have c:rW (y:Int) (y+if u then -1 else 1)=((if u then y-1 else y:Nat):Int):=by unfold kK at ok;rw[rX (by cases u<;>simp)];cases u<;>simp at ok ⊢<;>omega
 simp only at h1;rw[b,c]at h1;unfold vQ;have d:((2*H:Nat):Int)=2*(H:Int):=by omega
 rw[<-d,<-nS]at h1;omega
theorem c42(h:a9)(W H:Int)(s:Value)(x y pb qb:Nat)(l u:Bool)(w:1<=W∧W<=8)(d:1<=H∧H<=8)(hx:1<=x∧x<2*W.toNat)(hy:(x+y)%2=1)(ok:kK (2*H.toNat) y u)(e:h[pb]?=some ⟨[I W,I H,s],true⟩)(f:h[qb]?=some ⟨[I x,I y],true⟩):aN aE 42 [I (if l then -1 else 1),I (if u then -1 else 1),pt pb 0,pt qb 0] h λr h'=>r=I (vQ x (2*H.toNat) y l u:Nat)∧h'=h:=by obtain⟨c,es⟩:=awi (l:=l) hx hy ok;have c1:=cI e rfl;have c2:=cI f rfl;obtain⟨dx,a⟩:∃dx:Int,dx=if l then -1 else 1:=⟨_,rfl⟩;obtain⟨dy,b⟩:∃dy:Int,dy=if u then -1 else 1:=⟨_,rfl⟩;rw[<-a,<-b]at c es ⊢;rw[<-es];refine afq ?_;simp only[az,aF]at c1 c2;simp(disch:=omega)[c1,c2];refine aO (c50 h W H s x y dx dy w d c) ?_;rintro _ h1⟨rfl,rfl⟩;simp(disch:=omega)
abbrev vg:=Bool×Bool
def BY(n y:Nat)(kd:Nat->Int):List (vg×vg):=
 if y=0 then[((true,false),(false,false))]else if y=n then[((true,true),(false,true))]
 else if kd y=1 then[((true,true),(true,false)),((false,true),(false,false))]
 else if kd y=2 then[((true,true),(false,true)),((true,false),(false,false))]
 else[((true,true),(false,false)),((false,true),(true,false))]
def LY(x n y:Nat)(ps:List (vg×vg)):List Value:=(ps.map λp=>[I (vQ x n y p.1.1 p.1.2:Nat),I (vQ x n y p.2.1 p.2.2:Nat)]).flatten
def vA(z:Bool)(a b:Int)(k:Nat):List Int:=if z then[a,b].take (k/2)else[a,b].take ((k+1)/2)
theorem arN:uk 1004002 (.agg #[I (-1),I (-1),I (-1),I 1,I 1,I (-1),I 1,I 1]) (I 0)=some (.agg #[I (-1),I (-1)]):=rfl
theorem arO:uk 1004002 (.agg #[I (-1),I (-1),I (-1),I 1,I 1,I (-1),I 1,I 1]) (I 1)=some (.agg #[I (-1),I 1]):=rfl
theorem arP:uk 1004002 (.agg #[I (-1),I (-1),I (-1),I 1,I 1,I (-1),I 1,I 1]) (I 2)=some (.agg #[I 1,I (-1)]):=rfl
theorem arQ:uk 1004002 (.agg #[I (-1),I (-1),I (-1),I 1,I 1,I (-1),I 1,I 1]) (I 3)=some (.agg #[I 1,I 1]):=rfl
theorem Bq(a b:Int):C6 1002001 (.agg #[I a,I b]) (I 0)=some (I 0):=rfl
theorem Br(a b:Int):C6 1002001 (.agg #[I a,I b]) (I 1)=some (I 1):=rfl
theorem AS(a b:Int):Gj 0 (.agg #[I a,I b]) (I 0)=some (I a):=rfl
theorem AT(a b:Int):Gj 0 (.agg #[I a,I b]) (I 1)=some (I b):=rfl
theorem KJ(h:a9)(a b c d:Int):aW 2 2 h [(0,.agg #[I 0,I 0,I 0,I 0]),(2,.agg #[I a,I b]),(2002,.agg #[I c,I d])]=some (sl h.length 0 2 2,h++[⟨[I a,I b,I c,I d],true⟩]):=by simp[aW]
theorem ajK(h:a9)(a b:Int):aW 2 1 h [(0,.agg #[I 0,I 0]),(2,.agg #[I a,I b])]=some (sl h.length 0 1 2,h++[⟨[I a,I b],true⟩]):=by simp[aW]
theorem c41(h:a9)(hp:0<h.length)(W H:Int)(br:List Int)(s:Value)(x y:Nat)(ok:fg (W,H,br))(hr:Vr h cZ s br)(hx:1<=x∧x<2*W.toNat)(hy:(x+y)%2=1)(Yp:y<=2*H.toNat):aN aE 41 [.agg #[I W,I H,s],.agg #[I x,I y]] h λr h'=>ae h h'∧bP h h' r 2 (LY x (2*H.toNat) y (BY (2*H.toNat) y λj=>fZ W.toNat H.toNat br x j)):=by
 obtain⟨L,o⟩:=aC (BY (2*H.toNat) y λj=>fZ W.toNat H.toNat br x j);rw[<-o];unfold BY at o;have Q:=ok.w;have J:=ok.h;simp only at Q J;obtain⟨b2,o2,z2,rfl,_,hm,_,hc⟩:=hr.ints;refine ag8 λK B=>?_;obtain⟨pb,zG⟩:=aC h.length;obtain⟨S,eS⟩:=aC (sl b2 o2 br.length z2);rw[<-eS]at hr ⊢;obtain⟨h1,e1⟩:=aC (h++[⟨[I W,I H,S],true⟩,⟨[I x,I y],true⟩]);have g1:ae h h1:=⟨_,e1⟩;have k1:h1[pb]?=some ⟨[I W,I H,S],true⟩:=by rw[e1,zG];simp
 have k2:h1[pb+1]?=some ⟨[I x,I y],true⟩:=by rw[e1,zG];simp
 rw[<-e1,<-zG];refine B ?_;refine bg λK B=>?_;simp(disch:=omega)[CM,G6,scalar,EU];refine B ?_;have c1:=cI k1 rfl;have c2:=cI k2 rfl;simp only[az,aF]at c1 c2;obtain⟨n,C⟩:=aC (2*H.toNat);have R:=λ(l u:Bool) (ok:kK (2*H.toNat) y u)=>c42 h1 W H S x y pb (pb+1) l u Q J hx hy ok k1 k2;simp only[<-C]at R o Yp ⊢;have mT:=aL hp g1;have hW:(W.toNat:Int)=W:=by omega
 have hH:(H.toNat:Int)=H:=by omega
 rw[aw];generalize B:aP aE _ _=K;simp(disch:=omega)[c1,c2];refine aO (c34 h1 W H x y S Q J) ?_;rintro _ h2⟨rfl,rfl⟩;by_cases eb:y=0∨y=n
 ·have e0:gr W.toNat H.toNat (x:Int) (y:Int):=by unfold gr;omega
  simp(disch:=omega)[e0];have aMb:2<=n:=by omega
  obtain⟨z,Z⟩:∃z:Bool,z=decide (y=0):=⟨_,rfl⟩;have F:kK n y (!z):=by
   unfold kK;by_cases q:y=0
   ·have:z=true:=by rw[Z];simp[q]
    subst this;simp;omega
   ·have:z=false:=by rw[Z];simp[q]
    subst this;simp;omega
  obtain⟨A,V⟩:∃A:Int,A=(vQ x n y true (!z):Nat):=⟨_,rfl⟩;obtain⟨e,X⟩:∃e:Int,e=(vQ x n y false (!z):Nat):=⟨_,rfl⟩;have a1:=R true (!z) F;have a2:=R false (!z) F;rw[<-V]at a1;rw[<-X]at a2;have GK:LY x n y L=[I A,I e]:=by
   by_cases q:y=0
   ·have:z=true:=by rw[Z];simp[q]
    rw[if_pos q]at o;rw[o,V,X,this];rfl
   ·have:z=false:=by rw[Z];simp[q]
    rw[if_neg q,if_pos (by omega)]at o;rw[o,V,X,this];rfl
  refine aU (λk σ h'=>k<=4∧ae h2 h'∧bP h2 h' (σ 6) 1 (ints (vA z A e k))∧σ 2=pt pb 0∧σ 3=pt (pb+1) 0∧σ 5=.func (.func 42) #[] #[pt pb 0,pt (pb+1) 0]∧σ 22=.agg #[I (-1),I (-1),I (-1),I 1,I 1,I (-1),I 1,I 1]∧σ 23=I k) (λk=>4-k) 0 ?_ ?_
  ·refine⟨by omega,ae.refl _,?_,by simp,by simp,by simp,by simp,by simp⟩;have:vA z A e 0=[]:=by cases z<;>rfl
   rw[this];simpa [ints]using bP.nil
  ·rintro k σ h'⟨hk,p,t,q2,f,g,vN,xP⟩;simp(disch:=omega)[xP];have G:=p.aZ c1;have d2:=p.aZ c2;have E:cell h' (pb+1) 0=some (I x):=by have:=(fQ (i:=0) d2 (by omega)).1;simpa using this
   have D:cell h' (pb+1) 1=some (I y):=by have:=(fQ (i:=1) d2 (by omega)).1;simpa using this
   have M:=cQ ((x:Int)+-1) (x+-1);have N:=cQ ((x:Int)+1) (x+1);have O:=cQ ((y:Int)+-1) (y+-1);have P:=cQ ((y:Int)+1) (y+1);by_cases bB:k<4
   ·have hks:k=0∨k=1∨k=2∨k=3:=by omega
    have hzy:(z=true∧y=0)∨(z=false∧y=n):=by
     by_cases q:y=0
     ·left;exact⟨by rw[Z];simp[q],q⟩
     ·right;exact⟨by rw[Z];simp[q],by omega⟩
    have w1:=λdx dy=>c36 h' W H dx dy S Q J;have Y:∀k,vA z A e k=if z then[A,e].take (k/2)else[A,e].take ((k+1)/2):=λ_=>rfl;rcases hzy with⟨jD,DO⟩|⟨jD,DO⟩
    ·simp only[jD,kN,Bool.not_false]at F V X t Y ⊢;rcases hks with rfl|rfl|rfl|rfl
     ·simp(disch:=omega)[q2,f,g,vN,xP,G,E,D,M,N,O,P,arN,Bq,Br,AS,AT];refine aO (w1 _ _) ?_;rintro _ v⟨rfl,rfl⟩;have eq:qP W H ((x:Int)+-1) ((y:Int)+-1)=false:=by unfold qP;simp;omega
      rw[eq];have m:vA true A e 0=vA true A e 1:=rfl;rw[m]at t;simp(disch:=omega)[q2,f,g,vN,xP,wrap64];refine⟨0+1,?_,by omega⟩;and_intros<;>first|assumption|omega|rfl
     ·simp(disch:=omega)[q2,f,g,vN,xP,G,E,D,M,N,O,P,arO,Bq,Br,AS,AT];refine aO (w1 _ _) ?_;rintro _ v⟨rfl,rfl⟩;have eq:qP W H ((x:Int)+-1) ((y:Int)+1)=true:=by unfold qP;simp;omega
      rw[eq];have ac:=c42 v W H S x y pb (pb+1) true false Q J hx hy (by rw[<-C];exact F) (p.at k1) (p.at k2);simp only[if_true,if_false,ax]at ac;rw[<-C,<-V]at ac;simp(disch:=omega)[q2,f,g,vN,xP,Bq,Br,AS,AT];refine aO ac ?_;rintro _ h4⟨rfl,rfl⟩
      try simp(disch:=omega)
      refine oa mT p (by rw[Y];simp) t λv4 h5 g4 U=>?_;have m:vA true A e 1++[A]=vA true A e 2:=rfl;rw[m]at U;simp(disch:=omega)[q2,f,g,vN,xP,wrap64];refine⟨1+1,?_,by omega⟩;and_intros<;>first|assumption|omega|rfl
     ·simp(disch:=omega)[q2,f,g,vN,xP,G,E,D,M,N,O,P,arP,Bq,Br,AS,AT];refine aO (w1 _ _) ?_;rintro _ v⟨rfl,rfl⟩;have eq:qP W H ((x:Int)+1) ((y:Int)+-1)=false:=by unfold qP;simp;omega
      rw[eq];have m:vA true A e 2=vA true A e 3:=rfl;rw[m]at t;simp(disch:=omega)[q2,f,g,vN,xP,wrap64];refine⟨2+1,?_,by omega⟩;and_intros<;>first|assumption|omega|rfl
     ·simp(disch:=omega)[q2,f,g,vN,xP,G,E,D,M,N,O,P,arQ,Bq,Br,AS,AT];refine aO (w1 _ _) ?_;rintro _ v⟨rfl,rfl⟩;have eq:qP W H ((x:Int)+1) ((y:Int)+1)=true:=by unfold qP;simp;omega
      rw[eq];have ac:=c42 v W H S x y pb (pb+1) false false Q J hx hy (by rw[<-C];exact F) (p.at k1) (p.at k2);simp only[if_true,if_false,ax]at ac;rw[<-C,<-X]at ac;simp(disch:=omega)[q2,f,g,vN,xP,Bq,Br,AS,AT];refine aO ac ?_;rintro _ h4⟨rfl,rfl⟩
      try simp(disch:=omega)
      refine oa mT p (by rw[Y];simp) t λv4 h5 g4 U=>?_;have m:vA true A e 3++[e]=vA true A e 4:=rfl;rw[m]at U;simp(disch:=omega)[q2,f,g,vN,xP,wrap64];refine⟨3+1,?_,by omega⟩;and_intros<;>first|assumption|omega|rfl
    ·simp only[jD,kN,Bool.not_false]at F V X t Y ⊢;rcases hks with rfl|rfl|rfl|rfl
     ·simp(disch:=omega)[q2,f,g,vN,xP,G,E,D,M,N,O,P,arN,Bq,Br,AS,AT];refine aO (w1 _ _) ?_;rintro _ v⟨rfl,rfl⟩;have eq:qP W H ((x:Int)+-1) ((y:Int)+-1)=true:=by unfold qP;simp;omega
      rw[eq];have ac:=c42 v W H S x y pb (pb+1) true true Q J hx hy (by rw[<-C];exact F) (p.at k1) (p.at k2);simp only[if_true,if_false,ax]at ac;rw[<-C,<-V]at ac;simp(disch:=omega)[q2,f,g,vN,xP,Bq,Br,AS,AT];refine aO ac ?_;rintro _ h4⟨rfl,rfl⟩
      try simp(disch:=omega)
      refine oa mT p (by rw[Y];simp) t λv4 h5 g4 U=>?_;have m:vA false A e 0++[A]=vA false A e 1:=rfl;rw[m]at U;simp(disch:=omega)[q2,f,g,vN,xP,wrap64];refine⟨0+1,?_,by omega⟩;and_intros<;>first|assumption|omega|rfl
     ·simp(disch:=omega)[q2,f,g,vN,xP,G,E,D,M,N,O,P,arO,Bq,Br,AS,AT];refine aO (w1 _ _) ?_;rintro _ v⟨rfl,rfl⟩;have eq:qP W H ((x:Int)+-1) ((y:Int)+1)=false:=by unfold qP;simp;omega
      rw[eq];have m:vA false A e 1=vA false A e 2:=rfl;rw[m]at t;simp(disch:=omega)[q2,f,g,vN,xP,wrap64];refine⟨1+1,?_,by omega⟩;and_intros<;>first|assumption|omega|rfl
     ·simp(disch:=omega)[q2,f,g,vN,xP,G,E,D,M,N,O,P,arP,Bq,Br,AS,AT];refine aO (w1 _ _) ?_;rintro _ v⟨rfl,rfl⟩;have eq:qP W H ((x:Int)+1) ((y:Int)+-1)=true:=by unfold qP;simp;omega
      rw[eq];have ac:=c42 v W H S x y pb (pb+1) false true Q J hx hy (by rw[<-C];exact F) (p.at k1) (p.at k2);simp only[if_true,if_false,ax]at ac;rw[<-C,<-X]at ac;simp(disch:=omega)[q2,f,g,vN,xP,Bq,Br,AS,AT];refine aO ac ?_;rintro _ h4⟨rfl,rfl⟩
      try simp(disch:=omega)
      refine oa mT p (by rw[Y];simp) t λv4 h5 g4 U=>?_;have m:vA false A e 2++[e]=vA false A e 3:=rfl;rw[m]at U;simp(disch:=omega)[q2,f,g,vN,xP,wrap64];refine⟨2+1,?_,by omega⟩;and_intros<;>first|assumption|omega|rfl
     ·simp(disch:=omega)[q2,f,g,vN,xP,G,E,D,M,N,O,P,arQ,Bq,Br,AS,AT];refine aO (w1 _ _) ?_;rintro _ v⟨rfl,rfl⟩;have eq:qP W H ((x:Int)+1) ((y:Int)+1)=false:=by unfold qP;simp;omega
      rw[eq];have m:vA false A e 3=vA false A e 4:=rfl;rw[m]at t;simp(disch:=omega)[q2,f,g,vN,xP,wrap64];refine⟨3+1,?_,by omega⟩;and_intros<;>first|assumption|omega|rfl
   ·have:k=4:=by omega
    subst this;have m:vA z A e 4=[A,e]:=by cases z<;>rfl
    rw[m]at t;obtain⟨bb,e6⟩:=t.nw;rw[e6]at t;have y1:=t.Jc (i:=0) (by simp[ints]);have y2:=t.Jc (i:=1) (by simp[ints]);simp[ints]at y1 y2 e6;simp(disch:=omega);simp(disch:=omega)[e6,y1,y2];rw[ajK];simp only[bI];subst B
    try simp(disch:=omega)
    rw[GK];exact⟨(g1.trans p).trans ⟨_,rfl⟩,.inr ⟨h'.length,1,rfl,rfl,(g1.trans p).le,by simp⟩⟩
 ·have e0:¬gr W.toNat H.toNat (x:Int) (y:Int):=by unfold gr;omega
  have YC:kK n y true:=by unfold kK;simp;omega
  have ok2:kK n y false:=by unfold kK;simp;omega
  have a1:=R true true YC;have a2:=R true false ok2;have a3:=R false true YC;have a4:=R false false ok2;simp only[if_true,if_false,ax]at a1 a2 a3 a4;simp(disch:=omega)[e0];subst B;simp only[aq];refine akW λK B=>?_;refine aO a1 ?_;rintro _ v⟨rfl,rfl⟩
  try simp(disch:=omega)
  refine aO a2 ?_;rintro _ h4⟨rfl,rfl⟩
  try simp(disch:=omega)
  refine aO a3 ?_;rintro _ h5⟨rfl,rfl⟩
  try simp(disch:=omega)
  refine aO a4 ?_;rintro _ h6⟨rfl,rfl⟩
  try simp(disch:=omega)
  refine B ?_;rw[if_neg (by omega),if_neg (by omega)]at o;have hk:=Cp (W:=W.toNat) (H:=H.toNat) (x:=x) (y:=y) (by omega) (by omega) (by omega);have iJ:=ok.row;simp only at iJ;have A9:fZ W.toNat H.toNat br (x:Int) (y:Int)=br[jd W.toNat x y]:=by unfold fZ;rw[if_neg e0];simp only[aM];exact ng (by rw[iJ];exact hk)
  have sM:=eG (hc.imp id (dZ g1)) (show jd W.toNat x y<br.length by rw[iJ];exact hk);have cs:=fQ (i:=2) c1 (by omega);have mh:jd W.toNat x y<br.length:=by rw[iJ];exact hk
  rw[<-A9]at sM;obtain⟨kd,Mz⟩:=aC (fZ W.toNat H.toNat br (x:Int) (y:Int));simp only[<-Mz]at sM o;have T4:=XE h6 W.toNat H.toNat x y S (by omega) (by omega) (by omega) (by omega) hy;rw[hW,hH]at T4;rw[aw];generalize B:aP aE _ _=K;have cs2:cell h6 pb 2=some (sl b2 o2 br.length z2):=by rw[<-eS];exact cs.1
  simp(disch:=omega)[c1,c2,cs2];refine aO T4 ?_;rintro _ h7⟨rfl,rfl⟩;have T:∀a b c d:Int,bP h (h7++[⟨[I a,I b,I c,I d],true⟩]) (sl h7.length 0 2 2) 2 [I a,I b,I c,I d]:=λa b c d=>
   .inr ⟨h7.length,2,rfl,rfl,g1.le,by simp⟩
  by_cases q1:kd=1
  ·rw[if_pos q1]at o;subst o;simp(disch:=omega)[mh,sM,q1];subst B;simp(disch:=omega);rw[KJ];simp only[bI];exact⟨g1.trans ⟨_,rfl⟩,T _ _ _ _⟩
  ·rw[if_neg q1]at o;by_cases q2:kd=2
   ·rw[if_pos q2]at o;subst o;simp(disch:=omega)[mh,sM,q1,q2];subst B;simp(disch:=omega);rw[KJ];simp only[bI];exact⟨g1.trans ⟨_,rfl⟩,T _ _ _ _⟩
   ·rw[if_neg q2]at o;subst o;simp(disch:=omega)[mh,sM,q1,q2];subst B;simp(disch:=omega);rw[KJ];simp only[bI];exact⟨g1.trans ⟨_,rfl⟩,T _ _ _ _⟩
noncomputable def qg(L K:List Nat)(n k:Nat):List Nat:=(List.range n).map λi=>if i<k then Cf L K n i else 0
theorem VT{L K:List Nat}{n k:Nat}:(qg L K n k).length=n:=by simp[qg]
theorem R8{L K:List Nat}{n:Nat}:qg L K n 0=List.replicate n 0:=by apply gz<;>simp[qg]
theorem VS{L K:List Nat}{n:Nat}:qg L K n n=Ig L K n:=by unfold qg Ig;apply fe;intro i hi;rw[if_pos (da.1 hi)]
theorem VU{L K:List Nat}{n k:Nat}(b:k<n):(cP (qg L K n k)).set k ((Cf L K n k:Nat):Int)=cP (qg L K n (k+1)):=by
 apply gz
 ·simp[cP,qg]
 ·intro i h1 a;simp[cP,qg,iQ];by_cases e:k=i
  ·subst e;simp
  ·rw[if_neg e];by_cases q:i<k
   ·rw[if_pos q,if_pos (by omega)]
   ·rw[if_neg q,if_neg (by omega)]
theorem aoU(h:a9)(hp:0<h.length)(lv kv:Value)(L K:List Nat)(n:Nat)(cl:Nat)(p:iO L (2*n))(d:iO K n)(hn:n<=32)(iC:cl<=1000)(rl:Rw h lv 1 (ints (cP L)))(rk:Rw h kv 1 (ints (cP K))):aN aE 493 [lv,I n,.agg #[kv,I cl]] h λr h'=>ae h h'∧∃w,r=.agg #[w,I (cl+(pN L K n).2:Nat)]∧bP h h' w 1 (ints (cP (pN L K n).1)):=by
 obtain⟨lb,lo,ln,ly,rfl,f,ca⟩:=rl;obtain⟨V,ko,kn,ky,rfl,eb,cb⟩:=rk;have f:ln=2*n:=by have:=f;simp[ints,cP,p.len]at this;exact this
 have eb:kn=n:=by have:=eb;simp[ints,cP,d.len]at this;exact this
 rw[f]at ca ⊢;rw[eb]at cb ⊢;clear f eb;have T9:∀h',ae h h'->∀k,k<2*n->cell h' lb (lo+k)=some (I (L.getD k 0)):=λh' g k t=>uG (by rw[p.len];exact ca.imp id λe=>by rw[dn]at e;exact g.aZ e) (by rw[p.len];exact t);have NL:∀h',ae h h'->∀k,k<n->cell h' V (ko+k)=some (I (K.getD k 0)):=λh' g k t=>uG (by rw[d.len];exact cb.imp id λe=>by rw[dn]at e;exact g.aZ e) (by rw[d.len];exact t);have JC:=λk t=>Ce p d (k:=k) t;have g0:=Ip p d;have iA:=λk t=>EY d g0 k t;have hs:∀k,nu (jt L K) K (jq L K n n) (k+1)=if(nu (jt L K) K (jq L K n n) k).1.getD k false then nu (jt L K) K (jq L K n n) k else(tS (jt L K) K (nu (jt L K) K (jq L K n n) k).1 k (J5 (jt L K) K (nu (jt L K) K (jq L K n n) k).1 k),(nu (jt L K) K (jq L K n n) k).2+1):=λ_=>rfl;have ig:nu (jt L K) K (jq L K n n) 0=(jq L K n n,0):=rfl;have eR1:(pN L K n).1=qg L K n n:=VS.symm;have eR2:(pN L K n).2=(nu (jt L K) K (jq L K n n) n).2:=rfl;rw[eR1,eR2];obtain⟨F,eF⟩:=aC (nu (jt L K) K (jq L K n n));simp only[<-eF]at hs ig iA ⊢;have w2n:=cQ (2*(n:Int)) (2*n);refine ag8 λQ T=>?_;refine T ?_;refine akW λQ T=>?_;rw[xl (by omega)];simp only[bI]
 try simp(disch:=omega)
 refine T ?_;obtain⟨ob,vB⟩:=aC h.length;obtain⟨h1,e1⟩:=aC (h++[⟨ints (List.replicate n 0),true⟩]);rw[<-e1,<-vB];have g1:ae h h1:=⟨_,e1⟩;have o:h1[ob]?=some ⟨ints (List.replicate n 0),true⟩:=by rw[e1,vB];simp
 have l1:h1.length=ob+1:=by rw[e1,vB];simp
 refine akW λQ T=>?_;rw[D6 _ _ (by omega)];simp only[bI]
 try simp(disch:=omega)
 refine T ?_;obtain⟨sb,DI⟩:=aC (ob+1);rw[l1,<-DI];obtain⟨h2,e2⟩:=aC (h1++[⟨kQ (List.replicate n false),true⟩]);rw[<-e2];have g2:ae h h2:=g1.trans ⟨_,e2⟩;have k2:h2[sb]?=some ⟨kQ (List.replicate n false),true⟩:=by rw[e2,DI,<-l1];simp
 have o:h2[ob]?=some ⟨ints (cP (qg L K n 0)),true⟩:=by rw[R8,e2,ai (by omega),o];simp[cP]
 have UA:ob≠sb:=by omega
 have O6:h.length<=sb:=by omega
 have W:h.length<=ob:=by omega
 rw[aw];generalize hP:aP aE _ _=PP;simp(disch:=omega);refine aU (λk σ h'=>k<=n∧ae h h'∧h'[ob]?=some ⟨ints (cP (qg L K n k)),true⟩∧h'[sb]?=some ⟨kQ (jq L K n k),true⟩∧σ 0=sl lb lo (2*n) ly∧σ 1=I n∧σ 5=.agg #[sl V ko n ky,I cl]∧σ 6=.agg #[sl 0 0 0 0,I 0]∧σ 7=.agg #[sl ob 0 n 1,I cl]∧σ 8=sl sb 0 n 1∧σ 9=I (n+k:Nat)) (λk=>n-k) 0 ?_ ?_
 ·exact⟨by omega,g2,o,k2,by simp,by simp,by simp,by simp,by simp,by simp,by simp⟩
 ·rintro k σ h'⟨t,C,R,A,X,q1,q5,Y,D,E,q9⟩;obtain⟨q,eq⟩:=aC (n+k);rw[<-eq]at q9;simp(disch:=omega)[q1,q9,w2n];refine aG (λbB=>?_) (λdG=>?_)
  ·have o:k<n:=by omega
   obtain⟨_,Pj⟩:=JC k o;have nJ:=Iq p d k (by omega);have JH:=λi hi=>E0 p d o nJ i hi;have oS:=λi (hi:i<=rU L K n k)=>Lb p d o i λj hj=>Pj.2 j (by omega);have NY:jq L K n (k+1)=wJ L K n k (jq L K n k) (rU L K n k):=rfl;have NU:Cf L K n k=fH L K n k (rU L K n k)-n:=rfl;have eos:=VU (L:=L) (K:=K) o;obtain⟨m,em⟩:=aC (rU L K n k);simp only[<-em]at Pj JH oS NY NU;have M:=T9 h' C q (by omega);have JV:q<2*n:=by omega
   have kk3:(q:Int)<2*(n:Int):=by omega
   have ep0:L.getD q 0=fH L K n k 0:=by rw[eq];rfl
   rw[ep0]at M;simp(disch:=omega)[X,q9,M,JV,kk3];refine aU (λi τ l=>i<=m∧ae h l∧l[ob]?=some ⟨ints (cP (qg L K n k)),true⟩∧l[sb]?=some ⟨kQ (wJ L K n k (jq L K n k) i),true⟩∧τ 0=sl lb lo (2*n) ly∧τ 1=I n∧τ 5=.agg #[sl V ko n ky,I cl]∧τ 6=.agg #[sl 0 0 0 0,I 0]∧τ 7=.agg #[sl ob 0 n 1,I cl]∧τ 8=sl sb 0 n 1∧τ 9=I q∧τ 10=I ((fH L K n k i:Nat):Int)) (λi=>m-i) 0 ?_ ?_
   ·exact⟨by omega,C,R,A,by simpa using X,by simpa using q1,by simpa using q5,by simpa using Y,by simpa using D,by simpa using E,by simpa using q9,by simp⟩
   rintro i τ l⟨hi,z,J,G,t0,t1,t5,t6,t7,Z,t9,N⟩;have Yj:=(JH i hi).len;have ha2:=oS i hi;have yc:jt L K (fH L K n k i)=fH L K n k (i+1):=rfl;have H:qV K (wJ L K n k (jq L K n k) i) (fH L K n k i)=wJ L K n k (jq L K n k) (i+1):=rfl;by_cases EH:i<m
   ·have b:=Pj.2 i EH;obtain⟨a,f⟩:=aC (fH L K n k i);rw[<-f]at b N yc H;have u:=d.lt a b;have hLa:=p.lt _ (show K.getD a 0<2*n by omega);have eta:jt L K a=L.getD (K.getD a 0) 0:=rfl;obtain⟨y,P,s1,s2,US,l3,l4,f3,f4⟩:=yM (K:=K) G Yj b u;have g3:=oH z O6 l3 f3;have O:=oH z O6 l4 f4;have c1:=NL y g3 a b;have c2:=NL P O a b;have v:=T9 P O _ (show K.getD a 0<2*n by omega);have UR:=J;rw[<-f4 ob UA]at UR;obtain⟨x,ex⟩:=aC (K.getD a 0);rw[<-ex]at u hLa eta s2 c1 c2 v;rw[H]at US;rw[<-eta,yc]at v;have MD:x<2*n:=by omega
    have ME:(x:Int)<2*(n:Int):=by omega
    simp(disch:=omega)[t0,t1,t5,Z,N,b,s1,s2,c1,c2,v,u,MD,ME];refine⟨i+1,?_,by omega⟩;and_intros<;>first|assumption|omega|rfl
   ·have:i=m:=by omega
    subst this;have b:=Pj.1;obtain⟨a,f⟩:=aC (fH L K n k i);rw[<-f]at b N ha2 NU;have na:¬a<n:=by omega
    have w3:=cQ ((a:Int)-n) (((a-n:Nat):Int));have w4:=cQ ((q:Int)-n) k;have st:=iF (x:=((a-n:Nat):Int)) J (k:=k) (by rw[jh,VT];exact o);rw[<-NU,eos]at st;rw[<-NU]at w3;obtain⟨y,e3⟩:=aC (l.set ob ⟨ints (cP (qg L K n (k+1))),true⟩);rw[<-e3]at st;have g3:ae h y:=by rw[e3];exact z.put W _
    have o3:y[ob]?=some ⟨ints (cP (qg L K n (k+1))),true⟩:=by rw[e3];exact jy J
    have s3:y[sb]?=some ⟨kQ (jq L K n (k+1)),true⟩:=by rw[e3,ag UA,NY];exact G
    simp(disch:=omega)[t1,N,na];simp(disch:=omega)[t1,t7,t9,N,w3,w4,o,st]
    try simp(disch:=omega)[t9,wrap64]
    refine⟨k+1,?_,by omega⟩;and_intros<;>first|assumption|omega|rfl|(congr 1;omega)
  ·have:k=n:=by omega
   subst this;simp(disch:=omega);subst hP;simp only[aq];rw[aw];generalize hP:aP aE _ _=PP;simp(disch:=omega);refine aU (λj σ h'=>j<=k∧ae h h'∧h'[ob]?=some ⟨ints (cP (qg L K k k)),true⟩∧h'[sb]?=some ⟨kQ (F j).1,true⟩∧σ 0=sl lb lo (2*k) ly∧σ 1=I k∧σ 5=.agg #[sl V ko k ky,I cl]∧σ 6=.agg #[sl 0 0 0 0,I 0]∧σ 7=.agg #[sl ob 0 k 1,I (cl+(F j).2:Nat)]∧σ 8=sl sb 0 k 1∧σ 11=I j) (λj=>k-j) 0 ?_ ?_
   ·exact⟨by omega,C,R,by rw[ig];exact A,by simpa using X,by simpa using q1,by simpa using q5,by simpa using Y,by rw[ig];simpa using D,by simpa using E,by simp⟩
   rintro j σ h'⟨hj,C,R,A,X,q1,q5,Y,D,E,oL⟩;simp(disch:=omega)[q1,oL];refine aG (λbB=>?_) (λdG=>?_)
   ·have U:j<k:=by omega
    obtain⟨gm,sM⟩:=iA j (by omega);have s:=hs j;have Eu:=vU A (k:=j) (by rw[gm.len];exact U);obtain⟨S,eS⟩:=aC ((F j).1);obtain⟨c,ec⟩:=aC ((F j).2);rw[<-eS]at gm A s Eu;rw[<-ec]at sM D s;cases Ba:S.getD j false
    ·rw[Ba]at s;simp only[ax,if_false]at s;obtain⟨m,em⟩:=aC (J5 (jt L K) K S j);have lt:=J7 d gm U;rw[<-em]at lt s;have lg:=λi (hi:i<=m)=>Cm d gm U i (λj hj=>lt.2 j (by omega));have Es:cell h' sb j=some (Am.B false):=by rw[Eu,Ba]
     simp(disch:=omega)[D,E,oL,U,Es,wrap64];refine aU (λi τ l=>i<=m∧ae h l∧l[ob]?=some ⟨ints (cP (qg L K k k)),true⟩∧l[sb]?=some ⟨kQ (tS (jt L K) K S j i),true⟩∧τ 0=sl lb lo (2*k) ly∧τ 1=I k∧τ 5=.agg #[sl V ko k ky,I cl]∧τ 6=.agg #[sl 0 0 0 0,I 0]∧τ 7=.agg #[sl ob 0 k 1,I (cl+(c+1):Nat)]∧τ 8=sl sb 0 k 1∧τ 11=I j∧τ 12=I ((dP (jt L K) i j:Nat):Int)) (λi=>m-i) 0 ?_ ?_
     ·refine⟨by omega,C,R,A,by simpa using X,by simpa using q1,by simpa using q5,by simpa using Y,?_,by simpa using E,by simpa using oL,by simp[dP]⟩;simp
      try omega
     rintro i τ l⟨hi,z,J,G,t0,t1,t5,t6,t7,Z,i5,oO⟩;obtain⟨Jr,b,_⟩:=lg i hi;have xZ:=vU G (k:=dP (jt L K) i j) (by rw[Jr.len];exact b);have yc:jt L K (dP (jt L K) i j)=dP (jt L K) (i+1) j:=rfl;have H:qV K (tS (jt L K) K S j i) (dP (jt L K) i j)=tS (jt L K) K S j (i+1):=rfl;obtain⟨a,f⟩:=aC (dP (jt L K) i j);rw[<-f]at b xZ oO yc H;by_cases EH:i<m
     ·have hu:=lt.2 i EH;rw[<-f]at hu;rw[hu]at xZ;have u:=d.lt a b;have eta:jt L K a=L.getD (K.getD a 0) 0:=rfl;obtain⟨y,P,s1,s2,US,l3,l4,f3,f4⟩:=yM (K:=K) G Jr.len b u;have g3:=oH z O6 l3 f3;have O:=oH z O6 l4 f4;have c1:=NL y g3 a b;have c2:=NL P O a b;have v:=T9 P O _ (show K.getD a 0<2*k by omega);have UR:=J;rw[<-f4 ob UA]at UR;obtain⟨x,ex⟩:=aC (K.getD a 0);rw[<-ex]at u eta s2 c1 c2 v;rw[H]at US;rw[<-eta,yc]at v;have MD:x<2*k:=by omega
      have ME:(x:Int)<2*(k:Int):=by omega
      simp(disch:=omega)[t0,t1,t5,Z,oO,b,xZ,s1,s2,c1,c2,v,u,MD,ME];refine⟨i+1,?_,by omega⟩;and_intros<;>first|assumption|omega|rfl
     ·have:i=m:=by omega
      subst this;have hu:=lt.1;rw[<-f]at hu;rw[hu]at xZ;simp(disch:=omega)[Z,oO,b,xZ];simp(disch:=omega)[t0,t1,t5,t7,Z,i5,wrap64];refine⟨j+1,?_,by omega⟩;rw[s];and_intros<;>first|assumption|omega|rfl
    ·rw[Ba]at s;simp only[if_true]at s;have Es:cell h' sb j=some (Am.B true):=by rw[Eu,Ba]
     simp(disch:=omega)[E,oL,U,Es,wrap64];refine⟨j+1,?_,by omega⟩;rw[s,<-eS,<-ec];and_intros<;>first|assumption|omega|rfl
   ·have:j=k:=by omega
    subst this;simp(disch:=omega);subst hP;simp(disch:=omega)[Y,D];exact⟨C,sl ob 0 j 1,by simp,.inr ⟨ob,j,rfl,by simp[ints,cP,qg],W,R⟩⟩
theorem agZ{x n y:Nat}{l u:Bool}(ok:kK n y u):∃c r,vQ x n y l u=c*n+r∧r<n∧c=(if l then x-1 else x)∧r=(if u then y-1 else y):=by refine⟨_,_,rfl,?_,rfl,rfl⟩;unfold kK at ok;cases u<;>simp at ok ⊢<;>omega
theorem aDU{n c r:Nat}(a:r<n):Int.tdiv ((c*n+r:Nat):Int) n=c∧Int.tmod ((c*n+r:Nat):Int) n=r:=by
 have hn:0<n:=by omega
 rw[fD (by omega),cj (by omega),<-Int.natCast_ediv,<-Int.natCast_emod];rw[pC,Nat.add_mul_div_right _ _ hn,Nat.div_eq_of_lt a,dt,Nat.add_mul_mod_self_right,ff a];exact⟨rfl,rfl⟩
theorem c44(h:a9)(x y n nb i lb:Nat)(l u left:Bool)(hn:1<=n∧n<=16)(hx:1<=x∧x<=16)(ok:kK n y u)(d:cell h nb 0=some (I n))(p:cell h i 0=some (I x))(s:cell h lb 0=some (B left)):aN aE 44 [I (vQ x n y l u:Nat),pt nb 0,pt i 0,pt lb 0] h λr h'=>r=I (tR n (l==left) u y:Nat)∧h'=h:=by
 obtain⟨c,r,e,o,b,m⟩:=agZ (x:=x) (l:=l) ok;obtain⟨f,g⟩:=aDU (c:=c) o;obtain⟨A,a⟩:=aC (tR n (l==left) u y);rw[<-a,e];unfold tR at a;have t:c<=16:=by rw[b];split<;>omega
 have w1:=cQ (c:Int) c;have w2:=cQ ((n:Int)+r) (n+r);have j:¬n=0:=by omega
 rw[<-m]at a;refine afq ?_;obtain⟨S,k⟩:∃S:Int,S=((c*n+r:Nat):Int):=⟨_,rfl⟩;rw[<-k]at f g ⊢;simp(disch:=omega)[d,p,s,f,g,w1,w2,j];cases l
 ·have q:¬c<x:=by rw[b];simp
  cases left
  ·have:A=r:=by rw[a];simp
   simp(disch:=omega)[q,this]
  ·have:(A:Int)=n+r:=by rw[a];simp
   simp(disch:=omega)[q,this,d,w2]
 ·have q:c<x:=by rw[b];simp;omega
  cases left
  ·have:(A:Int)=n+r:=by rw[a];simp
   simp(disch:=omega)[q,this,d,w2]
  ·have:A=r:=by rw[a];simp
   simp(disch:=omega)[q,this]
def Ff(n y:Nat)(left:Bool)(p:vg×vg):Nat×Nat:=(tR n (p.1.1==left) p.1.2 y,tR n (p.2.1==left) p.2.2 y)
theorem agz{n y:Nat}{kd:Nat->Int}(hn:2<=n)(hy:y<=n):∀p∈BY n y kd,kK n y p.1.2∧kK n y p.2.2:=by
 unfold BY kK;split
 ·rename_i h;simp;omega
 ·split
  ·simp;omega
  ·split
   ·simp;omega
   ·split<;>simp<;>omega
theorem agB{x n y:Nat}{kd:Nat->Int}{left:Bool}(hn:2<=n)(hy:y<=n)(hp:(x+y)%2=1)(h0:kd 0=0)(c:kd n=0):∀p∈BY n y kd,Nv x n kd (Ff n y left p)∧uX x n (Ff n y left p).1=y:=by
 intro p hm;obtain⟨o1,o2⟩:=agz hn hy p hm;obtain⟨a,d,b,e⟩:=MN (s:=(p.1.1==left)) hp o1;refine⟨⟨a,?_⟩,b⟩;unfold Ff;simp only;rw[Th hp o1];have key:Mg kd y (p.1.1==left)=(p.2.1==left)∧Mh n kd y p.1.2=p.2.2:=by
  clear a d b e o1 o2;unfold BY at hm;unfold Mg Mh;split at hm
  ·rename_i q;simp at hm;subst hm;subst q;cases left<;>simp[h0]
  ·split at hm
   ·rename_i q;simp at hm;subst hm;subst q;cases left<;>simp[c]
   ·split at hm
    ·rename_i q1 q2 q;simp at hm;rcases hm with rfl|rfl<;>cases left<;>simp[q,q1,q2]
    ·split at hm
     ·rename_i q1 q2 _ q;simp at hm;rcases hm with rfl|rfl<;>cases left<;>simp[q]
     ·rename_i q1 q2 f g;simp at hm;rcases hm with rfl|rfl<;>cases left<;>simp[q1,q2,f,g]
 rw[key.1,key.2]
theorem YH{x n y:Nat}{kd:Nat->Int}{left:Bool}(hn:2<=n):∀i,i<2*n->uX x n i=y->Nt ((BY n y kd).map (Ff n y left)) i:=by
 intro i hi e;obtain⟨a,b,c,d⟩:=C8 (x:=x) hi;rw[e]at a b c d;obtain⟨s,es⟩:=aC (Pw n i);obtain⟨u,f⟩:=aC (KL x n i);rw[<-es,<-f]at c;rw[<-f]at b;rw[<-c];clear c e es f hi;unfold kK at b;unfold Nt BY Ff;split
 ·rename_i q;have:u=false:=by cases u<;>simp at b ⊢;omega
  subst this;refine⟨_,by simp only[bX,bR];exact .inl rfl,?_⟩;cases s<;>cases left<;>simp
 ·split
  ·rename_i q;have:u=true:=by cases u<;>simp at b ⊢;omega
   subst this;refine⟨_,by simp only[bX,bR];exact .inl rfl,?_⟩;cases s<;>cases left<;>simp
  ·split
   ·cases s<;>cases left<;>cases u<;>simp
   ·split
    ·cases s<;>cases left<;>cases u<;>simp
    ·cases s<;>cases left<;>cases u<;>simp
noncomputable def WA:Code:=match P9.code with
 |.seq _ (.seq _ (.seq _ (.seq _ (.seq _ t))))=>t
 |_=>.skip
theorem aC5(h0 h:a9)(hg0:ae h0 h)(hp:0<h.length)(σ:Nat->Value)(L K:List Nat)(n J ko ky nb lb:Nat)(A:iO L (2*n))(f:iO K n)(hn:n<=32)(ca0:aZ h lb 0 (2*n)=some (ints (cP L)))(cb0:n=0∨aZ h J ko n=some (ints (cP K)))(P:cell h nb 0=some (I n))(s2:σ 2=sl J ko n ky)(y:σ 10=pt nb 0)(s11:σ 11=sl lb 0 (2*n) 1):
  tM aE WA (zn [(8,0),(9,0)] λr h'=>ae h0 h'∧∃w,r=.tuple #[w,I ((pN L K n).2:Nat)]∧bP h0 h' w 1 (ints (cP (pN L K n).1))) σ h:=by
 have T9:∀h',ae h h'->∀k,k<2*n->cell h' lb k=some (I (L.getD k 0)):=λh' g k D=>by
  have:=uG (k:=k) (h:=h') (b:=lb) (o:=0) (l:=L) (.inr (by rw[A.len];exact g.aZ ca0)) (by rw[A.len];exact D);simpa using this
 have NL:∀h',ae h h'->∀k,k<n->cell h' J (ko+k)=some (I (K.getD k 0)):=λh' g k D=>uG (by rw[f.len];exact cb0.imp id λe=>g.aZ e) (by rw[f.len];exact D);have JC:=λk D=>Ce A f (k:=k) D;have g0:=Ip A f;have iA:=λk D=>EY f g0 k D;have hs:∀k,nu (jt L K) K (jq L K n n) (k+1)=if(nu (jt L K) K (jq L K n n) k).1.getD k false then nu (jt L K) K (jq L K n n) k else(tS (jt L K) K (nu (jt L K) K (jq L K n n) k).1 k (J5 (jt L K) K (nu (jt L K) K (jq L K n n) k).1 k),(nu (jt L K) K (jq L K n n) k).2+1):=λ_=>rfl;have ig:nu (jt L K) K (jq L K n n) 0=(jq L K n n,0):=rfl;have eR1:(pN L K n).1=qg L K n n:=VS.symm;have eR2:(pN L K n).2=(nu (jt L K) K (jq L K n n) n).2:=rfl;rw[eR1,eR2];obtain⟨F,eF⟩:=aC (nu (jt L K) K (jq L K n n));simp only[<-eF]at hs ig iA ⊢;dsimp only[WA,P9];refine bg λQ hQ=>?_;simp(disch:=omega)[y,P];rw[xl (by omega)];simp only[bI];obtain⟨ob,vB⟩:=aC h.length;obtain⟨h1,e1⟩:=aC (h++[⟨ints (List.replicate n 0),true⟩]);rw[<-e1,<-vB];have g1:ae h h1:=⟨_,e1⟩;have s:h1[ob]?=some ⟨ints (List.replicate n 0),true⟩:=by rw[e1,vB];simp
 have l1:h1.length=ob+1:=by rw[e1,vB];simp
 have uE:=g1.cell P
 try simp(disch:=omega)[y,uE]
 rw[D6 _ _ (by omega)];simp only[bI];obtain⟨sb,DI⟩:=aC (ob+1);rw[l1,<-DI];obtain⟨h2,e2⟩:=aC (h1++[⟨kQ (List.replicate n false),true⟩]);rw[<-e2];have g2:ae h h2:=g1.trans ⟨_,e2⟩;have k2:h2[sb]?=some ⟨kQ (List.replicate n false),true⟩:=by rw[e2,DI,<-l1];simp
 have s:h2[ob]?=some ⟨ints (cP (qg L K n 0)),true⟩:=by rw[R8,e2,ai (by omega),s];simp[cP]
 have UA:ob≠sb:=by omega
 have O6:h.length<=sb:=by omega
 have olo:h.length<=ob:=by omega
 try simp(disch:=omega)
 refine hQ ?_;have mA:=g2.cell P;rw[aw];generalize hP:aP aE _ _=PP;simp(disch:=omega)[y,mA];refine aU (λk σ h'=>k<=n∧ae h h'∧h'[ob]?=some ⟨ints (cP (qg L K n k)),true⟩∧h'[sb]?=some ⟨kQ (jq L K n k),true⟩∧σ 2=sl J ko n ky∧σ 10=pt nb 0∧σ 11=sl lb 0 (2*n) 1∧σ 18=sl ob 0 n 1∧σ 19=sl sb 0 n 1∧σ 71=I n∧σ 72=I k) (λk=>n-k) 0 ?_ ?_
 ·exact⟨by omega,g2,s,k2,by simpa using s2,by simpa using y,by simpa using s11,by simp,by simp,by simp,by simp⟩
 ·rintro k σ h'⟨D,C,hO,O,q2,nK,oL,tU,xe,q71,M⟩;simp(disch:=omega)[q71,M];refine aG (λbB=>?_) (λdG=>?_)
  ·have s:k<n:=by omega
   obtain⟨q,eq⟩:=aC (n+k);have w2n:=cQ ((n:Int)+k) q;obtain⟨_,Pj⟩:=JC k s;have nJ:=Iq A f k (by omega);have JH:=λi hi=>E0 A f s nJ i hi;have oS:=λi (hi:i<=rU L K n k)=>Lb A f s i λj hj=>Pj.2 j (by omega);have NY:jq L K n (k+1)=wJ L K n k (jq L K n k) (rU L K n k):=rfl;have NU:Cf L K n k=fH L K n k (rU L K n k)-n:=rfl;have eos:=VU (L:=L) (K:=K) s;obtain⟨m,em⟩:=aC (rU L K n k);simp only[<-em]at Pj JH oS NY NU;have X:=T9 h' C q (by omega);have LH:=C.cell P;have JV:q<2*n:=by omega
   have kk3:(q:Int)<2*(n:Int):=by omega
   have ep0:L.getD q 0=fH L K n k 0:=by rw[eq];rfl
   rw[ep0]at X;simp(disch:=omega)[nK,oL,M,LH,w2n,X,JV,kk3];refine aU (λi τ p=>i<=m∧ae h p∧p[ob]?=some ⟨ints (cP (qg L K n k)),true⟩∧p[sb]?=some ⟨kQ (wJ L K n k (jq L K n k) i),true⟩∧τ 2=sl J ko n ky∧τ 10=pt nb 0∧τ 11=sl lb 0 (2*n) 1∧τ 18=sl ob 0 n 1∧τ 19=sl sb 0 n 1∧τ 71=I n∧τ 72=I k∧τ 20=I k∧τ 21=I ((fH L K n k i:Nat):Int)) (λi=>m-i) 0 ?_ ?_
   ·exact⟨by omega,C,hO,O,by simpa using q2,by simpa using nK,by simpa using oL,by simpa using tU,by simpa using xe,by simpa using q71,by simpa using M,by simp,by simp⟩
   rintro i τ p⟨hi,u,U,R,t2,d8,i5,t18,z,t71,t72,t20,td⟩;have Yj:=(JH i hi).len;have ha2:=oS i hi;have DK:=u.cell P;have yc:jt L K (fH L K n k i)=fH L K n k (i+1):=rfl;have T:qV K (wJ L K n k (jq L K n k) i) (fH L K n k i)=wJ L K n k (jq L K n k) (i+1):=rfl;by_cases EH:i<m
   ·have d:=Pj.2 i EH;obtain⟨a,H⟩:=aC (fH L K n k i);rw[<-H]at d td yc T;have E:=f.lt a d;have hLa:=A.lt _ (show K.getD a 0<2*n by omega);have eta:jt L K a=L.getD (K.getD a 0) 0:=rfl;obtain⟨Z,h4,s1,s2,US,l3,l4,f3,f4⟩:=yM (K:=K) R Yj d E;have g3:=oH u O6 l3 f3;have Y:=oH u O6 l4 f4;have W:=NL p u a d;have c2:=NL h4 Y a d;have G:=T9 h4 Y _ (show K.getD a 0<2*n by omega);have UR:=U;rw[<-f4 ob UA]at UR;obtain⟨x,ex⟩:=aC (K.getD a 0);rw[<-ex]at E hLa eta s2 W c2 G;rw[T]at US;rw[<-eta,yc]at G;have MD:x<2*n:=by omega
    have ME:(x:Int)<2*(n:Int):=by omega
    simp(disch:=omega)[t2,d8,i5,z,td,DK,d,s1,s2,W,c2,G,E,MD,ME];refine⟨i+1,?_,by omega⟩;and_intros<;>first|assumption|omega|rfl
   ·have:i=m:=by omega
    subst this;have d:=Pj.1;obtain⟨a,H⟩:=aC (fH L K n k i);rw[<-H]at d td ha2 NU;have na:¬a<n:=by omega
    have w3:=cQ ((a:Int)-n) (((a-n:Nat):Int));have st:=iF (x:=((a-n:Nat):Int)) U (k:=k) (by rw[jh,VT];exact s);rw[<-NU,eos]at st;rw[<-NU]at w3;obtain⟨Z,e3⟩:=aC (p.set ob ⟨ints (cP (qg L K n (k+1))),true⟩);rw[<-e3]at st;have g3:ae h Z:=by rw[e3];exact u.put olo _
    have o3:Z[ob]?=some ⟨ints (cP (qg L K n (k+1))),true⟩:=by rw[e3];exact jy U
    have s3:Z[sb]?=some ⟨kQ (jq L K n (k+1)),true⟩:=by rw[e3,ag UA,NY];exact R
    simp(disch:=omega)[d8,td,na,DK];simp(disch:=omega)[d8,t18,t20,td,DK,w3,s,st]
    try simp(disch:=omega)[t72,wrap64]
    refine⟨k+1,?_,by omega⟩;and_intros<;>first|assumption|omega|rfl|(congr 1;omega)
  ·have:k=n:=by omega
   subst this;simp(disch:=omega);subst hP;simp only[aq];refine akW λQ hQ=>?_;refine hQ ?_;have LH:=C.cell P;rw[aw];generalize hP:aP aE _ _=PP;simp(disch:=omega)[nK,LH];refine aU (λj σ h'=>j<=k∧ae h h'∧h'[ob]?=some ⟨ints (cP (qg L K k k)),true⟩∧h'[sb]?=some ⟨kQ (F j).1,true⟩∧σ 2=sl J ko k ky∧σ 11=sl lb 0 (2*k) 1∧σ 18=sl ob 0 k 1∧σ 19=sl sb 0 k 1∧σ 22=I ((F j).2:Nat)∧σ 107=I k∧σ 108=I j) (λj=>k-j) 0 ?_ ?_
   ·exact⟨by omega,C,hO,by rw[ig];exact O,by simpa using q2,by simpa using oL,by simpa using tU,by simpa using xe,by rw[ig];simp,by simp,by simp⟩
   rintro j σ h'⟨hj,C,hO,O,q2,oL,tU,xe,vN,V,t⟩;simp(disch:=omega)[V,t];refine aG (λbB=>?_) (λdG=>?_)
   ·have j1:j<k:=by omega
    obtain⟨gm,sM⟩:=iA j (by omega);have v:=hs j;have Eu:=vU O (k:=j) (by rw[gm.len];exact j1);obtain⟨S,eS⟩:=aC ((F j).1);obtain⟨c,ec⟩:=aC ((F j).2);rw[<-eS]at gm O v Eu;rw[<-ec]at sM vN v;cases Ba:S.getD j false
    ·rw[Ba]at v;simp only[ax,if_false]at v;obtain⟨m,em⟩:=aC (J5 (jt L K) K S j);have lt:=J7 f gm j1;rw[<-em]at lt v;have lg:=λi (hi:i<=m)=>Cm f gm j1 i (λj hj=>lt.2 j (by omega));have Es:cell h' sb j=some (Am.B false):=by rw[Eu,Ba]
     simp(disch:=omega)[xe,vN,t,j1,Es,wrap64];refine aU (λi τ p=>i<=m∧ae h p∧p[ob]?=some ⟨ints (cP (qg L K k k)),true⟩∧p[sb]?=some ⟨kQ (tS (jt L K) K S j i),true⟩∧τ 2=sl J ko k ky∧τ 11=sl lb 0 (2*k) 1∧τ 18=sl ob 0 k 1∧τ 19=sl sb 0 k 1∧τ 22=I ((c+1:Nat):Int)∧τ 107=I k∧τ 108=I j∧τ 24=I ((dP (jt L K) i j:Nat):Int)) (λi=>m-i) 0 ?_ ?_
     ·refine⟨by omega,C,hO,O,by simpa using q2,by simpa using oL,by simpa using tU,by simpa using xe,?_,by simpa using V,by simpa using t,by simp[dP]⟩;simp
      try omega
     rintro i τ p⟨hi,u,U,R,t2,i5,t18,z,t22,a3m,aTF,N⟩;obtain⟨Jr,d,_⟩:=lg i hi;have xZ:=vU R (k:=dP (jt L K) i j) (by rw[Jr.len];exact d);have yc:jt L K (dP (jt L K) i j)=dP (jt L K) (i+1) j:=rfl;have T:qV K (tS (jt L K) K S j i) (dP (jt L K) i j)=tS (jt L K) K S j (i+1):=rfl;obtain⟨a,H⟩:=aC (dP (jt L K) i j);rw[<-H]at d xZ N yc T;by_cases EH:i<m
     ·have hu:=lt.2 i EH;rw[<-H]at hu;rw[hu]at xZ;have E:=f.lt a d;have eta:jt L K a=L.getD (K.getD a 0) 0:=rfl;obtain⟨Z,h4,s1,s2,US,l3,l4,f3,f4⟩:=yM (K:=K) R Jr.len d E;have g3:=oH u O6 l3 f3;have Y:=oH u O6 l4 f4;have W:=NL p u a d;have c2:=NL h4 Y a d;have G:=T9 h4 Y _ (show K.getD a 0<2*k by omega);have UR:=U;rw[<-f4 ob UA]at UR;obtain⟨x,ex⟩:=aC (K.getD a 0);rw[<-ex]at E eta s2 W c2 G;rw[T]at US;rw[<-eta,yc]at G;have MD:x<2*k:=by omega
      have ME:(x:Int)<2*(k:Int):=by omega
      simp(disch:=omega)[t2,i5,z,N,d,xZ,s1,s2,W,c2,G,E,MD,ME];refine⟨i+1,?_,by omega⟩;and_intros<;>first|assumption|omega|rfl
     ·have:i=m:=by omega
      subst this;have hu:=lt.1;rw[<-H]at hu;rw[hu]at xZ;simp(disch:=omega)[z,N,d,xZ];simp(disch:=omega)[aTF,wrap64];refine⟨j+1,?_,by omega⟩;rw[v];and_intros<;>first|assumption|omega|rfl
    ·rw[Ba]at v;simp only[if_true]at v;have Es:cell h' sb j=some (Am.B true):=by rw[Eu,Ba]
     simp(disch:=omega)[xe,t,j1,Es,wrap64];refine⟨j+1,?_,by omega⟩;rw[v,<-eS,<-ec];and_intros<;>first|assumption|omega|rfl
   ·have:j=k:=by omega
    subst this;simp(disch:=omega);subst hP;simp(disch:=omega)[tU,vN];exact⟨hg0.trans C,.inr ⟨ob,j,rfl,by simp[ints,cP,qg],by have:=hg0.le;omega,hO⟩⟩
end Am

/- Contracts of functions. -/
import Derived.Test.YtpgioncclmancaaGreatPK19
set_option linter.unusedVariables false
set_option linter.unusedSimpArgs false
set_option maxHeartbeats 4000000
set_option maxRecDepth 40000
namespace Am
open Go
section
variable {lo sb wb wz al : Nat} {fd : Bool} {W H c : Int} {h : a9} {br : List Int} {now fst : fE}
theorem sV.mono{f:Nat}(x:sV lo sb wb wz W H c h br now fd fst al)(e:al<=f):sV lo sb wb wz W H c h br now fd fst f:=by obtain⟨nb,ny,ab,an,ay,fv,j7,pZ,oB,a,b,d⟩:=x;exact⟨nb,ny,ab,an,ay,fv,j7,pZ,oB,a,by omega,d⟩
theorem sV.none{f:fE}(x:sV lo sb wb wz W H c h br now false fst al):sV lo sb wb wz W H c h br now false f al:=by obtain⟨nb,ny,ab,an,ay,fv,j7,pZ,oB,a,b,d⟩:=x;exact⟨nb,ny,ab,an,ay,fv,j7,pZ,oB,a,b,λe=>by cases e⟩
theorem sV.pos(x:sV lo sb wb wz W H c h br now fd fst al):0<lo∧sb<h.length:=by obtain⟨nb,ny,ab,an,ay,fv,j7,pZ,oB,a,b,d⟩:=x;exact⟨a.zX.2,bZ a.box⟩
theorem sV.cells(x:sV lo sb wb wz W H c h br now fd fst al):cell h sb 2=some (sl wb 0 br.length wz)∧cell h sb 6=some (B fd):=by obtain⟨nb,ny,ab,an,ay,fv,j7,pZ,oB,a,b,d⟩:=x;exact⟨i9 a.box (by simp),i9 a.box (by simp)⟩
theorem sV.brk{k:Nat}(x:sV lo sb wb wz W H c h br now fd fst al)(f:k<br.length):cell h wb k=some (I (br.getD k 0)):=by
 obtain⟨nb,ny,ab,an,ay,fv,j7,pZ,oB,a,b,d⟩:=x;have g:br≠[]:=by intro e;rw[e]at f;simp at f
 exact i9 (a.w.resolve_left g).1 (by simp[ints,aA,ah f])
theorem sV.Tk{k:Nat}{y:Int}(x:sV lo sb wb wz W H c h br now fd fst al)(f:k<br.length):wz=1∧∃h1,storeAt h wb k [I y]=some h1∧sV lo sb wb wz W H c h1 (br.set k y) now fd fst al∧fX lo h h1:=by
 obtain⟨nb,ny,ab,an,ay,fv,j7,pZ,oB,a,b,d⟩:=x;obtain⟨e,h1,s,p,sm,o,_⟩:=a.Tk (y:=y) f;have g:br≠[]:=by intro e;rw[e]at f;simp at f
 refine⟨e,h1,s,⟨nb,ny,ab,an,ay,fv,j7,pZ,oB,p,b,λq=>?_⟩,sm⟩;obtain⟨fb,i,j⟩:=d q;refine⟨fb,i,j.imp id λ⟨l,m,n⟩=>?_⟩;have:=n.resolve_left g;exact⟨by rw[o _ this];exact l,m,.inr this⟩
theorem sV.asy{p:Int×Int}(x:sV lo sb wb wz W H c h br now false fst al)(hl:now.length<=100)(j:lo<=h.length):∃nb ny h1 f,cell h sb 4=some (sl nb 0 now.length ny)∧cu 2 (h++[⟨[I p.1,I p.2],true⟩]) (sl h.length 0 1 2) (sl nb 0 now.length ny)=some (sl f 0 (now.length+1) 2,h1)∧∃g,storeAt h1 sb 4 [sl f 0 (now.length+1) 2]=some g∧fX lo h g∧sV lo sb wb wz W H c g br (now++[p]) false fst al:=by obtain⟨nb,ny,ab,an,ay,fv,j7,pZ,oB,a,b,d⟩:=x;obtain⟨h1,f,A,i,sm,l,_⟩:=a.push (p:=p) hl j;have k:=i.trans a.box;refine⟨nb,ny,h1,f,i9 a.box (by simp),A,_,yE k (by simp),sm.trans (fX.put a.zX.1),⟨f,2,ab,an,ay,fv,j7,pZ,oB,l,b,λe=>by cases e⟩⟩
theorem sV.asu{p:Int×Int}(x:sV lo sb wb wz W H c h br (now++[p]) fd fst al):∃nb,cell h sb 4=some (sl nb 0 (now.length+1) 2)∧∃h1,storeAt h sb 4 [sl nb 0 now.length 2]=some h1∧fX lo h h1∧sV lo sb wb wz W H c h1 br now fd fst al:=by
 obtain⟨nb,ny,ab,an,ay,fv,j7,pZ,oB,a,b,d⟩:=x;obtain⟨n1,n2,n3,l,s,rest,t⟩:=a.n.resolve_left (λe=>by simp at e);subst n1;have g:=a.box;rw[show(now++[p]).length=now.length+1 by simp]at g;refine⟨nb,i9 g (by simp),_,yE g (by simp),fX.put a.zX.1,⟨nb,2,ab,an,ay,fv,j7,pZ,oB,⟨?_,a.z,?_,?_,?_,a.zX,a.f⟩,b,?_⟩⟩
 ·rw[jy g];simp
 ·exact a.w.imp id λe=>⟨by rw[a.other e.2.2];exact e.1,e.2⟩
 ·refine .inr ⟨rfl,n2,n3,l,s,[I p.1,I p.2]++rest,?_⟩;rw[a.other l,t,My,cC]
 ·exact a.a.imp id λ⟨o,b1,c1,k,i,j,r,f⟩=>⟨o,b1,c1,k,i,j,r,by rw[a.other k];exact f.1,f.2⟩
 ·intro q;obtain⟨fb,i,j⟩:=d q;exact⟨fb,i,j.imp id λ⟨u,m,v⟩=>⟨by rw[a.other m];exact u,m,v⟩⟩
end
def Zf(fd:Bool)(fst:fE)(L:Prop)(a:Option fE):Prop:=(fd=false∧L)∨(fd=true∧a=some fst)
def KP(lo sb wb wz:Nat)(W H c:Int)(h h':a9)(br:List Int)(now:fE)(al:Nat)(L:Prop)(a:Option fE):Prop:=∃fd fst,fX lo h h'∧sV lo sb wb wz W H c h' br now fd fst al∧Zf fd fst L a
def aoa(lo sb wb wz:Nat)(W H c:Int)(h h':a9)(br:List Int)(now:fE)(al:Nat)(L:Prop):Prop:=fX lo h h'∧sV lo sb wb wz W H c h' br now false [] al∧L
def Zd(lo sb wb wz:Nat)(W H c:Int)(h h':a9)(br:List Int)(k:Nat)(now:fE)(al:Nat)(L:Prop):Prop:=∃x:Int,fX lo h h'∧sV lo sb wb wz W H c h' (br.set k x) now false [] al∧L
theorem KP.cells{lo sb wb wz:Nat}{W H c:Int}{h h':a9}{br:List Int}{now:fE}{al:Nat}{L:Prop}{a:Option fE}(x:KP lo sb wb wz W H c h h' br now al L a):∃fd:Bool,cell h' sb 2=some (sl wb 0 br.length wz)∧cell h' sb 6=some (B fd)∧(fd=false->aoa lo sb wb wz W H c h h' br now al L)∧(fd=true->∃fst,fX lo h h'∧sV lo sb wb wz W H c h' br now true fst al∧a=some fst):=by
 obtain⟨fd,fst,s,S,o⟩:=x;refine⟨fd,S.cells.1,S.cells.2,?_,?_⟩
 ·rintro rfl;rcases o with⟨_,o⟩|⟨e,_⟩
  ·exact⟨s,S.none,o⟩
  ·cases e
 ·rintro rfl;rcases o with⟨e,_⟩|⟨_,o⟩
  ·cases e
  ·exact⟨fst,s,S,o⟩
theorem c10(lo sb wb wz:Nat)(W H c:Int):∀(l:Nat) (h:a9) (k0:Nat) (br:List Int) (now D:fE) (al:Nat),0<h.length->sV lo sb wb wz W H c h br now false D al->fg (W,H,br)->br.length<=12->k0<=br.length->now.length+l<=3->lo<=h.length->al+36^l<=99999->
  aN aE 10 [pt sb 0,I k0,I l,B true] h λr h'=>r=.tuple #[]∧KP lo sb wb wz W H c h h' br now (al+36^l) (zb W H c l k0 br now=none) (zb W H c l k0 br now):=by
 intro l
 induction l with
 |zero=>
  intro h k0 br now D al hp hS ok hb hk hl fh V;have c9':=c9 lo sb wb wz W H c h hp br now D al hS ok (by omega) (by omega) fh;have E:zb W H c 0 k0 br now=if(bC (W,H,br):Int)=c then some now else none:=rfl;obtain⟨a,P⟩:=aC (zb W H c 0 k0 br now);rw[<-P]at E ⊢;refine afq ?_;rw[aw,aw,cy];generalize b:aP aE _ _ 0=K;simp(disch:=omega);subst b;simp only[aq];rw[Mo];generalize b:aP aE _ _=K;simp(disch:=omega);refine aO c9' ?_;rintro _ h2⟨rfl,s2,S2⟩;subst b;simp(disch:=omega);refine⟨_,_,s2,S2.mono (by omega),?_⟩;by_cases q:(bC (W,H,br):Int)=c
  ·rw[if_pos q]at E;exact .inr ⟨decide_eq_true q,E⟩
  ·rw[if_neg q]at E;exact .inl ⟨decide_eq_false q,E⟩
 |succ l ih=>
  intro h k0 br now D al hp hS ok hb hk hl fh V;obtain⟨f,ef⟩:∃f:Nat->Nat->Option fE,f=λ(k kd:Nat)=>zb W H c l (k+1) (br.set k (kd:Int)) (now++[((k:Int),(kd:Int))]):=⟨_,rfl⟩;have efk:∀k kd,f k kd=zb W H c l (k+1) (br.set k (kd:Int)) (now++[((k:Int),(kd:Int))]):=λk kd=>by rw[ef]
  obtain⟨a,P⟩:=aC (zb W H c (l+1) k0 br now);have LP0:yA f br k0 a:=by rw[P,ef];rfl
  rw[<-P];clear P ef;obtain⟨T,eT⟩:∃T:Nat,T=36^l:=⟨_,rfl⟩;have e36:36^(l+1)=36*T:=by rw[eT,af2,pE]
  rw[e36]at V ⊢;rw[<-eT]at ih;obtain⟨n,en⟩:=aC br.length;have wl:=cQ (((l+1:Nat):Int)-1) (l:Int);have wl':=cQ ((l:Int)+1-1) (l:Int);have wl2:IntKind.i64.wrap (l:Int)=(l:Int):=by rw[wrap64 (by omega) (by omega)]
  refine afq ?_;rw[aw,aw,cy];generalize b:aP aE _ _ 0=K;simp(disch:=omega);subst b;simp only[aq];rw[Mo];generalize b:aP aE _ _=K;simp(disch:=omega);subst b;simp only[aq];rw[aw,cy];generalize b:aP aE _ _ 0=K;simp(disch:=omega);subst b;simp only[aq];rw[gJ];refine aU (λk σ h'=>k<=n∧KP lo sb wb wz W H c h h' br now (al+3*k*T) (yA f br k a) a∧σ 0=pt sb 0∧σ 2=I ((l+1:Nat):Int)∧σ 3=B true∧σ 8=I k) (λk=>n-k) k0 ?_ ?_
  ·exact⟨by omega,⟨false,D,fX.refl,hS.mono (by omega),.inl ⟨rfl,LP0⟩⟩,by simp,by simp,by simp,by simp⟩
  rintro k σ h'⟨sk,R,Y,q2,Z,q8⟩;have fin:∀fst,fX lo h h'->(∀fd,sV lo sb wb wz W H c h' br now fd fst (al+3*k*T)->Zf fd fst (a=none) a->KP lo sb wb wz W H c h h' br now (al+36*T) (a=none) a):=by intro fst s fd S o;have:3*k*T<=36*T:=bM T (by omega);exact⟨fd,fst,s,S.mono (by omega),o⟩
  obtain⟨fd,c2,m,nof,yes⟩:=R.cells;rw[<-en]at c2;cases fd with
  |true=>
   obtain⟨fst,s,S,Q⟩:=yes rfl;have F:=fin fst s true S (.inr ⟨rfl,Q⟩);by_cases t:k<n
   ·simp(disch:=omega)[Y,Z,q8,c2,m,t];exact F
   ·simp(disch:=omega)[Y,Z,q8,c2,m,t];exact F
  |false=>
  obtain⟨s,S,R⟩:=nof rfl;by_cases t:k<n
  case neg=>
   have eRn:a=none:=by unfold yA at R;rw[<-R,show br.length-k=0 by omega];rfl
   have F:=fin [] s false S (.inl ⟨rfl,eRn⟩);simp(disch:=omega)[Y,Z,q8,c2,m,t];exact F
  simp(disch:=omega)[Y,Z,q8,c2,m,t];have cb:=S.brk (k:=k) (by omega);have LK0:=R.k (by omega:k<br.length);obtain⟨j,G⟩:=aC (br.getD k 0);rw[<-G]at cb;have M:∀x:Int,(br.set k x).set k j=br:=by intro x;rw[iZ,G,aA,ah (by omega)];simp
  simp(disch:=omega)[cb];generalize hP:eY 2 _=PP;have post:∀(τ:Nat->Value) (d:a9) (x:Int) (fd:Bool) (fst:fE),fX lo h d->sV lo sb wb wz W H c d (br.set k x) now fd fst (al+3*(k+1)*T)->Zf fd fst (yA f br (k+1) a) a->τ 0=pt sb 0->τ 2=I ((l+1:Nat):Int)->τ 3=B true->τ 8=I k->τ 9=I j->PP 4 τ d:=by
   intro τ d x fd fst s S o u v w z i;obtain⟨e1,h1,st,J,s1⟩:=S.Tk (k:=k) (y:=j) (by rw[aS];omega);rw[M]at J;have N:=S.cells.1;rw[aS,<-en,e1]at N;have Zc:=cQ ((k:Int)+1) (((k+1:Nat):Int));have L:KP lo sb wb wz W H c h h1 br now (al+3*(k+1)*T) (yA f br (k+1) a) a:=⟨fd,fst,s.trans s1,J,o⟩;subst hP;rw[fk,if_pos rfl];simp(disch:=omega)[u,v,w,z,i,N,t,st]
   try simp(disch:=omega)[wrap64]
   refine⟨k+1,?_,by omega⟩;and_intros<;>first|assumption|omega|rfl
  clear hP;refine aU (λkd τ d=>kd<=3∧Zd lo sb wb wz W H c h d br k now (al+(3*k+kd)*T) (xD f br k kd a)∧τ 0=pt sb 0∧τ 2=I ((l+1:Nat):Int)∧τ 3=B true∧τ 8=I k∧τ 9=I j∧τ 10=I kd) (λkd=>3-kd) 0 ?_ ?_
  ·refine⟨by omega,⟨br.getD k 0,s,?_,LK0⟩,by simpa using Y,by simpa using q2,by simpa using Z,by simpa using q8,by simp,by simp⟩;have:=M j;rw[iZ]at this;rw[<-G,this];exact S
  rintro kd τ d⟨hkd,U,u,v,w,z,i,O⟩;simp(disch:=omega)[O];refine aG (λbB=>?_) (λdG=>?_)
  ·have Vu:kd<3:=by omega
   obtain⟨x,s,S,A⟩:=U;have aT:(3*k+(kd+1))*T=(3*k+kd)*T+T:=by rw[show 3*k+(kd+1)=3*k+kd+1 by omega,pF]
   have bT:(3*k+(kd+1))*T<=36*T:=bM T (by omega);have cT:(3*k+(kd+1))*T<=3*(k+1)*T:=bM T (by omega);have wk:=cQ ((kd:Int)+1) (((kd+1:Nat):Int));have Zc:=cQ ((k:Int)+1) (((k+1:Nat):Int));by_cases eq:((kd:Nat):Int)=j
   ·have C:=A.skip Vu (.inl (by rw[<-G];exact eq));have L:Zd lo sb wb wz W H c h d br k now (al+(3*k+(kd+1))*T) (xD f br k (kd+1) a):=⟨x,s,S.mono (by omega),C⟩;simp(disch:=omega)[i,O,eq];have wk:IntKind.i64.wrap (j+1)=((kd+1:Nat):Int):=by rw[<-eq];exact wk
    try simp(disch:=omega)[wk]
    refine⟨kd+1,?_,by omega⟩;and_intros<;>first|assumption|omega|rfl
   ·have N:=S.cells.1;obtain⟨e1,h1,st,J,s1⟩:=S.Tk (k:=k) (y:=(kd:Int)) (by rw[aS];omega);rw[iZ]at J;rw[aS,<-en,e1]at N;have aje:lo<=h1.length:=by have:=s.1;have:=s1.1;omega
    obtain⟨nb,ny,h2,Dc,d4,A2,h3,Hl,s3,S3⟩:=J.asy (p:=((k:Int),(kd:Int))) (by omega) aje;have arh:lo<=h3.length:=by have:=s3.1;omega
    have call:=ih h3 (k+1) (br.set k (kd:Int)) (now++[((k:Int),(kd:Int))]) [] _ (by have:=hS.pos;omega) S3 (ok.set (by omega)) (by rw[aS];omega) (by rw[aS];omega) (by simp;omega) arh (by omega);rw[<-efk]at call;simp(disch:=omega)[u,v,w,z,i,O,eq,N,t,st,d4,ae9,A2,Hl,wl,wl',wl2,Zc];refine aO call ?_;rintro _ h4⟨rfl,fd,fst,s4,S4,o4⟩;obtain⟨X,c4,h5,st5,s5,S5⟩:=S4.asu;have m:=S5.cells.2;have wn:IntKind.i64.wrap (now.length:Int)=(now.length:Int):=by rw[wrap64 (by omega) (by omega)]
    have wn':=cQ ((now.length:Int)+1-1) (now.length:Int);have cut:∀g:a9,gS 5 g (sl X 0 (now.length+1) 2) none (some (I (now.length:Int))) none=some (sl X 0 now.length 2,g):=λg=>by simp[gS,bound]
    have sT:=((s.trans s1).trans s3).trans (s4.trans s5);cases fd with
    |false=>
     have Q:f k kd=none:=o4.resolve_right (λe=>by cases e.1) |>.2;have C:=A.skip Vu (.inr Q);have L:Zd lo sb wb wz W H c h h5 br k now (al+(3*k+(kd+1))*T) (xD f br k (kd+1) a):=⟨(kd:Int),sT,S5.none.mono (by omega),C⟩;simp(disch:=omega)[u,v,w,z,i,O,c4,st5,m,wn,wn',cut]
     try simp(disch:=omega)[wk]
     refine⟨kd+1,?_,by omega⟩;and_intros<;>first|assumption|omega|rfl
    |true=>
     have Q:f k kd=some fst:=o4.resolve_left (λe=>by cases e.1) |>.2;have Rp:=A.Rp Vu (by rw[<-G];exact eq) Q;simp(disch:=omega)[u,v,w,z,i,O,c4,st5,m,wn,wn',cut];exact post _ h5 (kd:Int) true fst sT (S5.mono (by omega)) (.inr ⟨rfl,Rp⟩) (by simpa using u) (by simpa using v) (by simpa using w) (by simpa using z) (by simpa using i)
  ·have:kd=3:=by omega
   subst this;obtain⟨x,s,S,A⟩:=U;have C:=A.next;simp(disch:=omega);exact post _ d x false [] s (S.mono (by rw[show 3*k+3=3*(k+1)by omega];omega)) (.inl ⟨rfl,C⟩) (by simpa using u) (by simpa using v) (by simpa using w) (by simpa using z) (by simpa using i)
theorem aDm(h:a9)(v:Value)(X:bW)(c e:Int)(k:gY h v X):aN aE 495 [v,I c,I e] h λr h'=>r=I (vP X c e)∧h'=h:=by
 obtain⟨A,j⟩:=aC (vP X c e);have a:=j;unfold vP at a;rw[<-j];have l:=k;obtain⟨b,o,s,rfl,x,y,t,m,_,_⟩:=k;refine afq ?_;refine bg λK d=>?_
 try simp(disch:=omega)
 refine d ?_;rw[aw];generalize d:aP aE _ _=K
 try simp(disch:=omega)
 refine aO (An _ X h l) ?_;rintro _ h1⟨rfl,rfl⟩;cases i:iv X
 ·simp only[i,ax,if_false]at a;subst a
  try simp(disch:=omega)
  subst d
  try simp(disch:=omega)
 simp only[i,if_true]at a
 try simp(disch:=omega)
 subst d;simp only[aq];rw[aw];generalize d:aP aE _ _=K
 try simp(disch:=omega)
 have n:=xW c 1 1000 h1;have p:=xW e 0 3 h1;refine aO n ?_;rintro _ _⟨rfl,rfl⟩;cases f:gZ c 1 1000
 ·have:¬(1<=c∧c<=1000):=λq=>by rw[fM.2 q]at f;cases f
  rw[if_neg (λq=>this q.1)]at a;subst a
  try simp(disch:=omega)
  subst d
  try simp(disch:=omega)
 have q1:=fM.1 f
 try simp(disch:=omega)
 refine aO p ?_;rintro _ _⟨rfl,rfl⟩;cases g:gZ e 0 3
 ·have:¬(0<=e∧e<=3):=λq=>by rw[fM.2 q]at g;cases g
  rw[if_neg (λq=>this q.2)]at a;subst a
  try simp(disch:=omega)
  subst d
  try simp(disch:=omega)
 have q2:=fM.1 g;rw[if_pos ⟨q1,q2⟩]at a
 try simp(disch:=omega)
 subst d;simp only[aq];obtain⟨sb,z,B,rfl,_⟩:=m.ints;rw[aw];generalize d:aP aE _ _=K;simp(disch:=omega)[t];refine aG (λu=>?_) (λw=>?_)
 ·rw[if_pos (by omega)]at a;subst a
  try simp(disch:=omega)
  subst d
  try simp(disch:=omega)
 ·rw[if_neg (by omega)]at a;subst a
  try simp(disch:=omega)
  subst d
  try simp(disch:=omega)
def Fnd(h:a9)(r:Value)(a:Option fE):Prop:=∃sb fv fd fst,r=pt sb 0∧cell h sb 6=some (B fd)∧cell h sb 5=some fv∧(fd=true->Nr h fv fst)∧Zf fd fst (a=none) a
theorem aDn(h:a9)(hp:0<h.length)(v:Value)(W H:Int)(br:List Int)(c:Int)(l:Nat)(A:gY h v (W,H,br))(ok:fg (W,H,br))(y:br.length<=12)(hl:l<=3):aN aE 496 [v,I c,I l,B true] h λr h'=>ae h h'∧Fnd h' r (zb W H c l 0 br []):=by
 have p:=Jh h v (W,H,br) hp A (by simp only;omega);refine ag8 λK g=>?_;refine g ?_;refine akW λK g=>?_;refine aO p ?_;rintro F h1⟨g1,o⟩;obtain⟨s,rfl,w1,w2,i⟩:=o.dE;obtain⟨wb,wz,rfl,z,_,_,k⟩:=i.ints;simp(disch:=omega)[Ai,cellsOf,scalar];obtain⟨j,f⟩:=aC (h1++[⟨[I W,I H,sl wb 0 br.length wz,I c,sl 0 0 0 0,sl 0 0 0 0,B false,I 0,I 0,I 0,sl 0 0 0 0],true⟩]);rw[<-f];have g2:ae h1 j:=⟨_,f⟩;have C:j[h1.length]?=some ⟨[I W,I H,sl wb 0 br.length wz,I c,sl 0 0 0 0,sl 0 0 0 0,B false,I 0,I 0,I 0,sl 0 0 0 0],true⟩:=by rw[f];simp
 have m:sV h.length h1.length wb wz W H c j br [] false [] 0:=by refine⟨0,0,0,0,0,sl 0 0 0 0,0,0,0,⟨C,z,?_,.inl ⟨rfl,rfl⟩,.inl ⟨rfl,rfl⟩,⟨g1.le,hp⟩,⟨_,_,_,_,rfl⟩⟩,by omega,λe=>by cases e⟩;exact k.imp id λ⟨a,b,d⟩=>⟨g2.at a,b,by omega⟩
 have w:36^l<=46656:=by
  have:l=0∨l=1∨l=2∨l=3:=by omega
  rcases this with rfl|rfl|rfl|rfl<;>simp
 have gT:=g1.trans g2;have call:=c10 h.length h1.length wb wz W H c l j 0 br [] [] 0 (aL hp gT) m ok y (by omega) (by simpa using hl) gT.le (by omega);refine g ?_;refine bg λK g=>?_
 try simp(disch:=omega)
 refine aO call ?_;rintro _ E⟨rfl,fd,fst,D,n,o3⟩
 try simp(disch:=omega)
 refine g ?_
 try simp(disch:=omega)
 refine⟨D.kR gT,?_⟩;obtain⟨nb,ny,ab,an,ay,fv,j7,pZ,oB,x,_,u⟩:=n;refine⟨h1.length,fv,fd,fst,rfl,i9 x.box (by simp),i9 x.box (by simp),λq=>?_,o3⟩;obtain⟨fb,t,f⟩:=u q;exact⟨fb,0,2,t,f.imp id λe=>cI e.1 (by rw[oe])⟩
theorem aCL(h:a9)(hp:0<h.length)(v:Value)(X:bW)(c e:Int)(P:Vr h bU v X):aN aE 377 [v,I c,I e] h λr h'=>an5 h h' r (ye X c e):=by
 obtain⟨A,x⟩:=aC (ye X c e);have a:=x;unfold ye at a;rw[<-x];obtain⟨J,D⟩:=aC (vP X c e);have w:=λh pv pp=>aDm h pv X c e pp;have b:=D;unfold vP at b;rw[<-D]at w a;obtain⟨W,H,br⟩:=X;obtain⟨s,rfl,w1,w2,r⟩:=P.dE;refine afq ?_;refine bg λK d=>?_
 try simp(disch:=omega)
 obtain⟨h1,n⟩:=aC (h++[⟨[I W,I H,s],true⟩]);rw[<-n];have g1:ae h h1:=⟨_,n⟩;have B:h1[h.length]?=some ⟨[I W,I H,s],true⟩:=by rw[n];simp
 have pp:gY h1 (pt h.length 0) (W,H,br):=gY.at B (r.grow g1) w1 w2;obtain⟨pb,T⟩:=aC h.length;rw[<-T]at pp B ⊢;refine d ?_;refine bg λK d=>?_
 try simp(disch:=omega)
 refine aO (w h1 _ pp) ?_;rintro _ O⟨rfl,rfl⟩
 try simp(disch:=omega)
 refine d ?_;rw[aw];generalize d:aP aE _ _=K;by_cases k:J=0
 case neg=>
  rw[if_neg k]at a;subst a;simp(disch:=omega)[k];subst d
  try simp(disch:=omega)
  exact⟨g1,0,0,0,0,rfl,0,0,0,rfl,.inl rfl⟩
 rw[if_pos k]at a;have C:iv (W,H,br)=true:=by
  cases q:iv (W,H,br)
  ·rw[q]at b;simp at b;omega
  ·rfl
 rw[C,if_pos rfl]at b;have ok:=dK.1 C;simp only at b;have he:0<=e∧e<=3:=by refine Classical.byContradiction λq=>?_;rw[if_neg (λr=>q r.2)]at b;omega
 have l:br.length<=12:=by
  refine Classical.byContradiction λq=>?_;split at b
  ·rw[if_pos (by omega)]at b;omega
  ·omega
 obtain⟨m,em⟩:∃m:Nat,m=e.toNat+1:=⟨_,rfl⟩;rw[<-em]at a;simp only at a;obtain⟨g,y⟩:=aC (EA W H c br m m);rw[<-y]at a;have E:CG W H c br m 0 g:=y.symm;simp(disch:=omega)[k];subst d;simp only[aq];rw[aw];generalize z:aP aE _ _=PP
 try simp(disch:=omega)
 refine aU (λj σ h'=>j<=m∧ae O h'∧CG W H c br m j g∧σ 1=I c∧σ 2=I e∧σ 3=pt pb 0∧σ 9=I j) (λj=>m-j) 0 ?_ ?_
 ·exact⟨by omega,ae.refl _,E,by simp,by simp,by simp,by simp⟩
 rintro j σ h'⟨hj,hm,t,q1,q2,R,q9⟩;simp(disch:=omega)[q2,q9];refine aG (λV=>?_) (λY=>?_)
 ·have Q:j<m:=by omega
  have ls:=t;unfold CG at ls;rw[Rc Q]at ls;have call:=aDn h' (aL hp (g1.trans hm)) _ W H br c j (pp.grow hm) ok l (by omega);simp(disch:=omega)[q1,R,q9];refine aO call ?_;rintro _ Z⟨N,sb,fv,fd,fst,rfl,u,G,i,o3⟩;have F:=hm.trans N;cases fd with
  |false=>
   have f:=o3.resolve_right (λe=>by cases e.1) |>.2;rw[f]at ls;have U:CG W H c br m (j+1) g:=ls;have S:=cQ ((j:Int)+1) (((j+1:Nat):Int));simp(disch:=omega)[u,q9]
   try simp(disch:=omega)[S]
   refine⟨j+1,?_,by omega⟩;and_intros<;>first|assumption|omega|rfl
  |true=>
   have f:=o3.resolve_left (λe=>by cases e.1) |>.2;rw[f]at ls;have o:g=some fst:=ls.symm;rw[o]at a;simp only at a;have i:=i rfl;have p:=i;obtain⟨fb,L,M,rfl,_⟩:=i;simp(disch:=omega)[u,G,q9];subst z
   try simp(disch:=omega)
   rw[a];exact⟨g1.trans F,fb,L,fst.length,M,rfl,p⟩
 ·have:j=m:=by omega
  subst this;have f:g=none:=by unfold CG at t;rw[<-t,gN];rfl
  rw[f]at a;simp only at a
  try simp(disch:=omega)
  subst z
  try simp(disch:=omega)
  rw[a];exact⟨g1.trans hm,0,0,0,0,rfl,0,0,0,rfl,.inl rfl⟩
def wT(p:Int×Int):List UInt8:=bE p.1++[61]++bE p.2
def Jn(l:fE):List UInt8:=du [32] (l.map wT)
theorem XU{p:Int×Int}(h1:bK p.1)(c:bK p.2):(wT p).length<=41:=by have a:=(dW h1).2;have b:=(dW c).2;unfold wT;simp;omega
theorem Uu{l:fE}(a:Tn l){k:Nat}(b:k<l.length):bK l[k].1∧bK l[k].2:=by have:=a.2 _ (aD b);unfold bK;omega
theorem KZ{l:fE}(a:Tn l):∀k,k<=l.length->(Jn (l.take k)).length<=42*k
 |0,_=>by simp[Jn,du]
 |k+1,h=>by
  have ih:=KZ a k (by omega);have b:k<l.length:=by omega
  have:=Uu a b;have e:=XU this.1 this.2;unfold Jn at ih ⊢;rw[aj b,cq,show[l[k]].map wT=[wT l[k]]from rfl,oI];split
  ·omega
  ·simp only[af,dH];omega
theorem Nr.cells{h:a9}{v:Value}{l:fE}(x:Nr h v l):∃b o y,v=sl b o l.length y∧∀i (hi:i<l.length),aZ h b (o+i*2) 2=some [I l[i].1,I l[i].2]:=by obtain⟨b,o,y,e,a⟩:=x;refine⟨b,o,y,e,λi hi=>?_⟩;exact(HW (f:=λp:Int×Int=>[I p.1,I p.2]) (z:=2) (n:=l.length) (λ_=>rfl) (oe l).symm (by omega) (a.imp (λe=>by rw[e];rfl) id)).2 i hi
theorem aCj(h:a9)(hp:0<h.length)(v:Value)(L:fE)(E:Nr h v L)(g:Tn L):aN aE 158 [v] h λr h'=>ae h h'∧r=S (Jn L):=by
 obtain⟨w,o,F,rfl,C⟩:=E.cells;have H:=g.1;have s:=KZ g L.length (aa _);rw[aK]at s;unfold Jn at s ⊢;refine ag8 λK f=>?_;refine f ?_;refine akW λK f=>?_;refine f ?_;simp(disch:=omega);refine aU (λk σ h'=>k<=L.length∧ae h h'∧bP h h' (σ 3) 1 (texts ((L.take k).map wT))∧σ 7=sl w o L.length F∧σ 8=I L.length∧σ 9=I k) (λk=>L.length-k) 0 ?_ ?_
 ·exact⟨by omega,ae.refl _,by simpa [texts]using bP.nil,by simp,by simp,by simp⟩
 ·rintro k σ h'⟨P,a,i,p,q,j⟩;simp(disch:=omega)[q,j];refine aG (λJ=>?_) (λM=>?_)
  ·have b:k<L.length:=by omega
   obtain⟨n,m⟩:=Uu g b;have q1:=a.aZ (C k b);have G:=(dW n).2;have D:=(dW m).2;have b1:(bE L[k].1).length<=4611686018427387903:=by omega
   have b2:(bE L[k].1).length+1+(bE L[k].2).length<=4611686018427387904:=by omega
   have b3:(bE L[k].1).length+(1+(bE L[k].2).length)<=4611686018427387904:=by omega
   have u:(bE L[k].1).length+((bE L[k].2).length+1)<=4611686018427387904:=by omega
   have x:bE L[k].1++([61]++bE L[k].2)=wT L[k]:=by unfold wT;simp
   have y:bE L[k].1++61::bE L[k].2=wT L[k]:=by unfold wT;simp
   have z:bE L[k].1++[61]++bE L[k].2=wT L[k]:=rfl;simp(disch:=omega)[p,j,b,q1];refine aQ (zC _ n _ (aL hp a)) ?_;rintro _ B⟨rfl,g2⟩;have l:=a.trans g2
   try refine⟨λe=>(by first|exact g2|cases e),?_⟩
   simp(disch:=omega)[b1];refine aQ (zC _ m _ (aL hp l)) ?_;rintro _ N⟨rfl,d⟩;have t:=l.trans d
   try refine⟨λe=>(by first|exact d|cases e),?_⟩
   simp(disch:=omega)[b2,b3,u,x,y,z];refine lN hp (by simp;omega) t ((i.grow g2).grow d) λQ O A c=>?_
   try simp(disch:=omega)[p,q,j,wrap64]
   refine⟨k+1,⟨by omega,A,?_,by omega⟩,by omega⟩;rw[<-bH,aj b,cq];exact c
  ·have:k=L.length:=by omega
   subst this;rw[aK]at i
   try simp(disch:=omega)
   refine aO (TZ _ _ [32] _ i.reads (by omega) (by simp;omega)) ?_;rintro _ B⟨rfl,rfl⟩;simp(disch:=omega)[a]
theorem aDo(h:a9)(hp:0<h.length)(v:Value)(L:fE)(U:Nr h v L)(z:Tn L):aN aE 497 [v] h λr h'=>ae h h'∧r=S (Jn L):=by
 obtain⟨M,o,V,rfl,R⟩:=U.cells;have X:=z.1;have G:=λk C=>KZ z k C;unfold Jn at G ⊢;refine ag8 λK y=>?_;refine y ?_;refine akW λK y=>?_;refine y ?_;rw[aw];generalize Q:aP aE _ _=PP;simp(disch:=omega);refine aU (λk σ h'=>k<=L.length∧ae h h'∧σ 3=S (du [32] ((L.take k).map wT))∧σ 0=sl M o L.length V∧σ 4=I k) (λk=>L.length-k) 0 ?_ ?_
 ·exact⟨by omega,ae.refl _,by simp[du],by simp,by simp⟩
 ·rintro k σ h'⟨C,b,a,p0,f⟩;simp(disch:=omega)[p0,f];refine aG (λY=>?_) (λZ=>?_)
  ·have d:k<L.length:=by omega
   obtain⟨m,l⟩:=Uu z d;have q1:=b.aZ (R k d);have n:=(fQ q1 (i:=0) (by omega)).1;have qb:=(fQ q1 (i:=1) (by omega)).1;simp only[bA,gd,jn]at n qb;have B:=G k C;have W:=(dW m).2;have T:=(dW l).2;have j:du [32] ((L.take (k+1)).map wT)=(if k=0 then[]else du [32] ((L.take k).map wT)++[32])++wT L[k]:=by
    rw[aj d,cq,show[L[k]].map wT=[wT L[k]]from rfl,oI];by_cases e:k=0
    ·subst e;simp
    ·have:¬(L.take k).map wT=[]:=by intro q;have:=congrArg List.length q;rw[bL,bu,aF]at this;omega
     rw[if_neg this,if_neg e]
   obtain⟨J,F⟩:=aC (du [32] ((L.take k).map wT));rw[<-F]at a B j;have b1:(bE L[k].1).length<=4611686018427387903:=by omega
   have b2:(bE L[k].1).length+1+(bE L[k].2).length<=4611686018427387904:=by omega
   have b3:(bE L[k].1).length+(1+(bE L[k].2).length)<=4611686018427387904:=by omega
   have D:(bE L[k].1).length+((bE L[k].2).length+1)<=4611686018427387904:=by omega
   have A:=XU m l;have s:bE L[k].1++([61]++bE L[k].2)=wT L[k]:=by unfold wT;simp
   have t:bE L[k].1++61::bE L[k].2=wT L[k]:=by unfold wT;simp
   have u:bE L[k].1++[61]++bE L[k].2=wT L[k]:=rfl;obtain⟨E,P⟩:=aC (wT L[k]);rw[<-P]at s t u j A;have f1:J.length+1<=4611686018427387904:=by omega
   have f2:J.length+1+E.length<=4611686018427387904:=by omega
   have f3:J.length+(1+E.length)<=4611686018427387904:=by omega
   have f4:J.length+E.length<=4611686018427387904:=by omega
   have f5:J.length<=4611686018427387903:=by omega
   have f6:J.length+(E.length+1)<=4611686018427387904:=by omega
   by_cases p:k=0
   ·subst p;have N:J=[]:=by rw[F];simp[du]
    subst N;simp only[te,bA]at n qb;simp(disch:=omega)[p0,a,f,d,n];refine aO (pJ _ m h' (aL hp b)) ?_;rintro _ x⟨rfl,c⟩;have g:=c.cell qb;simp(disch:=omega)[p0,a,f,b1,d,g];refine aO (pJ _ l x (aL (aL hp b) c)) ?_;rintro _ O⟨rfl,w⟩;simp(disch:=omega)[p0,a,f,b1,b2,b3,D,s,t,u,f1,f2,f3,f4,f5,f6,wrap64];refine⟨0+1,⟨by omega,(b.trans c).trans w,?_,by omega⟩,by omega⟩;rw[<-bH,j];simp
   ·have H:0<k:=by omega
    rw[if_neg p]at j;simp(disch:=omega)[p0,a,f,d,n,p,H,f1,f5];refine aO (pJ _ m h' (aL hp b)) ?_;rintro _ x⟨rfl,c⟩;have g:=c.cell qb;simp(disch:=omega)[p0,a,f,b1,d,g];refine aO (pJ _ l x (aL (aL hp b) c)) ?_;rintro _ O⟨rfl,w⟩;simp(disch:=omega)[p0,a,f,b1,b2,b3,D,s,t,u,f1,f2,f3,f4,f5,f6,wrap64];refine⟨k+1,⟨by omega,(b.trans c).trans w,?_,by omega⟩,by omega⟩;rw[<-bH,j];simp
  ·have:k=L.length:=by omega
   subst this;rw[aK]at a;simp(disch:=omega);subst Q;simp(disch:=omega)[a];exact b
def Vi(h:a9)(v:Value)(X:List Int):Prop:=∃b o z,v=sl b o X.length z∧True∧X.length<=maxLen∧(∀x∈X,bK x)∧(X=[]∨aZ h b o X.length=some (Am.ints X))
theorem Vi.rw{h:a9}{v:Value}{X:List Int}(x:Rw h v 1 (Am.ints X))(hm:X.length<=maxLen)(hx:∀x∈X,bK x):Vi h v X:=by
 obtain⟨b,o,n,y,e,hn,a⟩:=x;rw[dn]at hn a;have:n=X.length:=by rw[hn];simp[Am.ints]
 subst this;refine⟨b,o,y,e,trivial,hm,hx,a.imp (λe=>aB.1 e) id⟩
theorem Vi.vr{h:a9}{v:Value}{X:List Int}(x:Vr h cZ v X):Vi h v X:=by obtain⟨b,o,z,e,_,hm,hx,a⟩:=x.ints;exact⟨b,o,z,e,trivial,hm,hx,a⟩
theorem aDN(h:a9)(v:Value)(L:List Int)(V:Vi h v L):aN aE 91 [v] h λr h'=>r=B (tD L)∧h'=h:=by
 obtain⟨M,o,R,rfl,Y,hm,hx,N⟩:=V;have X:L.length<=maxLen:=hm;rw[cH]at X;obtain⟨A,s⟩:=aC (tD L);rw[<-s];refine ag8 λK i=>?_;refine i ?_;rw[aw];generalize i:aP aE _ _=K;have E:rM L=false->A=false:=λe=>by rw[s];unfold tD;rw[e];rfl
 by_cases q1:L.length<2
 ·have:=E (by unfold rM;simp;omega);subst this;have l:(L.length:Int)<2:=by omega
  simp(disch:=omega)[q1,l];subst i;simp(disch:=omega)
 have l:¬(L.length:Int)<2:=by omega
 by_cases q2:16<L.length
 ·have:=E (by unfold rM;simp;omega);subst this;have b:(16:Int)<L.length:=by omega
  simp(disch:=omega)[q1,l,q2,b];subst i;simp(disch:=omega)
 have b:¬(16:Int)<L.length:=by omega
 have Q:Int.tmod (L.length:Int) 2=((L.length%2:Nat):Int):=rfl;by_cases F:L.length%2=1
 ·have:=E (by unfold rM;simp;omega);subst this;have C:¬((L.length%2:Nat):Int)=0:=by omega
  have G:¬L.length%2=0:=by omega
  simp(disch:=omega)[q1,l,q2,b,Q,F,C,G,wrap64];subst i;simp(disch:=omega)
 have F:L.length%2=0:=by omega
 have C:((L.length%2:Nat):Int)=0:=by omega
 have hl:rM L=true:=by unfold rM;simp;omega
 simp(disch:=omega)[q1,l,q2,b,Q,F,C,wrap64];subst i;simp only[aq];rw[aw];generalize t:aP aE _ _=PP;simp(disch:=omega);refine aU (λk σ h'=>h'=h∧k<=L.length∧(∀j,j<k->vK L j=true)∧σ 0=sl M o L.length R∧σ 19=sl M o L.length R∧σ 20=I L.length∧σ 21=I k) (λk=>L.length-k) 0 ?_ ?_
 ·exact⟨rfl,by omega,by simp,by simp,by simp,by simp,by simp⟩
 ·rintro k σ h'⟨rfl,hk,O,p0,c,f,a⟩;simp(disch:=omega)[f,a];refine aG (λZ=>?_) (λdG=>?_)
  ·have u:k<L.length:=by omega
   have P:=eG N u;have U:=fR (d:=0) u;have T:vK L k=true->∀j,j<k+1->vK L j=true:=λe j hj=>by
    by_cases q:j=k
    ·rw[q];exact e
    ·exact O j (by omega)
   have y:vK L k=false->A=false:=λe=>by rw[s];exact Sa u e
   have g:vK L k=(decide (0<=L.getD k 0∧L.getD k 0<L.length)&&decide (L.getD k 0≠k)&&decide (L.getD (L.getD k 0).toNat 0=k)):=rfl;rw[U]at g;obtain⟨x,ex⟩:=aC (L[k]);rw[<-ex]at P g;simp(disch:=omega)[p0,c,a,u,P];refine aO (ahQ x L.length hm h') ?_;rintro _ h2⟨rfl,rfl⟩;by_cases W:¬(0<=x∧x<L.length)
   ·have n:gZ x 0 ((L.length:Int)-1)=false:=by unfold gZ;simp;omega
    have:=y (by rw[g,decide_eq_false W];rfl);subst this;simp(disch:=omega)[n];subst t;simp(disch:=omega)
   have n:gZ x 0 ((L.length:Int)-1)=true:=by unfold gZ;simp;omega
   by_cases H:x=k
   ·have:=y (by rw[g];simp[H]);subst this;have S:gZ (k:Int) 0 ((L.length:Int)-1)=true:=by rw[<-H];exact n
    simp(disch:=omega)[S,H];subst t;simp(disch:=omega)
   obtain⟨m,em⟩:∃m:Nat,x=m:=⟨x.toNat,by omega⟩;have p:m<L.length:=by omega
   have J:=eG N p;rw[em,aM,fR p]at g;have D:¬(m:Int)=k:=by omega
   have z:¬m=k:=by omega
   subst em;by_cases w:L[m]=k
   ·have hy:=T (by rw[g];simp[w,D,z,p]);simp(disch:=omega)[n,D,z,p,J,w,p0,c,f,a,wrap64];refine⟨k+1,?_,by omega⟩;and_intros<;>first|assumption|omega|rfl
   ·have:=y (by rw[g];simp[w]);subst this;simp(disch:=omega)[n,D,z,p,J,w,p0,c,f,a,wrap64];subst t;simp(disch:=omega)
  ·have:k=L.length:=by omega
   subst this;have:A=true:=by rw[s];exact Pb hl O
   subst this;simp(disch:=omega);subst t;simp(disch:=omega)
theorem axu(h:a9)(v:Value)(L:List Int)(T:Vi h v L):aN aE 492 [v] h λr h'=>r=B (tD L)∧h'=h:=by
 obtain⟨Q,o,W,rfl,X,hm,hx,H⟩:=T;have V:L.length<=maxLen:=hm;rw[cH]at V;obtain⟨A,n⟩:=aC (tD L);rw[<-n];refine ag8 λK b=>?_;refine b ?_;refine akW λK b=>?_;refine b ?_;rw[aw];generalize b:aP aE _ _=K;have M:rM L=false->A=false:=λe=>by rw[n];unfold tD;rw[e];rfl
 have N:Int.tmod (L.length:Int) 2=((L.length%2:Nat):Int):=rfl;simp(disch:=omega);refine aO (xW _ 2 16 h) ?_;rintro _ G⟨rfl,rfl⟩;by_cases q1:¬(2<=L.length∧L.length<=16)
 ·have:=M (by unfold rM;simp;omega);subst this;have a:gZ (L.length:Int) 2 16=false:=by unfold gZ;simp;omega
  simp(disch:=omega)[a];subst b;simp(disch:=omega)
 have a:gZ (L.length:Int) 2 16=true:=by unfold gZ;simp;omega
 by_cases C:L.length%2=1
 ·have:=M (by unfold rM;simp;omega);subst this;have y:¬((L.length%2:Nat):Int)=0:=by omega
  have D:¬L.length%2=0:=by omega
  simp(disch:=omega)[a,N,C,y,D,wrap64];subst b;simp(disch:=omega)
 have C:L.length%2=0:=by omega
 have y:((L.length%2:Nat):Int)=0:=by omega
 have hl:rM L=true:=by unfold rM;simp;omega
 simp(disch:=omega)[a,N,C,y,wrap64];subst b;simp only[aq];rw[aw];generalize p:aP aE _ _=PP;simp(disch:=omega);refine aU (λk σ h'=>h'=G∧k<=L.length∧(∀j,j<k->vK L j=true)∧σ 0=sl Q o L.length W∧σ 3=I L.length∧σ 4=I k) (λk=>L.length-k) 0 ?_ ?_
 ·exact⟨rfl,by omega,by simp,by simp,by simp,by simp⟩
 ·rintro k σ h'⟨rfl,hk,J,p0,s,l⟩;simp(disch:=omega)[s,l];refine aG (λY=>?_) (λZ=>?_)
  ·have c:k<L.length:=by omega
   have i:=eG H c;have S:=fR (d:=0) c;have P:vK L k=true->∀j,j<k+1->vK L j=true:=λe j hj=>by
    by_cases q:j=k
    ·rw[q];exact e
    ·exact J j (by omega)
   have u:vK L k=false->A=false:=λe=>by rw[n];exact Sa c e
   have f:vK L k=(decide (0<=L.getD k 0∧L.getD k 0<L.length)&&decide (L.getD k 0≠k)&&decide (L.getD (L.getD k 0).toNat 0=k)):=rfl;rw[S]at f;obtain⟨x,ex⟩:=aC (L[k]);rw[<-ex]at i f;have R:=cQ ((L.length:Int)-1) ((L.length:Int)-1);simp(disch:=omega)[p0,s,l,c,i,R];refine aO (xW x 0 _ h') ?_;rintro _ G⟨rfl,rfl⟩;by_cases U:¬(0<=x∧x<L.length)
   ·have a:gZ x 0 ((L.length:Int)-1)=false:=by unfold gZ;simp;omega
    have:=u (by rw[f,decide_eq_false U];rfl);subst this;simp(disch:=omega)[a];subst p;simp(disch:=omega)
   have a:gZ x 0 ((L.length:Int)-1)=true:=by unfold gZ;simp;omega
   by_cases E:x=k
   ·have:=u (by rw[f];simp[E]);subst this;have O:gZ (k:Int) 0 ((L.length:Int)-1)=true:=by rw[<-E];exact a
    simp(disch:=omega)[O,E,p0,l,c,i];subst p;simp(disch:=omega)
   obtain⟨m,em⟩:∃m:Nat,x=m:=⟨x.toNat,by omega⟩;have g:m<L.length:=by omega
   have F:=eG H g;rw[em,aM,fR g]at f;have z:¬(m:Int)=k:=by omega
   have w:¬m=k:=by omega
   subst em;by_cases t:L[m]=k
   ·have hy:=P (by rw[f];simp[t,z,w,g]);simp(disch:=omega)[a,z,w,g,F,t,p0,s,l,c,i,wrap64];refine⟨k+1,?_,by omega⟩;and_intros<;>first|assumption|omega|rfl
   ·have:=u (by rw[f];simp[t]);subst this;simp(disch:=omega)[a,z,w,g,F,t,p0,s,l,c,i,wrap64];subst p;simp(disch:=omega)
  ·have:k=L.length:=by omega
   subst this;have:A=true:=by rw[n];exact Pb hl J
   subst this;simp(disch:=omega);subst p;simp(disch:=omega)
theorem TY(h:a9)(hp:0<h.length)(v:Value)(X:List Int)(s:Vi h v X)(C:X.length<=1000):aN aE 156 [v,S [44]] h λr h'=>ae h h'∧r=S (du [44] (X.map bE)):=by
 obtain⟨m,o,w,rfl,x,hm,hx,q⟩:=s;refine ag8 λK d=>?_;refine d ?_;refine akW λK d=>?_;refine d ?_;simp(disch:=omega);refine aU (λk σ h'=>k<=X.length∧ae h h'∧bP h h' (σ 5) 1 (texts ((X.take k).map bE))∧σ 1=S [44]∧σ 9=sl m o X.length w∧σ 10=I X.length∧σ 11=I k) (λk=>X.length-k) 0 ?_ ?_
 ·exact⟨by omega,ae.refl _,by simpa [texts]using bP.nil,by simp,by simp,by simp,by simp⟩
 ·rintro k σ h'⟨B,a,f,j,g,i,c⟩;simp(disch:=omega)[i,c];refine aG (λy=>?_) (λz=>?_)
  ·have b:k<X.length:=by omega
   have t:=hx _ (aD b);have q1:=eG (q.imp id (dZ a)) b;simp(disch:=omega)[g,c,b,q1];refine aQ (zC _ t _ (aL hp a)) ?_;rintro _ p⟨rfl,g2⟩;have l:=a.trans g2
   try refine⟨λe=>(by first|exact g2|cases e),?_⟩
   try simp(disch:=omega)
   refine lN hp (by simp;omega) l (f.grow g2) λD A n b3=>?_
   try simp(disch:=omega)[j,g,i,c,wrap64]
   refine⟨k+1,⟨by omega,n,?_,by omega⟩,by omega⟩;rw[<-bH,aj b,cq];exact b3
  ·have:k=X.length:=by omega
   subst this;rw[aK]at f;have u:=AG X hx X.length (aa _);rw[aK]at u
   try simp(disch:=omega)[j,g]
   refine aO (TZ _ _ [44] _ f.reads (by omega) (by simp;omega)) ?_;rintro _ p⟨rfl,rfl⟩;simp(disch:=omega)[a]
theorem axl(h:a9)(hp:0<h.length)(v:Value)(L:List Int)(c:Vi h v L):aN aE 109 [v] h λr h'=>ae h h'∧r=S (Bx L):=by
 have b:=c;have g:=λe=>Ih (L:=L) e;obtain⟨A,a⟩:=aC (Bx L);rw[<-a];unfold Bx at a;obtain⟨j,o,m,rfl,i,hm,hx,l⟩:=c;refine akV ?_;refine aO (aDN h _ L b) ?_;rintro _ f⟨rfl,rfl⟩;cases e:tD L
 ·rw[e]at a;simp only[ax,if_false]at a;subst a;simp(disch:=omega);exact ae.refl _
 ·rw[e]at a;simp only[if_true]at a;subst a;simp(disch:=omega);refine aO (TY f hp _ L b (by have:=g e;omega)) ?_;rintro _ k⟨d,rfl⟩;simp(disch:=omega);exact d
theorem axo(h:a9)(hp:0<h.length)(v:Value)(L:List Int)(w:Vi h v L):aN aE 400 [v] h λr h'=>ae h h'∧r=S (Bx L):=by
 have C:=w;have O:=λe=>Ih (L:=L) e;obtain⟨A,a⟩:=aC (Bx L);rw[<-a];unfold Bx at a;obtain⟨B,o,Q,rfl,R,hm,hx,H⟩:=w;refine ag8 λK c=>?_;refine c ?_;rw[aw];generalize c:aP aE _ _=K;simp(disch:=omega);refine aO (axu h _ L C) ?_;rintro _ E⟨rfl,rfl⟩;cases e:tD L
 ·rw[e]at a;simp only[ax,if_false]at a;subst a;simp(disch:=omega);subst c;simp(disch:=omega);exact ae.refl _
 ·rw[e]at a;simp only[if_true]at a;have hl:=O e;simp(disch:=omega);subst c;simp only[aq];refine akW λK c=>?_;refine c ?_;rw[aw];generalize G:aP aE _ _=PP;simp(disch:=omega);refine aU (λk σ h'=>k<=L.length∧ae E h'∧σ 3=S (du [44] ((L.take k).map bE))∧σ 0=sl B o L.length Q∧σ 4=I k) (λk=>L.length-k) 0 ?_ ?_
  ·exact⟨by omega,ae.refl _,by simp[du],by simp,by simp⟩
  ·rintro k σ h'⟨M,d,b,p0,g⟩;simp(disch:=omega)[p0,g];refine aG (λT=>?_) (λU=>?_)
   ·have f:k<L.length:=by omega
    have j:=hx _ (aD f);have q1:=eG (H.imp id (dZ d)) f;have P:=AG L hx k M;have y:=(dW j).2;have N:(L.take (k+1)).map bE=(L.take k).map bE++[bE L[k]]:=by rw[aj f,cq];rfl
    have i:du [44] ((L.take (k+1)).map bE)=(if k=0 then[]else du [44] ((L.take k).map bE)++[44])++bE L[k]:=by
     rw[N,oI];by_cases e:k=0
     ·subst e;simp
     ·have:¬(L.take k).map bE=[]:=by intro q;have:=congrArg List.length q;rw[bL,bu,aF]at this;omega
      rw[if_neg this,if_neg e]
    obtain⟨J,u⟩:=aC (du [44] ((L.take k).map bE));rw[<-u]at b P i;obtain⟨x,ex⟩:=aC (L[k]);rw[<-ex]at j q1 y i;have m:J.length+1<=4611686018427387904:=by omega
    have p:J.length+1+(bE x).length<=4611686018427387904:=by omega
    have s:J.length+(1+(bE x).length)<=4611686018427387904:=by omega
    have t:J.length+(bE x).length<=4611686018427387904:=by omega
    by_cases l:k=0
    ·subst l;have D:J=[]:=by rw[u];simp[du]
     subst D;simp only[bA]at q1;simp(disch:=omega)[p0,b,g,f,q1];refine aO (pJ _ j h' (aL hp d)) ?_;rintro _ F⟨rfl,n⟩;simp(disch:=omega)[p0,b,g,m,p,s,t,wrap64];refine⟨0+1,⟨by omega,d.trans n,?_,by omega⟩,by omega⟩;rw[<-bH,i];simp
    ·have z:0<k:=by omega
     rw[if_neg l]at i;simp(disch:=omega)[p0,b,g,f,q1,l,z,m];refine aO (pJ _ j h' (aL hp d)) ?_;rintro _ F⟨rfl,n⟩;simp(disch:=omega)[p0,b,g,m,p,s,t,wrap64];refine⟨k+1,⟨by omega,d.trans n,?_,by omega⟩,by omega⟩;rw[<-bH,i];simp
   ·have:k=L.length:=by omega
    subst this;rw[aK]at b;simp(disch:=omega);subst G;simp(disch:=omega)[b];rw[a];exact⟨d,rfl⟩
def Hp:List UInt8:=[97,108,111,110,103]
def mg:List UInt8:=[98,114,97,99,107,101,116]
def oZ:List UInt8:=[99,111,100,101]
def lF:List UInt8:=[99,111,117,110,116]
def jc:List UInt8:=[108,101,110,103,116,104,115]
def iR:List UInt8:=[112,105,99,116,117,114,101]
def rQ:List UInt8:=[114,101,100,111]
def Ix:List UInt8:=[115,104,111,119]
def oV:List UInt8:=[115,113,117,97,115,104]
def re:List UInt8:=[117,110,100,111]
def lG:List UInt8:=[119,114,105,116,104,101]
def jg:List UInt8:=[99,111,108,117,109,110]
def jB:List UInt8:=[112,97,115,115,101,115]
def xQ:List UInt8:=[114,101,97,100]
def nZ:List UInt8:=[108,105,110,107]
def zp:List UInt8:=[110,101,119]
def jC:List UInt8:=[115,101,97,114,99,104]
def zr:List UInt8:=[115,101,116]
def fA(w:List UInt8):Nat:=if w∈[Hp,mg,oZ,lF,jc,iR,rQ,Ix,oV,re,lG]then 1 else if w∈[jg,jB,xQ]then 2 else if w∈[nZ,zp,jC]then 3 else if w=zr then 4 else 0
def xX:List (List UInt8):=[[111,107],[105,110,118,97,108,105,100],[114,97,110,103,101],[110,111,116,45,102,111,117,110,100],[101,120,105,115,116,115],[102,117,108,108],[115,116,97,116,101],[115,121,110,116,97,120],[102,111,114,109,97,116],[99,108,97,115,104],[111,112,101,110]]
def mK(c:Int):List UInt8:=if 0<=c∧c<=10 then xX.getD c.toNat []else[]
def xN(t:List UInt8):List UInt8:=if t=[]then[110,111,110,101]else t
theorem aCr(w:List UInt8)(h:a9):aN aE 202 [S w] h λr h'=>r=I (fA w)∧h'=h:=by
 refine afq ?_;by_cases j:w=[97,108,111,110,103]
 ·subst j;rw[show fA [97,108,111,110,103]=1 from by decide];simp(disch:=omega)
 by_cases k:w=[98,114,97,99,107,101,116]
 ·subst k;rw[show fA [98,114,97,99,107,101,116]=1 from by decide];simp(disch:=omega)
 by_cases l:w=[99,111,100,101]
 ·subst l;rw[show fA [99,111,100,101]=1 from by decide];simp(disch:=omega)
 by_cases m:w=[99,111,117,110,116]
 ·subst m;rw[show fA [99,111,117,110,116]=1 from by decide];simp(disch:=omega)
 by_cases n:w=[108,101,110,103,116,104,115]
 ·subst n;rw[show fA [108,101,110,103,116,104,115]=1 from by decide];simp(disch:=omega)
 by_cases o:w=[112,105,99,116,117,114,101]
 ·subst o;rw[show fA [112,105,99,116,117,114,101]=1 from by decide];simp(disch:=omega)
 by_cases p:w=[114,101,100,111]
 ·subst p;rw[show fA [114,101,100,111]=1 from by decide];simp(disch:=omega)
 by_cases q:w=[115,104,111,119]
 ·subst q;rw[show fA [115,104,111,119]=1 from by decide];simp(disch:=omega)
 by_cases s:w=[115,113,117,97,115,104]
 ·subst s;rw[show fA [115,113,117,97,115,104]=1 from by decide];simp(disch:=omega)
 by_cases t:w=[117,110,100,111]
 ·subst t;rw[show fA [117,110,100,111]=1 from by decide];simp(disch:=omega)
 by_cases i:w=[119,114,105,116,104,101]
 ·subst i;rw[show fA [119,114,105,116,104,101]=1 from by decide];simp(disch:=omega)
 by_cases a:w=[99,111,108,117,109,110]
 ·subst a;rw[show fA [99,111,108,117,109,110]=2 from by decide];simp(disch:=omega)
 by_cases g:w=[112,97,115,115,101,115]
 ·subst g;rw[show fA [112,97,115,115,101,115]=2 from by decide];simp(disch:=omega)
 by_cases b:w=[114,101,97,100]
 ·subst b;rw[show fA [114,101,97,100]=2 from by decide];simp(disch:=omega)
 by_cases c:w=[108,105,110,107]
 ·subst c;rw[show fA [108,105,110,107]=3 from by decide];simp(disch:=omega)
 by_cases d:w=[110,101,119]
 ·subst d;rw[show fA [110,101,119]=3 from by decide];simp(disch:=omega)
 by_cases e:w=[115,101,97,114,99,104]
 ·subst e;rw[show fA [115,101,97,114,99,104]=3 from by decide];simp(disch:=omega)
 by_cases f:w=[115,101,116]
 ·subst f;rw[show fA [115,101,116]=4 from by decide];simp(disch:=omega)
 rw[show fA w=0 from by simp[fA,Hp,mg,oZ,lF,jc,iR,rQ,Ix,oV,re,lG,jg,jB,xQ,nZ,zp,jC,zr,j,k,l,m,n,o,p,q,s,t,i,a,g,b,c,d,e,f]];simp(disch:=omega)[j,k,l,m,n,o,p,q,s,t,i,a,g,b,c,d,e,f]
theorem c67(c:Int)(h:a9):aN aE 67 [I c] h λr h'=>r=S (mK c)∧h'=h:=by
 refine afq ?_;by_cases b:c=0
 ·subst b;rw[show mK 0=[111,107]from by decide];simp(disch:=omega)
 by_cases d:c=1
 ·subst d;rw[show mK 1=[105,110,118,97,108,105,100]from by decide];simp(disch:=omega)
 by_cases e:c=2
 ·subst e;rw[show mK 2=[114,97,110,103,101]from by decide];simp(disch:=omega)
 by_cases f:c=3
 ·subst f;rw[show mK 3=[110,111,116,45,102,111,117,110,100]from by decide];simp(disch:=omega)
 by_cases g:c=4
 ·subst g;rw[show mK 4=[101,120,105,115,116,115]from by decide];simp(disch:=omega)
 by_cases i:c=5
 ·subst i;rw[show mK 5=[102,117,108,108]from by decide];simp(disch:=omega)
 by_cases j:c=6
 ·subst j;rw[show mK 6=[115,116,97,116,101]from by decide];simp(disch:=omega)
 by_cases k:c=7
 ·subst k;rw[show mK 7=[115,121,110,116,97,120]from by decide];simp(disch:=omega)
 by_cases l:c=8
 ·subst l;rw[show mK 8=[102,111,114,109,97,116]from by decide];simp(disch:=omega)
 by_cases m:c=9
 ·subst m;rw[show mK 9=[99,108,97,115,104]from by decide];simp(disch:=omega)
 by_cases a:c=10
 ·subst a;rw[show mK 10=[111,112,101,110]from by decide];simp(disch:=omega)
 rw[show mK c=[]from by unfold mK;rw[if_neg (by omega)]];simp(disch:=omega)[b,d,e,f,g,i,j,k,l,m,a]
theorem Zs(t:List UInt8)(h:a9):aN aE 178 [S t] h λr h'=>r=S (xN t)∧h'=h:=by
 refine afq ?_;unfold xN;by_cases e:t=[]
 ·simp(disch:=omega)[e]
 ·simp(disch:=omega)[e]
theorem ao7(t:List UInt8)(h:a9):aN aE 578 [S t] h λr h'=>r=S (xN t)∧h'=h:=by
 refine afq ?_;unfold xN;by_cases e:t=[]
 ·simp(disch:=omega)[e]
 ·simp(disch:=omega)[e]
theorem aCD(c:Int)(h:a9):aN aE 336 [I c] h λr h'=>r=S (mK c)∧ae h h':=by
 obtain⟨A,g⟩:=aC (mK c);rw[<-g];refine ag8 λK b=>?_;refine b ?_;refine bg λK b=>?_;obtain⟨h1,f⟩:=aC (h++[⟨texts xX,true⟩]);have g1:ae h h1:=⟨_,f⟩;have o:h1[h.length]?=some ⟨texts xX,true⟩:=by rw[f];simp
 have k:aW 1 11 h [(0,.agg #[S [],S [],S [],S [],S [],S [],S [],S [],S [],S [],S []]),(1,S [111,107]),(1001,S [105,110,118,97,108,105,100]),(2001,S [114,97,110,103,101]),(3001,S [110,111,116,45,102,111,117,110,100]),(4001,S [101,120,105,115,116,115]),(5001,S [102,117,108,108]),(6001,S [115,116,97,116,101]),(7001,S [115,121,110,116,97,120]),(8001,S [102,111,114,109,97,116]),(9001,S [99,108,97,115,104]),(10001,S [111,112,101,110])]=some (sl h.length 0 11 1,h1):=by rw[f];simp[aW,texts,xX]
 simp(disch:=omega)[k];refine b ?_;rw[aw];generalize b:aP aE _ _=K;simp(disch:=omega)[wrap64];refine aO (xW c 0 10 h1) ?_;rintro _ m⟨rfl,rfl⟩;by_cases q:0<=c∧c<=10
 ·have i:gZ c 0 10=true:=fM.2 q;simp(disch:=omega)[i];subst b;obtain⟨n,rfl⟩:∃n:Nat,c=n:=⟨c.toNat,by omega⟩;have a:n<11:=by omega
  have l:cell m h.length n=some (S A):=by rw[g];unfold mK;rw[if_pos q];refine i9 o ?_;simp only[aM,texts,oN];rw[ah (by simpa [xX]using a)];simp[aA,ah (show n<xX.length by simpa [xX]using a)]
  have d:(n:Int)<11:=by omega
  simp(disch:=omega)[a,d,l];exact g1
 ·have i:gZ c 0 10=false:=by
   cases e:gZ c 0 10
   ·rfl
   ·exact absurd (fM.1 e) q
  have j:A=[]:=by rw[g];unfold mK;rw[if_neg q]
  subst j;simp(disch:=omega)[i];subst b;simp(disch:=omega);exact g1
theorem anF{w:List UInt8}(h:w∈nT)(a:¬w∈[[99,111,108,117,109,110],[112,97,115,115,101,115],[114,101,97,100],[108,105,110,107],[110,101,119],[115,101,97,114,99,104],[115,101,116]]):fA w=1:=by
 revert h a;have:∀w∈nT,¬w∈[[99,111,108,117,109,110],[112,97,115,115,101,115],[114,101,97,100],[108,105,110,107],[110,101,119],[115,101,97,114,99,104],[115,101,116]]->fA w=1:=by decide
 exact this w
theorem aj2{w:List UInt8}(h:∀k (a:k<nT.length),nT[k]≠w):fA w=0:=by
 have m:∀x∈nT,x≠w:=by intro x hx;obtain⟨k,a,e⟩:=nN hx;rw[<-e];exact h k a
 have b:∀x,x∈nT->¬w=x:=λx hx e=>m x hx e.symm;simp[nT]at b;simp[fA,Hp,mg,oZ,lF,jc,iR,rQ,Ix,oV,re,lG,jg,jB,xQ,nZ,zp,jC,zr,b]
theorem aDK(w:List UInt8)(h:a9)(hp:0<h.length):aN aE 579 [S w] h λr h'=>r=I (fA w)∧ae h h':=by
 have f:w∈nT->(¬w∈[[99,111,108,117,109,110],[112,97,115,115,101,115],[114,101,97,100],[108,105,110,107],[110,101,119],[115,101,97,114,99,104],[115,101,116]])->fA w=1:=anF;have i:=@aj2 w;obtain⟨A,c⟩:=aC (fA w);rw[<-c]at f i ⊢;refine ag8 λK b=>?_;refine b ?_;rw[aw];generalize b:aP aE _ _=K;by_cases l:w=[99,111,108,117,109,110]
 ·subst l;have a:A=2:=by rw[c];decide
  subst a;simp(disch:=omega);subst b;simp(disch:=omega)
  try exact ae.refl _
 by_cases m:w=[112,97,115,115,101,115]
 ·subst m;have a:A=2:=by rw[c];decide
  subst a;simp(disch:=omega);subst b;simp(disch:=omega)
  try exact ae.refl _
 by_cases n:w=[114,101,97,100]
 ·subst n;have a:A=2:=by rw[c];decide
  subst a;simp(disch:=omega);subst b;simp(disch:=omega)
  try exact ae.refl _
 by_cases o:w=[108,105,110,107]
 ·subst o;have a:A=3:=by rw[c];decide
  subst a;simp(disch:=omega);subst b;simp(disch:=omega)
  try exact ae.refl _
 by_cases p:w=[110,101,119]
 ·subst p;have a:A=3:=by rw[c];decide
  subst a;simp(disch:=omega);subst b;simp(disch:=omega)
  try exact ae.refl _
 by_cases s:w=[115,101,97,114,99,104]
 ·subst s;have a:A=3:=by rw[c];decide
  subst a;simp(disch:=omega);subst b;simp(disch:=omega)
  try exact ae.refl _
 by_cases t:w=[115,101,116]
 ·subst t;have a:A=4:=by rw[c];decide
  subst a;simp(disch:=omega);subst b;simp(disch:=omega)
  try exact ae.refl _
 have F:w∈nT->A=1:=λq=>f q (by simp[l,m,n,o,p,s,t]);simp(disch:=omega)[l,m,n,o,p,s,t];subst b;simp only[aq];refine akW λK b=>?_;refine aQ (aDM h) ?_;rintro _ h1⟨rfl,z⟩;have g1:ae h h1:=⟨_,z⟩
 try refine⟨λe=>(by first|exact g1|cases e),?_⟩
 have E:h1[h.length]?=some ⟨texts nT,true⟩:=by rw[z];simp
 try simp(disch:=omega)
 refine b ?_;rw[aw];generalize B:aP aE _ _=PP;simp(disch:=omega);have dl:nT.length=18:=rfl;obtain⟨d,L⟩:=aC nT;rw[<-L]at E F i dl;refine aU (λk σ h'=>h'=h1∧k<=18∧(∀j (g:j<d.length),j<k->d[j]≠w)∧σ 0=S w∧σ 3=sl h.length 0 18 1∧σ 4=I k) (λk=>18-k) 0 ?_ ?_
 ·exact⟨rfl,by omega,by omega,by simp,by simp,by simp⟩
 rintro k σ h'⟨rfl,Q,hn,G,u,v⟩;simp(disch:=omega)[u,v];refine aG (λO=>?_) (λP=>?_)
 ·have C:k<18:=by omega
  have D:k<d.length:=by omega
  have x:(k:Int)<18:=by omega
  have y:cell h' h.length k=some (S d[k]):=i9 E (by simp[texts,ah D]);have wk:=cQ ((k:Int)+1) (((k+1:Nat):Int));by_cases q:d[k]=w
  ·have J:=F (by rw[<-q];exact aD D);subst J;simp(disch:=omega)[G,u,v,C,x,y,q];subst B;simp(disch:=omega);exact g1
  ·have M:∀j (g:j<d.length),j<k+1->d[j]≠w:=by
    intro j g N;by_cases e:j=k
    ·subst e;exact q
    ·exact hn j g (by omega)
   simp(disch:=omega)[G,u,v,C,x,y,q]
   try simp(disch:=omega)[wk]
   refine⟨k+1,?_,by omega⟩;and_intros<;>first|assumption|omega|rfl
 ·have H:=i (λj g=>hn j g (by omega));subst H;simp(disch:=omega);subst B;simp(disch:=omega);exact g1
end Am

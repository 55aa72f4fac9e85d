/- Contracts of functions. -/
import Derived.Test.YtpgioncclmancaaGreatPK17
set_option linter.unusedVariables false
set_option linter.unusedSimpArgs false
set_option maxHeartbeats 4000000
set_option maxRecDepth 40000
namespace Am
open Go
section side
variable {Γ : Nat -> Option mC} {K : (Nat -> Value) -> a9 -> Prop} {σ τ : Nat -> Value} {h : a9}
theorem IB{d q:Nat}{x:Operand}{o:Op}{r:List Oper}{v:Value}{h':a9}(e:gO o=true)(j:tG q=some x)(i:jz q=false)(g:gQ q=true)(c:dA (ev σ τ) h o=some (v,h'))(l:sameAt h h' (ev σ τ x)=true)
  (f:cU Γ r K σ (il τ d v) h'):cU Γ (op d o q::r) K σ τ h:=by
 obtain⟨m,s,hx,b⟩:=f;have k:xc kh q (ev σ τ) h h'=true:=by unfold xc;rw[j];simp only[aH,dq,fp];exact⟨.inl i,l⟩
 have hp:(⟨σ,τ,h⟩:St).put q (some d) v h'=⟨σ,il τ d v,h'⟩:=by simp[St.put,g]
 have a:kt (ev σ τ) o=none:=by
  unfold kt;split
  ·simp[gO]at e
  ·rfl
 refine⟨m,s,?_,b⟩;simp only[jL,qt,qF,op,a,c,k,if_true];rw[hp];exact hx
theorem UJ{d i:Nat}{o:Op}{r:List Oper}{w:Bool}:cU Γ (op d o 53 (some (i,w))::r) K σ τ h=fork Γ (Ch w (ev σ τ (uD i)))
  (.inr (if w then op d o 53::r else r,K,σ,if w then τ else il τ d (jr (some (i,w))),h)) (.inr (if w then r else op d o 53::r,K,σ,if w then il τ d (jr (some (i,w)))else τ,h)):=by
 rw[uq (o:=op d o 53 (some (i,w))) rfl];cases w<;>simp[op,gQ,fork,runT]
theorem TS{o:Option (Value×a9)}{k:Value->a9->Prop}(x:gE o k):∃v h',o=some (v,h')∧k v h':=by
 cases o with
 |none=>exact x.elim
 |some p=>exact⟨p.1,p.2,rfl,x⟩
end side
abbrev fE:=List (Int×Int)
def wU(l:fE):List Value:=(l.map λp=>[I p.1,I p.2]).flatten
theorem oe(l:fE):(wU l).length=l.length*2:=Cg (f:=λp:Int×Int=>[I p.1,I p.2]) (λ_=>rfl)
theorem My(l:fE)(p:Int×Int):wU (l++[p])=wU l++[I p.1,I p.2]:=by simp[wU]
def R7{α:Type}:Option α->Option α->Option α
 |some x,_=>some x
 |none,b=>b
theorem MT{α:Type}{a b:Option α}{x:α}(h:R7 a b=some x):a=some x∨(a=none∧b=some x):=by
 cases a with
 |none=>exact .inr ⟨rfl,h⟩
 |some y=>exact .inl h
noncomputable def BM{α:Type}(f:Nat->Nat->Option α)(b:Int)(k:Nat):Nat->Option α
 |0=>none
 |r+1=>if((3-(r+1):Nat):Int)=b then BM f b k r else R7 (f k (3-(r+1))) (BM f b k r)
noncomputable def Gx{α:Type}(f:Nat->Nat->Option α)(br:List Int):Nat->Option α
 |0=>none
 |r+1=>R7 (BM f (br.getD (br.length-(r+1)) 0) (br.length-(r+1)) 3) (Gx f br r)
noncomputable def zb(W H c:Int):Nat->Nat->List Int->fE->Option fE
 |0,_,br,now=>if(bC (W,H,br):Int)=c then some now else none
 |l+1,k,br,now=>Gx (λk kd=>zb W H c l (k+1) (br.set k (kd:Int)) (now++[((k:Int),(kd:Int))])) br (br.length-k)
noncomputable def EA(W H c:Int)(br:List Int)(m:Nat):Nat->Option fE
 |0=>none
 |r+1=>R7 (zb W H c (m-(r+1)) 0 br []) (EA W H c br m r)
def vP(X:bW)(c e:Int):Int:=if iv X then(if(1<=c∧c<=1000)∧(0<=e∧e<=3)then(if 12<X.2.2.length then 5 else 0)else 2)else 1
noncomputable def ye(X:bW)(c e:Int):fE×Int:=if vP X c e=0 then(match EA X.1 X.2.1 c X.2.2 (e.toNat+1) (e.toNat+1)with
 |some x=>(x,0)
 |none=>([],3))else([],vP X c e)
theorem PJ{α:Type}{f:Nat->Nat->Option α}{b:Int}{k kd:Nat}(a:kd<3):BM f b k (3-kd)=if((kd:Nat):Int)=b then BM f b k (3-(kd+1))else R7 (f k kd) (BM f b k (3-(kd+1))):=by
 have:kd=0∨kd=1∨kd=2:=by omega
 rcases this with rfl|rfl|rfl<;>rfl
theorem ahc{α:Type}{f:Nat->Nat->Option α}{br:List Int}{k:Nat}(b:k<br.length):Gx f br (br.length-k)=R7 (BM f (br.getD k 0) k 3) (Gx f br (br.length-(k+1))):=by obtain⟨r,a⟩:∃r,br.length-k=r+1:=⟨br.length-k-1,by omega⟩;rw[a,Gx,show br.length-(r+1)=k by omega,show br.length-(k+1)=r by omega]
theorem Rc{W H c:Int}{br:List Int}{m j:Nat}(b:j<m):EA W H c br m (m-j)=R7 (zb W H c j 0 br []) (EA W H c br m (m-(j+1))):=by obtain⟨r,a⟩:∃r,m-j=r+1:=⟨m-j-1,by omega⟩;rw[a,EA,show m-(r+1)=j by omega,show m-(j+1)=r by omega]
def Tn(l:fE):Prop:=l.length<=3∧∀p∈l,(0<=p.1∧p.1<=200)∧(0<=p.2∧p.2<=2)
theorem Ni{α:Type}{f:Nat->Nat->Option α}{b:Int}{k:Nat}{x:α}:∀r,r<=3->BM f b k r=some x->∃kd,kd<3∧f k kd=some x
 |0,_,h=>by simp[BM]at h
 |r+1,a,h=>by
  unfold BM at h;split at h
  ·exact Ni r (by omega) h
  ·rcases MT h with e|⟨_,e⟩
   ·exact⟨3-(r+1),by omega,e⟩
   ·exact Ni r (by omega) e
theorem Y7{α:Type}{f:Nat->Nat->Option α}{br:List Int}{x:α}:∀r,Gx f br r=some x->∃k kd,k<=br.length∧kd<3∧f k kd=some x
 |0,h=>by simp[Gx]at h
 |r+1,h=>by
  unfold Gx at h;rcases MT h with e|⟨_,e⟩
  ·obtain⟨kd,a,b⟩:=Ni 3 (by omega) e;exact⟨br.length-(r+1),kd,by omega,a,b⟩
  ·exact Y7 r e
theorem ag7{W H c:Int}:∀(l k:Nat) (br:List Int) (now x:fE),br.length<=150->(∀p∈now,(0<=p.1∧p.1<=200)∧(0<=p.2∧p.2<=2))->zb W H c l k br now=some x->x.length=now.length+l∧∀p∈x,(0<=p.1∧p.1<=200)∧(0<=p.2∧p.2<=2)
 |0,k,br,now,x,_,hn,h=>by
  unfold zb at h;split at h
  ·injection h with h;rw[<-h];exact⟨by simp,hn⟩
  ·cases h
 |l+1,k,br,now,x,f,hn,h=>by
  unfold zb at h;have h':=h;obtain⟨k',kd,h1,g,e⟩:=Y7 (br:=br) (br.length-k) h';have d:∀p∈now++[((k':Int),(kd:Int))],(0<=p.1∧p.1<=200)∧(0<=p.2∧p.2<=2):=by
   intro p hp;rcases cS.1 hp with q|q
   ·exact hn p q
   ·rw[fS.1 q];simp only;omega
  obtain⟨a,b⟩:=ag7 l (k'+1) (br.set k' (kd:Int)) (now++[((k':Int),(kd:Int))]) x (by rw[aS];exact f) d e;exact⟨by rw[a];simp;omega,b⟩
theorem XX{W H c:Int}{br:List Int}{m:Nat}{x:fE}(d:br.length<=150)(hm:m<=4):∀r,EA W H c br m r=some x->Tn x
 |0,h=>by simp[EA]at h
 |r+1,h=>by
  unfold EA at h;rcases MT h with e|⟨_,e⟩
  ·obtain⟨a,b⟩:=ag7 _ _ _ _ _ d (by simp) e;exact⟨by rw[a];simp;omega,b⟩
  ·exact XX d hm r e
def Nr(h:a9)(v:Value)(l:fE):Prop:=∃b o y,v=sl b o l.length y∧(l=[]∨aZ h b o (l.length*2)=some (wU l))
def IA(ob:Nat)(h:a9)(v:Value)(l:fE):Prop:=∀h',Mod ob (ob+1) h h'->Nr h' v l
theorem IA.mod{ob:Nat}{h h':a9}{v:Value}{l:fE}(x:IA ob h v l)(m:Mod ob (ob+1) h h'):IA ob h' v l:=λa b=>x a (m.trans b)
theorem IA.r{ob:Nat}{h:a9}{v:Value}{l:fE}(x:IA ob h v l):Nr h v l:=x h (Mod.refl _ _ _)
def Gz(ob:Nat)(h:a9)(v:Value)(X:bW):Prop:=∀h',Mod ob (ob+1) h h'->Vr h' bU v X
theorem Gz.mod{ob:Nat}{h h':a9}{v:Value}{X:bW}(x:Gz ob h v X)(m:Mod ob (ob+1) h h'):Gz ob h' v X:=λa b=>x a (m.trans b)
theorem Gz.r{ob:Nat}{h:a9}{v:Value}{X:bW}(x:Gz ob h v X):Vr h bU v X:=x h (Mod.refl _ _ _)
theorem Gz.of{ob lo hi:Nat}{h:a9}{v:Value}{X:bW}(x:Vo h lo hi bU v X)(c:ob<lo):Gz ob h v X:=λb a=>(x.mod a (.inr (by omega))).vr
theorem zS{ob b:Nat}{h h':a9}{k:mm}(m:Mod ob (ob+1) h h')(a:h[b]?=some k)(c:b≠ob):h'[b]?=some k:=by rw[m.2 b (bZ a) (by omega)];exact a
theorem IA.buf{ob:Nat}{h0 h:a9}{v:Value}{l:fE}(x:bP h0 h v 2 (wU l))(i:ob<h0.length):IA ob h v l:=by
 intro g e;rcases x with⟨a,c⟩|⟨b,n,a,c,f,d⟩
 ·have hl:=oe l;rw[a]at hl;have:l=[]:=aB.1 (by simp at hl;omega);subst this;exact⟨0,0,2,c,.inl rfl⟩
 ·rw[oe]at c;have:n=l.length:=by omega
  refine⟨b,0,2,by rw[a,this],.inr ?_⟩;exact cI (zS e d (by omega)) (by rw[oe])
theorem asz{ob:Nat}{h:a9}{k:mm}:Mod ob (ob+1) h (h.set ob k):=⟨by simp,λc a b=>by rw[ag (by omega)]⟩
theorem amW{h:a9}{v:Value}{l:fE}(hp:0<h.length)(r:Nr h v l)(hl:l.length<=100):∃a h',cu 2 h v (sl 0 0 0 2)=some (a,h')∧ae h h'∧bP h h' a 2 (wU l):=by
 obtain⟨b,o,y,rfl,f⟩:=r;by_cases e:l=[]
 ·subst e;exact⟨sl 0 0 0 2,h,by simp[cu,cR],ae.refl _,bP.nil⟩
 ·have c:l.length≠0:=λq=>e (aB.1 q);have hn:cR 2 h (sl b o l.length y)=some (wU l):=by simp[cR,c,f.resolve_left e]
  have d:wU l≠[]:=by intro q;have:=congrArg List.length q;rw[oe]at this;simp at this;omega
  obtain⟨a,h',i,g,b1⟩:=TS (pH (k:=λa h'=>ae h h'∧bP h h' a 2 ([]++wU l)) hp (ae.refl h) bP.nil hn (by omega) d (by rw[oe];omega) (by simp[oe,maxSize];omega) (λa h' g b _=>⟨g,b⟩))
  grind
theorem amX{h0 h:a9}{v:Value}{l:fE}{a b:Int}(hp:0<h0.length)(g:ae h0 h)(r:bP h0 h v 2 (wU l))(hl:l.length<=100):∃c h',cu 2 (h++[⟨[I a,I b],true⟩]) (sl h.length 0 1 2) v=some (c,h')∧ae h0 h'∧bP h0 h' c 2 (wU (l++[(a,b)])):=by
 have g2:ae h (h++[⟨[I a,I b],true⟩]):=⟨_,rfl⟩;have hn:cR 2 (h++[⟨[I a,I b],true⟩]) (sl h.length 0 1 2)=some [I a,I b]:=by simp[cR];rw[fB (k:=⟨[I a,I b],true⟩) (by simp) (by simp)];simp
 obtain⟨c,h',d,e,b1⟩:=TS (pH (k:=λc h'=>ae h0 h'∧bP h0 h' c 2 (wU l++[I a,I b])) hp (g.trans g2) (r.grow g2) hn (by omega) (by simp) (by simp) (by simp[oe,maxSize];omega) (λc h' g b _=>⟨g,b⟩));exact⟨c,h',d,e,by rw[My];exact b1⟩
theorem ae9(h:a9)(a b:Int):aW 2 1 h [(0,.agg #[I 0,I 0]),(2,.agg #[I a,I b])]=some (sl h.length 0 1 2,h++[⟨[I a,I b],true⟩]):=by simp[aW]
theorem c84(h:a9)(hp:0<h.length)(ob cb:Nat)(lb lo b d:Nat)(k v0:Value)(W H c:Int)(br:List Int)(pa:Gz ob h k (W,H,br))(ok:fg (W,H,br))(q:h[cb]?=some ⟨[I c],true⟩)(m:cb≠ob)(ko:h[ob]?=some ⟨[v0],true⟩):aN aE 84 [sl lb lo b d,k,pt ob 0,pt cb 0] h λr h'=>r=B (decide ((bC (W,H,br):Int)=c))∧Mod ob (ob+1) h h'∧h'[ob]?=some ⟨[sl lb lo b d],true⟩:=by
 obtain⟨s,rfl,w1,w2,r⟩:=pa.r.dE;obtain⟨h1,e⟩:=aC (h.set ob ⟨[sl lb lo b d],true⟩);have st:storeAt h ob 0 [sl lb lo b d]=some h1:=by unfold storeAt;rw[ko,e];simp
 have g:Mod ob (ob+1) h h1:=by rw[e];exact asz
 have p:h1[ob]?=some ⟨[sl lb lo b d],true⟩:=by rw[e];exact jy ko
 have l1:0<h1.length:=by rw[e,aS];exact hp
 have j:=pa.mod g;have f:=zS g q m;obtain⟨N,o⟩:=aC (bC (W,H,br));have l:=Ms h1 l1 _ (W,H,br) j.r ok;rw[<-o]at l ⊢;refine ag8 λK a=>?_;refine a ?_;refine bg λK a=>?_;simp(disch:=omega)[st];refine a ?_;refine akW λK a=>?_;refine aO l ?_;rintro _ t⟨g2,rfl⟩;have n:=i9 (i:=0) (g2.at f) (v:=I c) (by simp);simp(disch:=omega)[n];refine a ?_;simp(disch:=omega);exact⟨g.trans g2.mod,g2.at p⟩
structure Ns (h:a9) (mb sb pb fb ob cb many:Nat) (W H c:Int) (Jf:List Int):Prop where
 ne:mb≠ob∧sb≠ob∧pb≠ob∧fb≠ob∧cb≠ob
 m:h[mb]?=some ⟨[I many],true⟩
 s:h[sb]?=some ⟨[.func (.func 84) #[] #[pt ob 0,pt cb 0]],true⟩
 f:h[fb]?=some ⟨[.func (.func 32) #[] #[pt mb 0,pt sb 0,pt pb 0,pt fb 0]],true⟩
 c:h[cb]?=some ⟨[I c],true⟩
 p:∃sv,h[pb]?=some ⟨[I W,I H,sv],true⟩∧∀h',Mod ob (ob+1) h h'->Vr h' cZ sv Jf
theorem Ns.mod{h h':a9}{mb sb pb fb ob cb many:Nat}{W H c:Int}{Jf:List Int}(x:Ns h mb sb pb fb ob cb many W H c Jf)(m:Mod ob (ob+1) h h'):Ns h' mb sb pb fb ob cb many W H c Jf:=by obtain⟨n1,n2,n3,d,e⟩:=x.ne;obtain⟨sv,g,i⟩:=x.p;exact⟨x.ne,zS m x.m n1,zS m x.s n2,zS m x.f d,zS m x.c e,sv,zS m g n3,λa b=>i a (m.trans b)⟩
def Ze(ob:Nat)(h:a9)(r:Value)(res:Option fE):Prop:=∃v,h[ob]?=some ⟨[v],true⟩∧(∃b o n y,v=sl b o n y)∧r=B res.isSome∧∀x,res=some x->IA ob h v x
def yA(f:Nat->Nat->Option fE)(br:List Int)(k:Nat)(res:Option fE):Prop:=Gx f br (br.length-k)=res
def xD(f:Nat->Nat->Option fE)(br:List Int)(k kd:Nat)(res:Option fE):Prop:=R7 (BM f (br.getD k 0) k (3-kd)) (Gx f br (br.length-(k+1)))=res
def DT(ob:Nat)(h:a9):Prop:=∃v,h[ob]?=some ⟨[v],true⟩∧∃b o n y,v=sl b o n y
theorem Ze.has{ob:Nat}{h:a9}{r:Value}{res:Option fE}(x:Ze ob h r res):DT ob h:=by obtain⟨v,a,b,_⟩:=x;exact⟨v,a,b⟩
theorem anM{h:a9}{b o n z k:Nat}{X:List Int}(v:Vr h cZ (sl b o n z) X)(g:k<X.length):cell h b (o+k)=some (I (X.getD k 0)):=by obtain⟨b',m,p,e,_,_,_,f⟩:=v.ints;injection e with a j l;injection a with a;injection a with c d i;subst c;subst d;exact k9 f g
theorem fg.set{W H:Int}{br:List Int}{k:Nat}{x:Int}(ok:fg (W,H,br))(hx:0<=x∧x<=2):fg (W,H,br.set k x):=by
 refine⟨ok.w,ok.h,?_,?_⟩
 ·have:=ok.n;simp only at this ⊢;rw[aS];exact this
 ·intro y hy;rcases bJ hy with q|q
  ·exact ok.b y q
  ·rw[q];exact hx
theorem yA.k{f:Nat->Nat->Option fE}{br:List Int}{k:Nat}{res:Option fE}(x:yA f br k res)(a:k<br.length):xD f br k 0 res:=by unfold yA at x;rw[ahc a]at x;exact x
theorem xD.next{f:Nat->Nat->Option fE}{br:List Int}{k:Nat}{res:Option fE}(x:xD f br k 3 res):yA f br (k+1) res:=x
theorem xD.skip{f:Nat->Nat->Option fE}{br:List Int}{k kd:Nat}{res:Option fE}(x:xD f br k kd res)(a:kd<3)(e:((kd:Nat):Int)=br.getD k 0∨f k kd=none):xD f br k (kd+1) res:=by
 unfold xD at x ⊢;rw[PJ a]at x;rcases e with e|e
 ·rw[if_pos e]at x;exact x
 ·rw[e]at x;split at x
  ·exact x
  ·exact x
theorem xD.Rp{f:Nat->Nat->Option fE}{br:List Int}{k kd:Nat}{res:Option fE}{y:fE}(x:xD f br k kd res)(b:kd<3)(e:¬((kd:Nat):Int)=br.getD k 0)(a:f k kd=some y):res=some y:=by unfold xD at x;rw[PJ b,if_neg e,a]at x;exact x.symm
theorem c32(mb sb pb fb ob cb many:Nat)(W H c:Int)(Jf:List Int)(kf:Jf.length<=12)(Yi:many<=3):∀(l:Nat) (h:a9) (k0:Nat) (lv av:Value) (br:List Int) (now:fE),0<h.length->Ns h mb sb pb fb ob cb many W H c Jf->now.length+l=many->IA ob h lv now->Gz ob h av (W,H,br)->fg (W,H,br)->br.length=Jf.length->(∀j,k0<=j->br.getD j 0=Jf.getD j 0)->DT ob h->k0<=Jf.length->
  aN aE 32 [I k0,lv,av,pt mb 0,pt sb 0,pt pb 0,pt fb 0] h λr h'=>Mod ob (ob+1) h h'∧Ze ob h' r (zb W H c l k0 br now):=by
 intro l
 induction l with
 |zero=>
  intro h k0 lv av br now hp env hl J g ok kx Bd zL hk;have N4:zb W H c 0 k0 br now=if(bC (W,H,br):Int)=c then some now else none:=rfl;obtain⟨G,S⟩:=aC (zb W H c 0 k0 br now);rw[<-S]at N4 ⊢;obtain⟨lb,lo,ly,rfl,FG⟩:=J.r;obtain⟨v0,ko,_⟩:=zL;have t:=g;obtain⟨s,rfl,w1,w2,r⟩:=g.r.dE;have cm:=i9 (i:=0) env.m (v:=I many) (by simp);have cs:=i9 (i:=0) env.s (v:=.func (.func 84) #[] #[pt ob 0,pt cb 0]) (by simp);have u:((now.length:Nat):Int)=many:=by omega
  have em:now.length=many:=by omega
  refine ag8 λK E=>?_;refine E ?_;rw[aw];generalize E:aP aE _ _=K;simp(disch:=omega)[cm,u,em];simp(disch:=omega)[cs];refine aO (c84 h hp ob cb lb lo many ly _ v0 W H c br t ok env.c env.ne.2.2.2.2 ko) ?_;rintro _ h2⟨rfl,m2,k2⟩
  try simp(disch:=omega)
  subst E;simp(disch:=omega);refine⟨m2,_,k2,⟨_,_,_,_,rfl⟩,?_,?_⟩
  ·rw[N4];by_cases q:(bC (W,H,br):Int)=c
   ·rw[if_pos q,decide_eq_true q];rfl
   ·rw[if_neg q,decide_eq_false q];rfl
  ·intro x hx;rw[N4]at hx;split at hx
   ·injection hx with hx;rw[<-hx,<-em];exact J.mod m2
   ·cases hx
 |succ l ih=>
  intro h k0 lv av br now hp env hl J g ok kx Bd zL hk;obtain⟨f,ef⟩:∃f:Nat->Nat->Option fE,f=λ(k kd:Nat)=>zb W H c l (k+1) (br.set k (kd:Int)) (now++[((k:Int),(kd:Int))]):=⟨_,rfl⟩;have efk:∀k kd,f k kd=zb W H c l (k+1) (br.set k (kd:Int)) (now++[((k:Int),(kd:Int))]):=λk kd=>by rw[ef]
  obtain⟨G,S⟩:=aC (zb W H c (l+1) k0 br now);have LP0:yA f br k0 G:=by rw[S,ef];rfl
  rw[<-S];clear S ef;obtain⟨lb,lo,ly,C,FG⟩:=J.r;have t:=g;obtain⟨s,U,w1,w2,r⟩:=g.r.dE;have⟨Hf,so1,sn1,sz1,es⟩:∃b o n z,s=sl b o n z:=by obtain⟨b,o,z,e,_⟩:=r.ints;exact⟨b,o,_,z,e⟩
  subst es;obtain⟨SA,L⟩:=aC (Value.agg #[I W,I H,sl Hf so1 sn1 sz1]);rw[<-L]at U;rw[U]at t ⊢;have cm:=i9 (i:=0) env.m (v:=I many) (by simp);have u:¬((now.length:Nat):Int)=many:=by omega
  have em:¬now.length=many:=by omega
  obtain⟨n,en⟩:=aC Jf.length;have obl:ob<h.length:=by obtain⟨v,hv,_⟩:=zL;exact bZ hv
  obtain⟨nn,GM⟩:=aC now.length;rw[<-GM]at C u em;obtain⟨SL,BR⟩:=aC (sl lb lo nn ly);rw[<-BR]at C;rw[C]at J ⊢;refine afq ?_;refine bg λK E=>?_;simp(disch:=omega)[L];refine E ?_;rw[aw];generalize E:aP aE _ _=K;simp(disch:=omega)[cm,u,em,BR];subst E;simp only[aq];rw[aw];generalize hP:aP aE _ _=PP;have aD2:∀(σ:Nat->Value) (h':a9) (v:Value),Mod ob (ob+1) h h'->yA f br n G->(h'[ob]?=some ⟨[v],true⟩)->(∃b o n y,v=sl b o n y)->PP 0 σ h':=by
   intro σ h' v hm hL M hv;have T:G=none:=by unfold yA at hL;rw[<-hL,show br.length-n=0 by omega];rfl
   subst hP;simp only[aq];simp(disch:=omega);exact⟨hm,v,M,hv,by rw[T];rfl,by rw[T];intro x hx;cases hx⟩
  have aFc:∀(σ:Nat->Value) (h':a9) (y:fE) (v:Value),Mod ob (ob+1) h h'->G=some y->(h'[ob]?=some ⟨[v],true⟩)->(∃b o n y,v=sl b o n y)->IA ob h' v y->σ 10=B true->PP 1 σ h':=by intro σ h' y v hm hR M hv hs nK;subst hP;simp(disch:=omega)[nK];exact⟨hm,v,M,hv,by rw[hR];rfl,by rw[hR];intro x hx;injection hx with hx;rw[<-hx];exact hs⟩
  clear hP;rw[gJ];have b0:∀(σ:Nat->Value) (h':a9),PP 0 σ h'->eY 0 PP 2 σ h':=by intro σ h' x;rw[fk,if_pos rfl];exact x
  have b1:∀(σ:Nat->Value) (h':a9),PP 1 σ h'->eY 0 PP 1 σ h':=by intro σ h' x;rw[fk,if_neg (by omega)];exact x
  generalize eY 0 PP=B0 at b0 b1 ⊢;obtain⟨sv,psv,vsv⟩:=env.p;refine aU (λk σ h'=>k<=n∧Mod ob (ob+1) h h'∧yA f br k G∧DT ob h'∧σ 0=I k∧σ 1=SL∧σ 3=pt mb 0∧σ 5=pt pb 0∧σ 6=pt fb 0∧σ 9=SA∧k0<=k) (λk=>n-k) k0 ?_ ?_
  ·exact⟨by omega,Mod.refl _ _ _,LP0,zL,by simp,by simp[BR],by simp,by simp,by simp,by simp[L],by omega⟩
  obtain⟨vb,vo,vz,V,_⟩:=(vsv h (Mod.refl _ _ _)).ints;rw[<-en]at V;subst V;rintro k σ h'⟨sk,hm,hL,M,q0,q1,q3,q5,q6,q9,Rr⟩;have p1:=zS hm psv env.ne.2.2.1;have cp:=i9 (i:=2) p1 (v:=sl vb vo n vz) (by simp);simp(disch:=omega)[q0,q5,cp];refine aG (λbB=>?_) (λdG=>?_)
  ·have k1:k<n:=by omega
   have LK0:=hL.k (by omega:k<br.length);have Yb:=Bd k Rr;simp(disch:=omega);refine aU (λkd τ F=>kd<=3∧Mod ob (ob+1) h F∧xD f br k kd G∧DT ob F∧τ 0=I k∧τ 1=SL∧τ 3=pt mb 0∧τ 5=pt pb 0∧τ 6=pt fb 0∧τ 9=SA∧τ 27=I kd) (λkd=>3-kd) 0 ?_ ?_
   ·exact⟨by omega,hm,LK0,M,by simpa using q0,by simpa using q1,by simpa using q3,by simpa using q5,by simpa using q6,by simpa using q9,by simp⟩
   rintro kd τ F⟨hkd,d,LC,hOb,N,t1,t3,t5,t6,t9,oj⟩;simp(disch:=omega)[oj];refine aG (λbB=>?_) (λdG=>?_)
   ·have Vu:kd<3:=by omega
    have P:=env.mod d;have p1:=zS d psv env.ne.2.2.1;have cp:=i9 (i:=2) p1 (v:=sl vb vo n vz) (by simp);have cb:=anM (vsv F d) (k:=k) (by omega);rw[<-Yb]at cb;obtain⟨bk,NT⟩:=aC (br.getD k 0);rw[<-NT]at cb;by_cases eq:((kd:Nat):Int)=bk
    ·have LV:=LC.skip Vu (.inl (by rw[<-NT];exact eq));simp(disch:=omega)[N,t5,oj,cp,k1,cb,eq,UJ];have wk:=cQ (bk+1) (((kd+1:Nat):Int));refine⟨kd+1,?_,by omega⟩;and_intros<;>first|assumption|exact d.1|exact d.2|omega|rfl
    ·have eqI:¬bk=((kd:Nat):Int):=λe=>eq e.symm;have cf:=i9 (i:=0) P.f (v:=.func (.func 32) #[] #[pt mb 0,pt sb 0,pt pb 0,pt fb 0]) (by simp);have Zc:=cQ ((k:Int)+1) (((k+1:Nat):Int));have EN:0<F.length:=by have:=d.1;omega
     have obh:ob<F.length:=by have:=d.1;omega
     have w:=bZ P.f;obtain⟨v1,h1,A1,G1,B1'⟩:=amW EN (J.mod d).r (by omega);obtain⟨v3,h3,A3,A,B3⟩:=amX (a:=(k:Int)) (b:=(kd:Int)) EN G1 B1' (by omega);have Bm:=aL EN A;have pa3:Gz ob h3 SA (W,H,br):=t.mod (d.trans A.mod);have Q:=pa3.r;rw[L]at Q;have aCt:=c26 h3 Bm _ W H br k (kd:Int) Q (by omega) (by omega) (by unfold bK;omega);have aDZ:=efk k kd;simp(disch:=omega)[N,t5,t6,oj,cp,cf,k1,cb,eq,eqI,UJ];refine @IB aE _ _ _ _ 43 53 (.tmp 6) (bi .append #[.global 41,.global 42] 2) _ v1 h1 rfl rfl rfl rfl ?_ ?_ ?_
     ·simp(disch:=omega)[t1];exact A1
     ·simp(disch:=omega)[t6];exact yR.2 (G1.look w)
     simp(disch:=omega)[N,ae9];refine @IB aE _ _ _ _ 48 53 (.tmp 6) (bi .append #[.global 43,.global 47] 2) _ v3 h3 rfl rfl rfl rfl ?_ ?_ ?_
     ·simp(disch:=omega);exact A3
     ·simp(disch:=omega)[t6];refine yR.2 ?_;rw[A.look w];exact((G1.trans ⟨_,rfl⟩).look w).symm
     simp(disch:=omega)[N,t9,L];refine @WT aE _ _ _ 52 53 (.tmp 6) (.func 26) #[.global 49,.global 50,.global 51] _ _ 26 #[] _ rfl rfl rfl (by simpa using aCt) ?_;rintro R Z⟨X,o4⟩;refine⟨?_,?_⟩
     ·simp(disch:=omega)[t6];exact yR.2 (X.look (bQ w A.le))
     have o4v:=o4.vr;obtain⟨s4,e4,_,_,i4⟩:=o4v.dE;obtain⟨b4,oo4,n4,z4,rfl⟩:∃b o n z,s4=sl b o n z:=by obtain⟨b,o,z,e,_⟩:=i4.ints;exact⟨b,o,_,z,e⟩
     have aE7:ob<h3.length:=by have:=A.le;omega
     have m4:Mod ob (ob+1) F Z:=A.mod.trans X.mod;have Y:=d.trans m4;have ed4:IA ob Z v3 (now++[((k:Int),(kd:Int))]):=(IA.buf B3 obh).mod X.mod;have pa4:Gz ob Z R (W,H,br.set k (kd:Int)):=Gz.of o4 aE7;have ob4:DT ob Z:=by obtain⟨v,kv,sv⟩:=hOb;exact⟨v,(A.trans X).at kv,sv⟩
     have O:=ih Z (k+1) v3 R (br.set k (kd:Int)) (now++[((k:Int),(kd:Int))]) (aL Bm X) (env.mod Y) (by simp;omega) ed4 pa4 (ok.set (by omega)) (by rw[aS];exact kx) (by
      intro j hj;rw[aA,ag (by omega),<-aA];exact Bd j (by omega)) ob4 (by omega)
     rw[<-aDZ,<-Zc]at O;simp(disch:=omega)[gQ];refine aO O ?_;rintro _ h5⟨m5,EM⟩;have D:=Y.trans m5;have aLO:=EM.has;obtain⟨v5,kv5,sv5,rfl,hx5⟩:=EM;cases Uz:f k kd with
     |none=>
      have LV:=LC.skip Vu (.inr Uz);simp(disch:=omega)
      try simp(disch:=omega)[oj,wrap64]
      refine⟨kd+1,?_,by omega⟩;and_intros<;>first|assumption|exact D.1|exact D.2|omega|(rw[<-L];assumption)|rfl
     |some y=>
      have Rp:=LC.Rp Vu (by rw[<-NT];exact eq) Uz;simp(disch:=omega);exact b1 _ _ (aFc _ h5 y v5 D Rp kv5 sv5 (hx5 y Uz) (by simp))
   ·have:kd=3:=by omega
    subst this;have LV:=LC.next;have Zc:=cQ ((k:Int)+1) (((k+1:Nat):Int));simp(disch:=omega)[N,Zc]
    try simp(disch:=omega)[N,wrap64]
    refine⟨k+1,?_,by omega⟩;and_intros<;>first|assumption|exact d.1|exact d.2|omega|rfl
  ·have:k=n:=by omega
   subst this;simp(disch:=omega);obtain⟨v,kv,sv⟩:=M;exact b0 _ _ (aD2 _ h' v hm hL kv sv)
theorem c31(h:a9)(hp:0<h.length)(W H c:Int)(br:List Int)(sb o l p many ob cb:Nat)(s:∀h',Mod ob (ob+1) h h'->Vr h' cZ (sl sb o l p) br)(ok:fg (W,H,br))(J:br.length<=12)(hm:many<=3)(B:h[cb]?=some ⟨[I c],true⟩)(D:cb≠ob)(C:DT ob h):aN aE 31 [.agg #[I W,I H,sl sb o l p],I many,.func (.func 84) #[] #[pt ob 0,pt cb 0]] h λr h'=>Mod ob (ob+1) h h'∧Ze ob h' r (zb W H c many 0 br []):=by
 have P:ob<h.length:=by obtain⟨v,s,_⟩:=C;exact bZ s
 have E:=bZ B;have Q:=ok.w;have G:=ok.h;simp only at Q G;refine afq ?_;refine bg λK f=>?_
 try simp(disch:=omega)
 obtain⟨pb,q⟩:=aC h.length;obtain⟨h1,j⟩:=aC (h++[⟨[I W,I H,sl sb o l p],true⟩,⟨[I many],true⟩,⟨[.func (.func 84) #[] #[pt ob 0,pt cb 0]],true⟩]);have g1:ae h h1:=⟨_,j⟩;have l1:h1.length=pb+3:=by rw[j,q];simp
 have z:h1[pb]?=some ⟨[I W,I H,sl sb o l p],true⟩:=by rw[j,q];simp
 have L:h1[pb+1]?=some ⟨[I many],true⟩:=by rw[j,q];simp
 have M:h1[pb+2]?=some ⟨[.func (.func 84) #[] #[pt ob 0,pt cb 0]],true⟩:=by rw[j,q];simp
 rw[<-j,<-q];refine f ?_;refine bg λK f=>?_;simp(disch:=omega)[Ai,cellsOf,scalar];refine f ?_;obtain⟨e,d⟩:=aC (Value.func (.func 32) #[] #[pt (pb+1) 0,pt (pb+2) 0,pt pb 0,pt (pb+3) 0]);have fv:∀g:a9,CM 32 [] [pt (pb+1) 0,pt (pb+2) 0,pt pb 0,pt (pb+3) 0] g=some (e,g):=λg=>by rw[d];rfl
 have st:storeAt (h1++[⟨[.nilFunc],true⟩]) (pb+3) 0 [e]=some (h1++[⟨[e],true⟩]):=by rw[<-l1];exact rH rfl
 have u:cellsOf e=some [e]:=by rw[d];rfl
 rw[l1];refine bg λK f=>?_;simp(disch:=omega)[fv,zv,u,st];obtain⟨k,x⟩:=aC (h1++[⟨[e],true⟩]);have g2:ae h1 k:=⟨_,x⟩;have A:k[pb+3]?=some ⟨[e],true⟩:=by rw[x,<-l1];simp
 rw[<-x];refine f ?_;have gT:=g1.trans g2;have env:Ns k (pb+1) (pb+2) pb (pb+3) ob cb many W H c br:=⟨⟨by omega,by omega,by omega,by omega,D⟩,g2.at L,g2.at M,by rw[<-d];exact A,gT.at B,_,g2.at z,λh' m=>s h' (gT.mod.trans m)⟩;have cf:=i9 (i:=0) A (v:=e) (by simp);have F:=cI (n:=3) (g2.at z) rfl;have t:DT ob k:=by obtain⟨v,a,b⟩:=C;exact⟨v,gT.at a,b⟩
 have y:Gz ob k (.agg #[I W,I H,sl sb o l p]) (W,H,br):=λh' m=>Vr.jF (by unfold bK;omega) (by unfold bK;omega) (s h' (gT.mod.trans m));have call:=c32 (pb+1) (pb+2) pb (pb+3) ob cb many W H c br J hm many k 0 (sl 0 0 0 0) _ br [] (aL hp gT) env (by simp) (λh' m=>⟨0,0,0,rfl,.inl rfl⟩) y ok rfl (λ_ _=>rfl) t (by omega);refine bg λK f=>?_;simp(disch:=omega)[cf,F];rw[d]
 try simp(disch:=omega)
 refine aO call ?_;rintro r R⟨O,o3⟩;obtain⟨v,N,sv,rfl,hx⟩:=o3
 try simp(disch:=omega)
 refine f ?_
 try simp(disch:=omega)
 exact⟨gT.mod.trans O,v,N,sv,rfl,hx⟩
theorem aCo(h:a9)(v:Value)(X:bW)(c e:Int)(j:Vr h bU v X):aN aE 187 [v,I c,I e] h λr h'=>r=I (vP X c e)∧h'=h:=by
 have k:=j;obtain⟨A,i⟩:=aC (vP X c e);have a:=i;unfold vP at a;rw[<-i];obtain⟨W,H,br⟩:=X;obtain⟨s,rfl,w1,w2,r⟩:=j.dE;refine afq ?_;refine bg λK b=>?_
 try simp(disch:=omega)
 refine b ?_;rw[aw];generalize b:aP aE _ _=K
 try simp(disch:=omega)
 refine aO (B7 _ _ h k) ?_;rintro _ h1⟨rfl,rfl⟩;cases g:iv (W,H,br)
 ·simp only[g,ax,if_false]at a;subst a
  try simp(disch:=omega)
  subst b
  try simp(disch:=omega)
 simp only[g,if_true]at a
 try simp(disch:=omega)
 subst b;simp only[aq];rw[aw];generalize b:aP aE _ _=K
 try simp(disch:=omega)
 have l:=B8 c 1 1000 h1;have m:=B8 e 0 3 h1;refine aO l ?_;rintro _ _⟨rfl,rfl⟩;cases d:gZ c 1 1000
 ·have:¬(1<=c∧c<=1000):=λq=>by rw[fM.2 q]at d;cases d
  rw[if_neg (λq=>this q.1)]at a;subst a
  try simp(disch:=omega)
  subst b
  try simp(disch:=omega)
 have q1:=fM.1 d
 try simp(disch:=omega)
 refine aO m ?_;rintro _ _⟨rfl,rfl⟩;cases f:gZ e 0 3
 ·have:¬(0<=e∧e<=3):=λq=>by rw[fM.2 q]at f;cases f
  rw[if_neg (λq=>this q.2)]at a;subst a
  try simp(disch:=omega)
  subst b
  try simp(disch:=omega)
 have q2:=fM.1 f;rw[if_pos ⟨q1,q2⟩]at a
 try simp(disch:=omega)
 subst b;simp only[aq];obtain⟨sb,p,t,rfl,_⟩:=r.ints;rw[aw];generalize b:aP aE _ _=K
 try simp(disch:=omega)
 refine aG (λn=>?_) (λo=>?_)
 ·rw[if_pos (by omega)]at a;subst a
  try simp(disch:=omega)
  subst b
  try simp(disch:=omega)
 ·rw[if_neg (by omega)]at a;subst a
  try simp(disch:=omega)
  subst b
  try simp(disch:=omega)
def an5(h h':a9)(r:Value)(A:fE×Int):Prop:=ae h h'∧∃b o n y,r=.tuple #[sl b o n y,I A.2]∧Nr h' (sl b o n y) A.1
def CG(W H c:Int)(br:List Int)(m j:Nat)(res:Option fE):Prop:=EA W H c br m (m-j)=res
theorem J9{ob:Nat}{h0 h h':a9}(g:ae h0 h)(m:Mod ob (ob+1) h h')(c:h0.length<=ob):ae h0 h':=
 EC (a7 g.le m.1) λb a=>by rw[m.2 b (by have:=g.le;omega) (by omega),g.look a]
theorem c83(h:a9)(hp:0<h.length)(v:Value)(X:bW)(c e:Int)(u:Vr h bU v X):aN aE 83 [v,I c,I e] h λr h'=>an5 h h' r (ye X c e):=by
 have P:=u;obtain⟨A,Q⟩:=aC (ye X c e);have a:=Q;unfold ye at a;rw[<-Q];have B:=λh u=>aCo h v X c e u;obtain⟨cd,V⟩:=aC (vP X c e);have d:=V;unfold vP at d;simp only[<-V]at B a;obtain⟨W,H,br⟩:=X;obtain⟨s,rfl,w1,w2,r⟩:=u.dE;obtain⟨sb,L,M,rfl,_⟩:=r.ints;obtain⟨n,en⟩:=aC br.length;rw[<-en]at B P r ⊢;refine afq ?_;refine bg λK f=>?_
 try simp(disch:=omega)
 obtain⟨cb,w⟩:=aC h.length;obtain⟨h1,t⟩:=aC (h++[⟨[I c],true⟩]);have g1:ae h h1:=⟨_,t⟩;have l1:h1.length=cb+1:=by rw[t,w];simp
 have T:h1[cb]?=some ⟨[I c],true⟩:=by rw[t,w];simp
 have cc:=i9 (i:=0) T (v:=I c) (by simp);rw[<-t,<-w];refine f ?_;rw[aw];generalize f:aP aE _ _=K;simp(disch:=omega)[cc];refine aO (B h1 (P.grow g1)) ?_;rintro _ _⟨rfl,rfl⟩;by_cases q:cd=0
 case neg=>
  rw[if_neg q]at a;simp(disch:=omega)[q];subst f
  try simp(disch:=omega)
  rw[a];exact⟨g1,0,0,0,0,rfl,0,0,0,rfl,.inl rfl⟩
 rename_i h1;rw[if_pos q]at a;rw[q]at d;have O:iv (W,H,br)=true:=by
  cases e:iv (W,H,br)
  ·rw[e]at d;simp at d
  ·rfl
 simp only[O,if_true]at d;have G:(1<=c∧c<=1000)∧(0<=e∧e<=3):=by
  by_cases q:(1<=c∧c<=1000)∧(0<=e∧e<=3)
  ·exact q
  ·rw[if_neg q]at d;omega
 rw[if_pos G]at d;have C:br.length<=12:=by
  by_cases q:12<br.length
  ·rw[if_pos q]at d;omega
  ·omega
 have ok:=dK.1 O;simp(disch:=omega)[q];subst f;simp only[aq];have J:storeAt (h1++[⟨[sl 0 0 0 0],true⟩]) h1.length 0 [sl 0 0 0 2]=some (h1++[⟨[sl 0 0 0 2],true⟩]):=rH rfl;refine bg λK f=>?_;simp(disch:=omega)[J];obtain⟨ob,U⟩:=aC h1.length;obtain⟨l,D⟩:=aC (h1++[⟨[sl 0 0 0 2],true⟩]);have g2:ae h1 l:=⟨_,D⟩;have ko:l[ob]?=some ⟨[sl 0 0 0 2],true⟩:=by rw[D,U];simp
 rw[<-D,<-U];refine f ?_;have gT:=g1.trans g2;have N:∀h',Mod ob (ob+1) l h'->Vr h' cZ (sl sb L n M) br:=λh' m=>r.grow (J9 gT m (by have:=g1.le;omega));have fv:∀g:a9,CM 84 [] [pt ob 0,pt cb 0] g=some (.func (.func 84) #[] #[pt ob 0,pt cb 0],g):=λg=>rfl;obtain⟨m,em⟩:=aC (e.toNat+1);have wm:=cQ (e+1) m;rw[<-em]at a;obtain⟨p,R⟩:=aC (EA W H c br m m);rw[<-R]at a;have Y:CG W H c br m 0 p:=R.symm;have zL:DT ob l:=⟨_,ko,_,_,_,_,rfl⟩;rw[aw];generalize S:aP aE _ _=PP;simp(disch:=omega)[wm];refine aU (λj σ h'=>j<=m∧Mod ob (ob+1) l h'∧CG W H c br m j p∧DT ob h'∧σ 3=.agg #[I W,I H,sl sb L n M]∧σ 4=pt cb 0∧σ 9=pt ob 0∧σ 20=I m∧σ 21=I j) (λj=>m-j) 0 ?_ ?_
 ·exact⟨by omega,Mod.refl _ _ _,Y,zL,by simp,by simp,by simp,by simp,by simp⟩
 rintro j σ h'⟨hj,hm,F,hO,q3,q4,q9,zU,LZ⟩;simp(disch:=omega)[zU,LZ];refine aG (λbB=>?_) (λdG=>?_)
 ·have j1:j<m:=by omega
  have ls:=F;unfold CG at ls;rw[Rc j1]at ls;have k:cb≠ob:=by omega
  have call:=c31 h' (by have:=hm.1;have:=aL hp gT;omega) W H c br sb L n M j ob cb (λuT m2=>N uT (hm.trans m2)) ok C (by omega) (zS hm (g2.at T) k) k hO;simp(disch:=omega)[q3,q4,q9,LZ,fv];refine aO call ?_;rintro r h3⟨m3,o3⟩;have z:=hm.trans m3;have Z:=o3.has;obtain⟨v,kv,sv,rfl,hx⟩:=o3;cases x:zb W H c j 0 br []with
  |none=>
   rw[x]at ls;have LV:CG W H c br m (j+1) p:=ls
   try simp(disch:=omega)
   try simp(disch:=omega)[LZ,wrap64]
   refine⟨j+1,?_,by omega⟩;and_intros<;>first|assumption|exact z.1|exact z.2|omega|rfl
  |some y=>
   rw[x]at ls;have E:p=some y:=ls.symm;rw[E]at a;simp only at a;have co:=i9 (i:=0) kv (v:=v) (by simp);obtain⟨b,o,n',y',rfl⟩:=sv;simp(disch:=omega)[q9,co];subst S
   try simp(disch:=omega)
   rw[a];exact⟨J9 gT z (by have:=g1.le;omega),b,o,n',y',rfl,(hx y x).r⟩
 ·have:j=m:=by omega
  subst this;have E:p=none:=by unfold CG at F;rw[<-F,gN];rfl
  rw[E]at a;simp only at a
  try simp(disch:=omega)
  subst S
  try simp(disch:=omega)
  rw[a];exact⟨J9 gT hm (by have:=g1.le;omega),0,0,0,0,rfl,0,0,0,rfl,.inl rfl⟩
def fX(lo:Nat)(h h':a9):Prop:=h.length<=h'.length∧∀b,b<lo->h'[b]?=h[b]?
theorem fX.refl{lo:Nat}{h:a9}:fX lo h h:=⟨aa _,λ_ _=>rfl⟩
theorem fX.trans{lo:Nat}{a b c:a9}(x:fX lo a b)(y:fX lo b c):fX lo a c:=⟨a7 x.1 y.1,λd e=>by rw[y.2 d e,x.2 d e]⟩
theorem fX.put{lo b:Nat}{h:a9}{k:mm}(a:lo<=b):fX lo h (h.set b k):=⟨by simp,λc d=>by rw[ag (by omega)]⟩
theorem fX.grow{lo:Nat}{h h':a9}(g:ae h h')(hl:lo<=h.length):fX lo h h':=⟨g.le,λc a=>g.look (by omega)⟩
theorem fX.kR{h0 h h':a9}(g:ae h0 h)(s:fX h0.length h h'):ae h0 h':=EC (a7 g.le s.1) λb a=>by rw[s.2 b a,g.look a]
theorem yE{h:a9}{b i:Nat}{cs:List Value}{x:Value}(a:h[b]?=some ⟨cs,true⟩)(hi:i<cs.length):storeAt h b i [x]=some (h.set b ⟨cs.set i x,true⟩):=by
 unfold storeAt;rw[a];simp only[dH];rw[if_pos ⟨trivial,by omega⟩]
 congr 2
 unfold iK;rw[iI,if_pos hi];simp
structure sW (lo sb wb wz nb ny ab an ay:Nat) (fv:Value) (fd:Bool) (j7 pZ oB:Int) (W H c:Int) (h:a9) (br:List Int) (now:fE):Prop where
 box:h[sb]?=some ⟨[I W,I H,sl wb 0 br.length wz,I c,sl nb 0 now.length ny,fv,B fd,I j7,I pZ,I oB,sl ab 0 an ay],true⟩
 z:wz=1∨wb=0∧br=[]
 w:br=[]∨(h[wb]?=some ⟨ints br,true⟩∧lo<=wb∧wb≠sb)
 n:(now=[]∧nb=0)∨(ny=2∧lo<=nb∧nb≠0∧nb≠sb∧(br=[]∨nb≠wb)∧∃rest,h[nb]?=some ⟨wU now++rest,true⟩)
 a:(an=0∧ab=0)∨(ay=1∧lo<=ab∧ab≠0∧ab≠sb∧(br=[]∨ab≠wb)∧ab≠nb∧∃cs,h[ab]?=some ⟨cs,true⟩∧cs.length=an)
 zX:lo<=sb∧0<lo
 f:∃b o n y,fv=sl b o n y
section
variable {lo sb wb wz nb ny ab an ay : Nat} {fv : Value} {fd : Bool} {j7 pZ oB W H c : Int} {h : a9} {br : List Int} {now : fE}
theorem sW.grow{h':a9}(x:sW lo sb wb wz nb ny ab an ay fv fd j7 pZ oB W H c h br now)(g:ae h h'):sW lo sb wb wz nb ny ab an ay fv fd j7 pZ oB W H c h' br now:=
 ⟨g.at x.box,x.z,x.w.imp id λe=>⟨g.at e.1,e.2⟩,x.n.imp id λ⟨a,b,c,d,e,r,f⟩=>⟨a,b,c,d,e,r,g.at f⟩,x.a.imp id λ⟨a,b,c,d,e,i,r,f⟩=>⟨a,b,c,d,e,i,r,g.at f.1,f.2⟩,x.zX,x.f⟩
theorem sW.pt(x:sW lo sb wb wz nb ny ab an ay fv fd j7 pZ oB W H c h br now)(ok:fg (W,H,br)):gY h (Am.pt sb 0) (W,H,br):=by have d:=ok.w;have a:=ok.h;have hl:=jH ok;simp only at d a;refine⟨sb,0,sl wb 0 br.length wz,rfl,i9 x.box (by simp),i9 x.box (by simp),i9 x.box (by simp),?_,by unfold bK;simp only;omega,by unfold bK;simp only;omega⟩;exact Vr.fY x.z (by rw[cH];omega) (λy hy=>by have:=ok.b y hy;unfold bK;omega) (x.w.imp id λe=>cI e.1 (by simp[ints]))
theorem sW.Tk{k:Nat}{y:Int}(x:sW lo sb wb wz nb ny ab an ay fv fd j7 pZ oB W H c h br now)(i:k<br.length):wz=1∧∃h1,storeAt h wb k [I y]=some h1∧sW lo sb wb wz nb ny ab an ay fv fd j7 pZ oB W H c h1 (br.set k y) now∧fX lo h h1∧(∀b,b≠wb->h1[b]?=h[b]?)∧h1.length=h.length:=by
 have g:br≠[]:=by intro e;rw[e]at i;simp at i
 have m:br.set k y≠[]:=by intro e;have:=congrArg List.length e;simp at this;exact g this
 obtain⟨w1,w2,w3⟩:=x.w.resolve_left g;refine⟨x.z.resolve_right (λe=>g e.2),_,iF w1 i,⟨?_,.inl (x.z.resolve_right (λe=>g e.2)),.inr ⟨jy w1,w2,w3⟩,?_,?_,x.zX,x.f⟩,fX.put w2,λb l=>by rw[ag (λe=>l e.symm)],by simp⟩
 ·rw[ag w3,x.box,aS]
 ·rcases x.n with e|⟨a,b,c,d,e,r,f⟩
  ·exact .inl e
  ·have:=e.resolve_left g;exact .inr ⟨a,b,c,d,.inr this,r,by rw[ag (λq=>this q.symm)];exact f⟩
 ·rcases x.a with e|⟨a,b,c,d,e,j,r,f⟩
  ·exact .inl e
  ·have:=e.resolve_left g;exact .inr ⟨a,b,c,d,.inr this,j,r,by rw[ag (λq=>this q.symm)];exact f.1,f.2⟩
theorem sW.other{cs:List Value}{b:Nat}(x:sW lo sb wb wz nb ny ab an ay fv fd j7 pZ oB W H c h br now)(a:b≠sb):(h.set sb ⟨cs,true⟩)[b]?=h[b]?:=ag (λe=>a e.symm)
theorem sW.Pr{fv':Value}{UC:Bool}{Mu sD MO:Int}(x:sW lo sb wb wz nb ny ab an ay fv fd j7 pZ oB W H c h br now)(i:∃b o n y,fv'=sl b o n y):sW lo sb wb wz nb ny ab an ay fv' UC Mu sD MO W H c (h.set sb ⟨[I W,I H,sl wb 0 br.length wz,I c,sl nb 0 now.length ny,fv',B UC,I Mu,I sD,I MO,sl ab 0 an ay],true⟩) br now:=by
 refine⟨jy x.box,x.z,?_,?_,?_,x.zX,i⟩
 ·exact x.w.imp id λe=>⟨by rw[x.other e.2.2];exact e.1,e.2⟩
 ·exact x.n.imp id λ⟨a,b,c,d,e,r,f⟩=>⟨a,b,c,d,e,r,by rw[x.other d];exact f⟩
 ·exact x.a.imp id λ⟨a,b,c,d,e,g,r,f⟩=>⟨a,b,c,d,e,g,r,by rw[x.other d];exact f.1,f.2⟩
theorem sW.aom{N:Int}(x:sW lo sb wb wz nb ny ab an ay fv fd j7 pZ oB W H c h br now)(hl:an<=100000)(r:lo<=h.length):∃h1 i,cu 1 (h++[⟨[I N],true⟩]) (sl h.length 0 1 1) (sl ab 0 an ay)=some (sl i 0 (an+1) 1,h1)∧fX lo h h1∧(∀b k,h[b]?=some k->b≠ab->h1[b]?=some k)∧(i≠0∧h.length<=i)∧(∃cs,h1[i]?=some ⟨cs,true⟩∧cs.length=an+1):=by
 have hn:cR 1 (h++[⟨[I N],true⟩]) (sl h.length 0 1 1)=some [I N]:=by simp[cR];rw[fB (k:=⟨[I N],true⟩) (by simp) (by simp)];simp
 have u:0<h.length:=by have:=x.zX.2;omega
 rcases x.a with⟨p,j⟩|⟨a,b,c,d,e,j,cs,f,fl⟩
 ·subst p;subst j;refine⟨h++[⟨[I N],true⟩]++[⟨[I N],true⟩],h.length+1,?_,?_,?_,by omega,[I N],?_,by simp⟩
  ·simp only[cu,hn];rw[if_neg (by omega),if_neg (by simp),if_neg (by simp[maxSize]),if_pos trivial];simp
  ·exact fX.grow ⟨[⟨[I N],true⟩,⟨[I N],true⟩],by simp⟩ r
  ·intro b k g _;rw[cC,ai (bZ g)];exact g
  ·rw[aX (by simp)];simp
 ·have l:(h++[⟨[I N],true⟩])[ab]?=some ⟨cs,true⟩:=by rw[ai (bZ f)];exact f
  have s:=cI (n:=an*1) l (by omega);have m:=bZ f;refine⟨List.set (h++[(⟨[I N],true⟩:mm)]) ab (⟨[],false⟩:mm)++[⟨cs++[I N],true⟩],h.length+1,?_,?_,?_,by omega,cs++[I N],?_,by simp[fl]⟩
  ·simp only[cu,hn];rw[if_neg (by omega),if_neg (by simp),if_neg (by simp[maxSize];omega),if_neg c];simp only[l];rw[if_pos ⟨trivial,a⟩,s];simp
  ·refine⟨by simp;omega,λd t=>?_⟩;rw[ai (by simp;omega),ag (by omega),ai (by omega)]
  ·intro b' k g o;rw[ai (by simp;have:=bZ g;omega),ag (λq=>o q.symm),ai (bZ g)];exact g
  ·rw[aX (by simp)];simp
theorem sW.push{p:Int×Int}(x:sW lo sb wb wz nb ny ab an ay fv fd j7 pZ oB W H c h br now)(hl:now.length<=100)(A:lo<=h.length):∃h1 g,cu 2 (h++[⟨[I p.1,I p.2],true⟩]) (sl h.length 0 1 2) (sl nb 0 now.length ny)=some (sl g 0 (now.length+1) 2,h1)∧h1[sb]?=h[sb]?∧fX lo h h1∧sW lo sb wb wz g 2 ab an ay fv fd j7 pZ oB W H c (h1.set sb ⟨[I W,I H,sl wb 0 br.length wz,I c,sl g 0 (now.length+1) 2,fv,B fd,I j7,I pZ,I oB,sl ab 0 an ay],true⟩) br (now++[p])∧(∀b k,h[b]?=some k->b≠nb->h1[b]?=some k):=by
 have hn:cR 2 (h++[⟨[I p.1,I p.2],true⟩]) (sl h.length 0 1 2)=some [I p.1,I p.2]:=by simp[cR];rw[fB (k:=⟨[I p.1,I p.2],true⟩) (by simp) (by simp)];simp
 have L:0<h.length:=by have:=x.zX.2;omega
 have key:∃h1 g,cu 2 (h++[⟨[I p.1,I p.2],true⟩]) (sl h.length 0 1 2) (sl nb 0 now.length ny)=some (sl g 0 (now.length+1) 2,h1)∧fX lo h h1∧(∀b k,h[b]?=some k->b≠nb->h1[b]?=some k)∧h.length<=g∧h1[g]?=some ⟨wU (now++[p]),true⟩:=by
  rcases x.n with⟨y,r⟩|⟨a,b,c,d,e,rest,f⟩
  ·subst y;subst r;refine⟨h++[⟨[I p.1,I p.2],true⟩]++[⟨[I p.1,I p.2],true⟩],h.length+1,?_,?_,?_,by omega,?_⟩
   ·simp only[cu,hn];rw[if_neg (by omega),if_neg (by simp),if_neg (by simp[maxSize]),if_pos trivial];simp
   ·exact fX.grow ⟨[⟨[I p.1,I p.2],true⟩,⟨[I p.1,I p.2],true⟩],by simp⟩ A
   ·intro b k i _;rw[cC,ai (bZ i)];exact i
   ·rw[aX (by simp)];simp[wU]
  ·have t:(h++[⟨[I p.1,I p.2],true⟩])[nb]?=some ⟨wU now++rest,true⟩:=by rw[ai (bZ f)];exact f
   have G:=bZ f;have C:aZ (h++[⟨[I p.1,I p.2],true⟩]) nb 0 (now.length*2)=some (wU now):=by rw[fB t (by simp[oe])];simp only[kq];rw[jE (by rw[oe];omega),aY (by rw[oe];omega)]
   refine⟨List.set (h++[(⟨[I p.1,I p.2],true⟩:mm)]) nb (⟨[],false⟩:mm)++[⟨wU now++[I p.1,I p.2],true⟩],h.length+1,?_,?_,?_,by omega,?_⟩
   ·simp only[cu,hn];rw[if_neg (by omega),if_neg (by simp),if_neg (by simp[maxSize];omega),if_neg c];simp only[t];rw[if_pos ⟨trivial,a⟩,C];simp
   ·refine⟨by simp;omega,λd K=>?_⟩;rw[ai (by simp;omega),ag (by omega),ai (by omega)]
   ·intro b' k i v;rw[ai (by simp;have:=bZ i;omega),ag (λq=>v q.symm),ai (bZ i)];exact i
   ·rw[aX (by simp),My];simp
 obtain⟨h1,g,D,E,l,M,F⟩:=key;have J:=bZ x.box;have s:sb≠nb:=by
  rcases x.n with⟨_,e⟩|e
  ·have:=x.zX;omega
  ·exact λq=>e.2.2.2.1 q.symm
 have u:=l sb _ x.box s;have j:g≠sb:=by omega
 have o:∀(cs:List Value) (b:Nat),b≠sb->(h1.set sb ⟨cs,true⟩)[b]?=h1[b]?:=λcs b i=>ag (λe=>i e.symm);refine⟨h1,g,D,by rw[u,x.box],E,⟨?_,x.z,?_,?_,?_,x.zX,x.f⟩,l⟩
 ·rw[jy u];simp
 ·by_cases m:br=[]
  ·exact .inl m
  ·obtain⟨w1,w2,w3⟩:=x.w.resolve_left m;have wn:wb≠nb:=by
    rcases x.n with⟨_,e⟩|e
    ·have:=x.zX;omega
    ·exact λq=>e.2.2.2.2.1.resolve_left m q.symm
   exact .inr ⟨by rw[o _ _ w3];exact l wb _ w1 wn,w2,w3⟩
 ·exact .inr ⟨rfl,by omega,by omega,j,by
   rcases x.w with e|⟨w1,_,_⟩
   ·exact .inl e
   ·exact .inr (by have:=bZ w1;omega),[],by rw[o _ _ j,F];simp⟩
 ·rcases x.a with e|⟨a,b,c,d,e,r,cs,f,fl⟩
  ·exact .inl e
  ·exact .inr ⟨a,b,c,d,e,by have:=bZ f;omega,cs,by rw[o _ _ d];exact l ab _ f r,fl⟩
end
def an6(h:a9)(sb wb:Nat)(br:List Int)(fv:Value)(fst:fE):Prop:=∃fb,fv=sl fb 0 fst.length 2∧(fst=[]∨(h[fb]?=some ⟨wU fst,true⟩∧fb≠sb∧(br=[]∨fb≠wb)))
def sV(lo sb wb wz:Nat)(W H c:Int)(h:a9)(br:List Int)(now:fE)(fd:Bool)(fst:fE)(a:Nat):Prop:=∃nb ny ab an ay fv j7 pZ oB,sW lo sb wb wz nb ny ab an ay fv fd j7 pZ oB W H c h br now∧an<=a∧(fd=true->an6 h sb wb br fv fst)
section
variable {lo sb wb wz nb ny ab an ay : Nat} {fv : Value} {fd : Bool} {j7 pZ oB W H c : Int} {h : a9} {br : List Int} {now : fE}
theorem sW.amR(x:sW lo sb wb wz nb ny ab an ay fv fd j7 pZ oB W H c h br now)(hl:now.length<=100)(hp:0<h.length):∃fb h1,cu 2 h (sl nb 0 now.length ny) (sl 0 0 0 2)=some (sl fb 0 now.length 2,h1)∧ae h h1∧(now=[]∨(h1[fb]?=some ⟨wU now,true⟩∧h.length<=fb)):=by
 rcases x.n with⟨k,m⟩|⟨a,b,c,d,e,rest,f⟩
 ·subst k;exact⟨0,h,by simp[cu,cR],ae.refl _,.inl rfl⟩
 ·by_cases g:now=[]
  ·subst g;exact⟨0,h,by simp[cu,cR],ae.refl _,.inl rfl⟩
  ·have i:now.length≠0:=λq=>g (aB.1 q);have l:aZ h nb 0 (now.length*2)=some (wU now):=by rw[fB f (by simp[oe])];simp only[kq];rw[jE (by rw[oe];omega),aY (by rw[oe];omega)]
   have hn:cR 2 h (sl nb 0 now.length ny)=some (wU now):=by simp[cR,i,l]
   have j:wU now≠[]:=by intro q;have:=congrArg List.length q;rw[oe]at this;simp at this;omega
   refine⟨h.length,h++[⟨wU now,true⟩],?_,⟨_,rfl⟩,.inr ⟨by simp,by omega⟩⟩;simp only[cu,hn];rw[if_neg (by omega),if_neg j,if_neg (by rw[oe];simp[maxSize];omega),if_pos trivial];rw[oe,gM _ (by omega)]
end
theorem c9(lo sb wb wz:Nat)(W H c:Int)(h:a9)(hp:0<h.length)(br:List Int)(now MB:fE)(al:Nat)(hS:sV lo sb wb wz W H c h br now false MB al)(ok:fg (W,H,br))(hal:al<=99999)(mh:now.length<=100)(fh:lo<=h.length):aN aE 9 [pt sb 0] h λr h'=>r=.tuple #[]∧fX lo h h'∧sV lo sb wb wz W H c h' br now (decide ((bC (W,H,br):Int)=c)) now (al+1):=by
 obtain⟨nb,ny,ab,an,ay,fv,j7,pZ,oB,x,IK,_⟩:=hS;have Y:=HF h hp (pt sb 0) (W,H,br) (x.pt ok) ok;obtain⟨N,eN⟩:∃N:Int,N=(bC (W,H,br):Int):=⟨_,rfl⟩;rw[<-eN]at Y ⊢;refine ag8 λK l=>?_;refine aO Y ?_;rintro _ h1⟨g1,rfl⟩
 try simp(disch:=omega)
 refine l ?_;have g:=x.grow g1;have s1:fX lo h h1:=fX.grow g1 fh;have aje:lo<=h1.length:=by have:=g1.le;omega
 have cl:=i9 (i:=10) g.box (v:=sl ab 0 an ay) (by simp);obtain⟨T,j,A2,s2,f2,⟨ab1,ab2⟩,cs2,k2,lc2⟩:=g.aom (N:=N) (by omega) aje;have J:sb≠ab:=by
  rcases g.a with⟨_,e⟩|e
  ·have:=g.zX;omega
  ·exact λq=>e.2.2.2.1 q.symm
 have D:nb=0∨nb≠ab:=by
  rcases g.a with⟨_,e⟩|e
  ·by_cases q:nb=0
   ·exact .inl q
   ·exact .inr (by omega)
  ·exact .inr (λq=>e.2.2.2.2.2.1 q.symm)
 have YZ:=bZ g.box;have t:=f2 sb _ g.box J;have KC:storeAt T sb 10 [sl j 0 (an+1) 1]=some (T.set sb ⟨[I W,I H,sl wb 0 br.length wz,I c,sl nb 0 now.length ny,fv,B false,I j7,I pZ,I oB,sl j 0 (an+1) 1],true⟩):=yE t (by simp);obtain⟨m,C⟩:=aC (T.set sb ⟨[I W,I H,sl wb 0 br.length wz,I c,sl nb 0 now.length ny,fv,B false,I j7,I pZ,I oB,sl j 0 (an+1) 1],true⟩);have R:∀b,b≠sb->m[b]?=T[b]?:=λb hb=>by rw[C];exact ag (λe=>hb e.symm)
 have u:sW lo sb wb wz nb ny j (an+1) 1 fv false j7 pZ oB W H c m br now:=by
  refine⟨by rw[C];exact jy t,g.z,?_,?_,?_,g.zX,g.f⟩
  ·by_cases Z:br=[]
   ·exact .inl Z
   ·obtain⟨w1,w2,w3⟩:=g.w.resolve_left Z;have wa:wb≠ab:=by
     rcases g.a with⟨_,e⟩|e
     ·have:=g.zX;omega
     ·exact λq=>e.2.2.2.2.1.resolve_left Z q.symm
    exact .inr ⟨by rw[R _ w3];exact f2 wb _ w1 wa,w2,w3⟩
  ·rcases g.n with e|⟨a,b,c,d,e,rest,f⟩
   ·exact .inl e
   ·exact .inr ⟨a,b,c,d,e,rest,by rw[R _ d];exact f2 nb _ f (D.resolve_left c)⟩
  ·refine .inr ⟨rfl,by omega,ab1,by omega,?_,?_,cs2,by rw[R _ (by omega)];exact k2,lc2⟩
   ·rcases g.w with e|⟨w1,_,_⟩
    ·exact .inl e
    ·exact .inr (by have:=bZ w1;omega)
   ·rcases g.n with⟨_,e⟩|⟨_,_,_,_,_,_,f⟩
    ·omega
    ·have:=bZ f;omega
 have X:fX lo h m:=(s1.trans s2).trans (by rw[C];exact fX.put g.zX.1);have Bm:0<m.length:=by have:=X.1;omega
 have arh:lo<=m.length:=by have:=X.1;omega
 refine bg λK l=>?_;simp(disch:=omega)[cl];rw[show aW 1 1 h1 [(0,.agg #[I 0]),(1,I N)]=some (sl h1.length 0 1 1,h1++[⟨[I N],true⟩])by simp[aW]];simp only[bI];rw[A2];simp(disch:=omega)[KC];rw[<-C];refine l ?_;clear C KC A2 k2 t R cl f2 s2 x g YZ Y J D;rw[aw];generalize hP:aP aE _ _=PP;have post:∀(σ:Nat->Value) (k:a9) (sD:Int),fX lo h k->sW lo sb wb wz nb ny j (an+1) 1 fv false j7 sD oB W H c k br now->σ 0=pt sb 0->σ 2=I N->PP 0 σ k:=by
  intro σ k sD G o E q2;subst hP;simp only[aq];have Rv:0<k.length:=by have:=G.1;omega
  have cm:=i9 (i:=9) o.box (v:=I oB) (by simp);obtain⟨M,eM⟩:=aC (if N<oB then oB else N);have SY:=Zy k oB N;rw[<-eM]at SY;have L:storeAt k sb 9 [I M]=some (k.set sb ⟨[I W,I H,sl wb 0 br.length wz,I c,sl nb 0 now.length ny,fv,B false,I j7,I sD,I M,sl j 0 (an+1) 1],true⟩):=yE o.box (by simp);have p:=o.Pr (UC:=false) (Mu:=j7) (sD:=sD) (MO:=M) o.f;obtain⟨U,e5⟩:=aC (k.set sb ⟨[I W,I H,sl wb 0 br.length wz,I c,sl nb 0 now.length ny,fv,B false,I j7,I sD,I M,sl j 0 (an+1) 1],true⟩);rw[<-e5]at L p;have s5:fX lo h U:=G.trans (by rw[e5];exact fX.put o.zX.1);refine bg λK l=>?_;simp(disch:=omega)[E,q2,cm];refine aO SY ?_;rintro _ _⟨rfl,rfl⟩;simp(disch:=omega)[L];refine l ?_;have cc:=i9 (i:=3) p.box (v:=I c) (by simp);rw[aw];generalize l:aP aE _ _=K;by_cases F:N=c
  case neg=>
   simp(disch:=omega)[E,q2,cc,F];subst l;simp(disch:=omega)[F];refine⟨s5,nb,ny,j,an+1,1,fv,j7,sD,M,?_,by omega,by simp⟩
   try rw[decide_eq_false F]
   exact p
  simp(disch:=omega)[E,q2,cc,F];subst l;simp only[aq];have ccn:=i9 (i:=7) p.box (v:=I j7) (by simp);have O:storeAt U sb 7 [I (IntKind.i64.wrap (j7+1))]=some (U.set sb ⟨[I W,I H,sl wb 0 br.length wz,I c,sl nb 0 now.length ny,fv,B false,I (IntKind.i64.wrap (j7+1)),I sD,I M,sl j 0 (an+1) 1],true⟩):=yE p.box (by simp);have y:=p.Pr (UC:=false) (Mu:=IntKind.i64.wrap (j7+1)) (sD:=sD) (MO:=M) p.f;obtain⟨V,e6⟩:=aC (U.set sb ⟨[I W,I H,sl wb 0 br.length wz,I c,sl nb 0 now.length ny,fv,B false,I (IntKind.i64.wrap (j7+1)),I sD,I M,sl j 0 (an+1) 1],true⟩);rw[<-e6]at O y;have s6:fX lo h V:=s5.trans (by rw[e6];exact fX.put p.zX.1);refine bg λK l=>?_;simp(disch:=omega)[E,ccn,O];refine l ?_;have cfd:=i9 (i:=6) y.box (v:=B false) (by simp);have P:storeAt V sb 6 [B true]=some (V.set sb ⟨[I W,I H,sl wb 0 br.length wz,I c,sl nb 0 now.length ny,fv,B true,I (IntKind.i64.wrap (j7+1)),I sD,I M,sl j 0 (an+1) 1],true⟩):=yE y.box (by simp);have A:=y.Pr (UC:=true) (Mu:=IntKind.i64.wrap (j7+1)) (sD:=sD) (MO:=M) y.f;obtain⟨h7,e7⟩:=aC (V.set sb ⟨[I W,I H,sl wb 0 br.length wz,I c,sl nb 0 now.length ny,fv,B true,I (IntKind.i64.wrap (j7+1)),I sD,I M,sl j 0 (an+1) 1],true⟩);rw[<-e7]at P A;have s7:fX lo h h7:=s6.trans (by rw[e7];exact fX.put y.zX.1);have hp7:0<h7.length:=by have:=s7.1;omega
  have cnw:=i9 (i:=4) A.box (v:=sl nb 0 now.length ny) (by simp);obtain⟨fb,h8,A8,g8,F8⟩:=A.amR mh hp7;have x8:=A.grow g8;have Q:storeAt h8 sb 5 [sl fb 0 now.length 2]=some (h8.set sb ⟨[I W,I H,sl wb 0 br.length wz,I c,sl nb 0 now.length ny,sl fb 0 now.length 2,B true,I (IntKind.i64.wrap (j7+1)),I sD,I M,sl j 0 (an+1) 1],true⟩):=yE x8.box (by simp);have x9:=x8.Pr (UC:=true) (Mu:=IntKind.i64.wrap (j7+1)) (sD:=sD) (MO:=M) (fv':=sl fb 0 now.length 2) ⟨_,_,_,_,rfl⟩;obtain⟨h9,e9⟩:=aC (h8.set sb ⟨[I W,I H,sl wb 0 br.length wz,I c,sl nb 0 now.length ny,sl fb 0 now.length 2,B true,I (IntKind.i64.wrap (j7+1)),I sD,I M,sl j 0 (an+1) 1],true⟩);rw[<-e9]at Q x9;have aEz:lo<=h7.length:=by have:=s7.1;omega
  have s9:fX lo h h9:=(s7.trans (fX.grow g8 aEz)).trans (by rw[e9];exact fX.put x8.zX.1);have F9:an6 h9 sb wb br (sl fb 0 now.length 2) now:=by
   refine⟨fb,rfl,F8.imp id λ⟨a,b⟩=>?_⟩;have sb7:=bZ A.box;refine⟨by rw[e9,ag (by omega)];exact a,by omega,?_⟩;rcases A.w with e|⟨w1,_,_⟩
   ·exact .inl e
   ·exact .inr (by have:=bZ w1;omega)
  simp(disch:=omega)[E,cfd,P,cnw,A8,Q,F];refine⟨s9,nb,ny,j,an+1,1,sl fb 0 now.length 2,IntKind.i64.wrap (j7+1),sD,M,?_,by omega,λ_=>F9⟩
  try rw[decide_eq_true rfl]
  exact x9
 clear hP;have s:=i9 (i:=10) u.box (v:=sl j 0 (an+1) 1) (by simp);have cls:=i9 (i:=8) u.box (v:=I pZ) (by simp);have Hl:storeAt m sb 8 [I N]=some (m.set sb ⟨[I W,I H,sl wb 0 br.length wz,I c,sl nb 0 now.length ny,fv,B false,I j7,I N,I oB,sl j 0 (an+1) 1],true⟩):=yE u.box (by simp);have o:=u.Pr (UC:=false) (Mu:=j7) (sD:=N) (MO:=oB) u.f;obtain⟨k,e4⟩:=aC (m.set sb ⟨[I W,I H,sl wb 0 br.length wz,I c,sl nb 0 now.length ny,fv,B false,I j7,I N,I oB,sl j 0 (an+1) 1],true⟩);rw[<-e4]at Hl o;have G:fX lo h k:=X.trans (by rw[e4];exact fX.put u.zX.1);by_cases a0:an=0
 ·have S:((an:Nat):Int)+1=1:=by omega
  simp(disch:=omega)[s,a0,S,Hl];exact post _ k N G o (by simp) (by simp)
 ·have S:¬((an:Nat):Int)+1=1:=by omega
  by_cases nl:N<pZ
  ·simp(disch:=omega)[s,a0,S,cls,nl,Hl];exact post _ k N G o (by simp) (by simp)
  ·simp(disch:=omega)[s,a0,S,cls,nl];exact post _ m pZ X u (by simp) (by simp)
end Am

/- Contracts of functions. -/
import Derived.Test.YtpgioncclmancaaGreatPK2
set_option linter.unusedVariables false
set_option linter.unusedSimpArgs false
set_option maxHeartbeats 4000000
set_option maxRecDepth 40000
namespace Am
open Go
variable{h h':a9}{K:Value->a9->Prop}{b lo j y z tu iY m1 m2:Nat}{W H c x:Int}{br X:List Int}{cs ds new:List Value}{sp sf:Value}
theorem lN{v:Value}{l:List (List UInt8)}{x:List UInt8}(hp:0<h.length)(hl:l.length<=1048576)(d:ae h h')(f:bP h h' v 1 (texts l))
  (c:∀b a,ae h a->bP h a b 1 (texts (l++[x]))->K b a):
  gE (aW 1 1 h' [(0,.agg #[S []]),(1,S x)]) λy a=>gE (cu 1 a y v) K:=by
 have e:aW 1 1 h' [(0,.agg #[S []]),(1,S x)]=some (sl h'.length 0 1 1,h'++[⟨[S x],true⟩]):=by simp[aW]
 rw[e];simp only[bI];refine pH hp (d.push _) (f.grow ⟨_,rfl⟩) (new:=[S x]) ?_ (by omega) (by simp) (by simp) (by simp[texts,maxSize];omega) ?_
 ·simp[cR];rw[fB (k:=⟨[S x],true⟩) (by simp) (by simp)];simp
 ·intro b a g1 b1 _;exact c b a g1 (by rw[KI];exact b1)
theorem OW{a:Int}(b:oD a=true):gS 0 h (S [43,124,45]) (some (I a)) (some (I (a+1))) none=some (S [mW a],h):=by
 have c:a=0∨a=1∨a=2:=by unfold oD gZ at b;simp at b;omega
 rcases c with e|e|e<;>subst e<;>simp[gS,bound,mW,ByteArray.size]
def kC(n:Nat)(s:dF):Bool:=gZ s.1 0 ((n:Int)-1)&&(oD s.2.1&&(oD s.2.2&&!decide (s.2.1=s.2.2)))
theorem nD{n:Nat}{s:dF}:kC n s=true↔(0<=s.1∧s.1<n)∧(0<=s.2.1∧s.2.1<=2)∧(0<=s.2.2∧s.2.2<=2)∧s.2.1≠s.2.2:=by simp only[kC,oD,aH,fM,fp,decide_eq_false_iff_not];omega
def kF:List dF->List Int->Option (List Int)
 |[],br=>some br
 |s::l,br=>if kC br.length s&&decide (fi br s.1.toNat=s.2.2)then kF l (br.set s.1.toNat s.2.1)else none
def ua:List dF->List Int->Option (List Int)
 |[],br=>some br
 |s::l,br=>if kC br.length s&&decide (fi br s.1.toNat=s.2.1)then ua l (br.set s.1.toNat s.2.2)else none
def gK(X:de):Bool:=iv X.1&&(decide (X.2.1.length+X.2.2.length<=50)&&((kF X.2.1.reverse X.1.2.2).isSome&&(ua X.2.2 X.1.2.2).isSome))
theorem ahQ(a:Int)(n:Nat)(hn:n<=maxLen)(h:a9):aN aE 163 [I a,I n] h λv h'=>v=B (gZ a 0 ((n:Int)-1))∧h'=h:=by rw[cH]at hn;refine afq ?_;simp(disch:=omega)[wrap64];refine aQ (B8 a 0 ((n:Int)-1) h) ?_;rintro v h'⟨rfl,rfl⟩;simp
theorem aoF(h:a9)(W H:Int)(b o n z:Nat)(s:dF)(hn:n<=maxLen):aN aE 199 [.agg #[I W,I H,sl b o n z],.agg #[I s.1,I s.2.1,I s.2.2]] h λr h'=>r=B (kC n s)∧h'=h:=by
 refine akV ?_;refine aQ (ahQ s.1 n hn h) ?_;rintro v h'⟨rfl,rfl⟩;cases h1:gZ s.1 0 ((n:Int)-1)
 ·simp[kC,h1]
 simp(disch:=omega);refine aQ (Zv s.2.1 h') ?_;rintro v h'⟨rfl,rfl⟩;cases a:oD s.2.1
 ·simp[kC,h1,a]
 simp(disch:=omega);refine aQ (Zv s.2.2 h') ?_;rintro v h'⟨rfl,rfl⟩;cases c:oD s.2.2
 ·simp[kC,h1,a,c]
 simp(disch:=omega)[kC,h1,a,c]
theorem ao5(h:a9)(pb d:Nat)(b o n z:Nat)(s:dF)(hn:n<=maxLen)(e:cell h pb (d+2)=some (sl b o n z)):aN aE 562 [pt pb d,.agg #[I s.1,I s.2.1,I s.2.2]] h λr h'=>r=B (kC n s)∧h'=h:=by
 have f:=hn;rw[cH]at f;refine afq ?_;simp(disch:=omega)[e,wrap64];refine aQ (xW s.1 0 ((n:Int)-1) h) ?_;rintro v h'⟨rfl,rfl⟩;cases h1:gZ s.1 0 ((n:Int)-1)
 ·simp[kC,h1]
 simp(disch:=omega);refine aQ (ahV s.2.1 h') ?_;rintro v h'⟨rfl,rfl⟩;cases a:oD s.2.1
 ·simp[kC,h1,a]
 simp(disch:=omega);refine aQ (ahV s.2.2 h') ?_;rintro v h'⟨rfl,rfl⟩;cases c:oD s.2.2
 ·simp[kC,h1,a,c]
 simp(disch:=omega)[kC,h1,a,c]
theorem ints_set(l:List Int)(k:Nat)(v:Int):(ints l).set k (I v)=ints (l.set k v):=by simp[ints,jS]
theorem rI{k:Nat}{l:List Int}{v:Int}(a:h[b]?=some ⟨ints l,true⟩)(c:k<l.length):storeAt h b k [I v]=some (h.set b ⟨ints (l.set k v),true⟩):=by rw[ld a (by simp[ints];exact c),ints_set]
theorem wh{k:Nat}{l:List Int}{r:Bool}(c:h[b]?=some ⟨ints l,r⟩)(a:k<l.length):cell h b k=some (I (fi l k)):=by rw[ng a];exact i9 c (by simp[ints,a])
theorem jH(ok:fg (W,H,br)):br.length<=112:=by have:=Cj (a:=W) (b:=H) ok.w ok.h;have:=ok.n;simp only at this;omega
theorem SU(a:h[b]?=some ⟨ds,true⟩)(hl:cs.length=ds.length):storeAt h b 0 cs=some (h.set b ⟨cs,true⟩):=by
 unfold storeAt
 simp_all
theorem FW{hi:Nat}{v:Value}(x:Vo h lo hi cZ v X):∃b z,v=sl b 0 X.length z∧(X.length=0∨h[b]?=some ⟨ints X,true⟩∧lo<=b∧b<hi):=by
 obtain⟨b,z,e,_,_,_,a⟩:=x.ints
 grind
def BP(h:a9)(v:Value)(X:de):Prop:=∃b o s sp sf,v=pt b o∧aZ h b o 5=some [I X.1.1,I X.1.2.1,s,sp,sf]∧Vr h cZ s X.1.2.2∧Vr h gC sp X.2.1∧Vr h gC sf X.2.2∧bK X.1.1∧bK X.1.2.1
theorem BP.grow{v:Value}{X:de}(x:BP h v X)(g:ae h h'):BP h' v X:=by obtain⟨b,o,s,sp,sf,e,h1,a,c,d,f⟩:=x;exact⟨b,o,s,sp,sf,e,g.aZ h1,a.grow g,c.grow g,d.grow g,f⟩
theorem BP.of{s:Value}{p f:List dF}{r:Bool}(d:h[b]?=some ⟨[I W,I H,s,sp,sf],r⟩)(h1:Vr h cZ s br)(a:Vr h gC sp p)(c:Vr h gC sf f)(w1:bK W)(w2:bK H):BP h (pt b 0) ((W,H,br),p,f):=
 ⟨b,0,s,sp,sf,rfl,cI d rfl,h1,a,c,w1,w2⟩
theorem BP.dE{o:Nat}{X:de}(x:BP h (pt b o) X):gY h (pt b o) X.1:=by obtain⟨b,o,s,sp,sf,e,h1,d,j,k,w1,w2⟩:=x;injection e with e;injection e with e;injection e with a c;subst a;subst c;have k0:=(fQ (i:=0) h1 (by omega)).1;have f:=(fQ (i:=1) h1 (by omega)).1;have g:=(fQ (i:=2) h1 (by omega)).1;exact⟨_,_,s,rfl,by simpa using k0,by simpa using f,by simpa using g,d,w1,w2⟩
theorem PV(h:a9)(hp:0<h.length)(v0:Value)(K:de)(Y:Vr h ba v0 K)(ig:hI ba K<=1048576):
  aN aE 138 [v0] h λr h'=>ae h h'∧r=B (gK K):=by
 obtain⟨⟨W,H,br⟩,p,f⟩:=K;rw[mz]at ig;obtain⟨s,sp,sf,rfl,w1,w2,r1,r2,r3⟩:=Y.og;have P:Vr h bU (.agg #[I W,I H,s]) (W,H,br):=Vr.jF w1 w2 r1;obtain⟨pb,po,pz,rfl,T,N⟩:=yz r2;obtain⟨fb,Q,R,rfl,U,sN⟩:=yz r3;rw[cH]at T U;refine akV ?_;refine aQ (B7 _ _ h P) ?_;rintro _ h1⟨rfl,rfl⟩;cases q:iv (W,H,br)
 ·simp[gK,q];exact ae.refl _
 have ok:=dK.1 q;have kx:=jH ok;simp(disch:=omega)[wrap64];refine aG (λYf=>?_) (λhle=>?_)
 ·have:¬p.length+f.length<=50:=by omega
  simp[gK,q,this];exact ae.refl _
 have hle:p.length+f.length<=50:=by omega
 have eJ:gK ((W,H,br),p,f)=((kF p.reverse br).isSome&&(ua f br).isSome):=by simp[gK,q,hle]
 rw[eJ];simp(disch:=omega);refine aQ (Mr h1 _ _ hp P (by simp only;omega)) ?_;rintro _ h2⟨g2,o2⟩;obtain⟨so,rfl,_,_,o2⟩:=o2.dE;obtain⟨c,J,rfl,d⟩:=FW o2;obtain⟨n,hn⟩:=aC br.length;rw[<-hn]at d ⊢;simp(disch:=omega)[wrap64];refine aU (λ(k:Nat) σ h'=>k<=p.length∧ae h1 h'∧σ 1=.agg #[I W,I H,s,sl pb po p.length pz,sl fb Q f.length R]∧σ 3=.agg #[I W,I H,sl c 0 n J]∧σ 4=I ((p.length:Int)-1-k)∧
  ∃cur:List Int,cur.length=n∧kF (p.reverse.drop k) cur=kF p.reverse br∧(n=0∨h'[c]?=some ⟨ints cur,true⟩∧h1.length<=c)) (λk=>p.length-k) 0 ?_ ?_
 ·refine⟨by omega,g2,by simp,by simp,by simp,br,hn.symm,by simp,d.imp id λe=>⟨e.1,e.2.1⟩⟩
 rintro k σ h'⟨hk,b,q1,g,A,cur,y,a,d⟩;simp(disch:=omega)[A];refine aG (λX=>?_) (λZ=>?_)
 ·have z:k<p.length:=by omega
  obtain⟨j,hj⟩:=aC (p.length-1-k);have S:j<p.length:=by omega
  have ej:(p.length:Int)-1-k=(j:Int):=by omega
  have hd:p.reverse.drop k=p[j]::p.reverse.drop (k+1):=by
   rw[bt (by simpa using z)]
   congr 1
   rw[List.getElem_reverse]
   congr 1
   omega
  rw[hd]at a;have w:=dZ b (N j S);rw[ej]at A;obtain⟨⟨t1,o,u⟩,O⟩:∃t,t=p[j]:=⟨_,rfl⟩;rw[<-O]at a w;simp only[kF,y]at a;simp(disch:=omega)[q1,g,A,S,w,zo];refine aQ (aoF h' W H c 0 n J (t1,o,u) (by rw[cH];omega)) ?_;rintro _ h'⟨rfl,rfl⟩;cases l:kC n (t1,o,u)
  ·simp only[l,iy,ax,if_false]at a;simp[<-a];exact b
  have E:=nD.1 l;simp only at E;have L:n≠0:=by omega
  obtain⟨i,x⟩:=d.resolve_left L;obtain⟨t,rfl⟩:=bc E.1.1;have G:t<cur.length:=by omega
  have F:t<n:=by omega
  have DK:=wh i G;simp only[l,iN,aM]at a;simp(disch:=omega)[q1,g,A,DK,F];refine aG (λhe=>?_) (λhe=>?_)
  ·simp only[he,decide_true,if_true]at a;have M:=rI (v:=o) i G;simp(disch:=omega)[q1,g,A,M,F,wrap64];refine⟨k+1,⟨by omega,b.put x _,by omega,cur.set t o,by simpa using y,a,.inr ⟨by simp[bZ i],x⟩⟩,by omega⟩
  ·simp only[he,decide_false,ax,if_false]at a;simp[<-a];exact b
 have V:k=p.length:=by omega
 rw[dQ (by simp;omega)]at a;simp only[kF]at a;rw[<-a];simp(disch:=omega)[q1,g];refine aQ (Mr h' _ _ (aL hp b) (P.grow b) (by simp only;omega)) ?_;rintro _ h3⟨g3,o3⟩;obtain⟨so,rfl,_,_,o3⟩:=o3.dE;obtain⟨c,J,rfl,d⟩:=FW o3;rw[<-hn]at d ⊢;simp(disch:=omega)[wrap64,q1,g];refine aU (λ(k:Nat) σ h'=>k<=f.length∧ae h1 h'∧σ 3=.agg #[I W,I H,sl c 0 n J]∧σ 64=sl fb Q f.length R∧σ 65=I f.length∧σ 66=I k∧
  ∃cur:List Int,cur.length=n∧ua (f.drop k) cur=ua f br∧(n=0∨h'[c]?=some ⟨ints cur,true⟩∧h1.length<=c)) (λk=>f.length-k) 0 ?_ ?_
 ·refine⟨by omega,b.trans g3,by simp,by simp,by simp,by simp,br,hn.symm,by simp,d.imp id λe=>⟨e.1,by have:=b.le;omega⟩⟩
 rintro k σ h'⟨hk,b,g,C,D,m,cur,y,a,d⟩;simp(disch:=omega)[D,m];refine aG (λX=>?_) (λZ=>?_)
 ·have z:k<f.length:=by omega
  rw[bt z]at a;have w:=dZ b (sN k z);obtain⟨⟨t1,o,u⟩,O⟩:∃t,t=f[k]:=⟨_,rfl⟩;rw[<-O]at a w;simp only[ua,y]at a;simp(disch:=omega)[g,C,m,z,w,zo];refine aQ (aoF h' W H c 0 n J (t1,o,u) (by rw[cH];omega)) ?_;rintro _ h'⟨rfl,rfl⟩;cases l:kC n (t1,o,u)
  ·simp only[l,iy,ax,if_false]at a;simp[<-a];exact b
  have E:=nD.1 l;simp only at E;have L:n≠0:=by omega
  obtain⟨i,x⟩:=d.resolve_left L;obtain⟨t,rfl⟩:=bc E.1.1;have G:t<cur.length:=by omega
  have F:t<n:=by omega
  have DK:=wh i G;simp only[l,iN,aM]at a;simp(disch:=omega)[g,DK,F];refine aG (λhe=>?_) (λhe=>?_)
  ·simp only[he,decide_true,if_true]at a;have M:=rI (v:=u) i G;simp(disch:=omega)[g,C,D,m,M,F,wrap64];refine⟨k+1,⟨by omega,b.put x _,by omega,cur.set t u,by simpa using y,a,.inr ⟨by simp[bZ i],x⟩⟩,by omega⟩
  ·simp only[he,decide_false,ax,if_false]at a;simp[<-a];exact b
 have V:k=f.length:=by omega
 rw[dQ (by omega)]at a;simp only[ua]at a;simp[<-a];exact b
theorem PY(h:a9)(hp:0<h.length)(v0:Value)(N:de)(dD:BP h v0 N)(ig:hI ba N<=1048576):
  aN aE 558 [v0] h λr h'=>ae h h'∧r=B (gK N):=by
 have tp:=dD;obtain⟨⟨W,H,br⟩,p,f⟩:=N;rw[mz]at ig;obtain⟨Q,R,s,sp,sf,rfl,hc,r1,r2,r3,w1,w2⟩:=dD;obtain⟨pb,po,pz,rfl,Bn,Z⟩:=yz r2;obtain⟨fb,fo,fz,rfl,LJ,sN⟩:=yz r3;rw[cH]at Bn LJ;have S:cell h Q (R+3)=_:=(fQ (i:=3) hc (by omega)).1;have k4:cell h Q (R+4)=_:=(fQ (i:=4) hc (by omega)).1;simp at S k4;have U:=tp.dE;simp only at U;refine akV ?_;refine aQ (An _ _ h U) ?_;rintro _ h1⟨rfl,rfl⟩;cases q:iv (W,H,br)
 ·simp[gK,q];exact ae.refl _
 have ok:=dK.1 q;have kx:=jH ok;simp(disch:=omega)[S,k4,wrap64];refine aG (λYf=>?_) (λhle=>?_)
 ·have:¬p.length+f.length<=50:=by omega
  simp[gK,q,this];exact ae.refl _
 have hle:p.length+f.length<=50:=by omega
 have eJ:gK ((W,H,br),p,f)=((kF p.reverse br).isSome&&(ua f br).isSome):=by simp[gK,q,hle]
 rw[eJ];simp(disch:=omega);refine aQ (Jh h1 _ _ hp U (by simp only;omega)) ?_;rintro _ c⟨g2,o2⟩;obtain⟨so,rfl,_,_,o2⟩:=o2.dE;obtain⟨b,g,rfl,u⟩:=FW o2;obtain⟨n,hn⟩:=aC br.length;rw[<-hn]at u ⊢;have vX:storeAt (c++[⟨[I 0,I 0,sl 0 0 0 0],true⟩]) c.length 0 [I W,I H,sl b 0 n g]=some (c++[⟨[I W,I H,sl b 0 n g],true⟩]):=rH rfl;simp(disch:=omega)[vX];obtain⟨Y,O⟩:=aC (c++[⟨[I W,I H,sl b 0 n g],true⟩]);rw[<-O];have g3:ae c Y:=⟨_,O⟩;have l3:Y.length=c.length+1:=by rw[O];simp
 have b3:Y[c.length]?=some ⟨[I W,I H,sl b 0 n g],true⟩:=by rw[O];simp
 have G3:=g2.trans g3;have V:=G3.cell S;have l2:=g2.le;simp(disch:=omega)[V,wrap64];refine aU (λ(k:Nat) σ h'=>k<=p.length∧ae h1 h'∧h'[c.length]?=some ⟨[I W,I H,sl b 0 n g],true⟩∧σ 0=pt Q R∧σ 3=pt c.length 0∧σ 4=I ((p.length:Int)-1-k)∧
  ∃cur:List Int,cur.length=n∧kF (p.reverse.drop k) cur=kF p.reverse br∧(n=0∨h'[b]?=some ⟨ints cur,true⟩∧h1.length<=b∧b<c.length)) (λk=>p.length-k) 0 ?_ ?_
 ·refine⟨by omega,G3,b3,by simp,by simp,by simp,br,hn.symm,by simp,u.imp id λe=>⟨g3.at e.1,e.2⟩⟩
 rintro k σ h'⟨hk,d,o,l,m,J,cur,F,a,u⟩;simp(disch:=omega)[J];refine aG (λbB=>?_) (λdG=>?_)
 ·have G:k<p.length:=by omega
  obtain⟨j,hj⟩:=aC (p.length-1-k);have j1:j<p.length:=by omega
  have ej:(p.length:Int)-1-k=(j:Int):=by omega
  have hd:p.reverse.drop k=p[j]::p.reverse.drop (k+1):=by
   rw[bt (by simpa using G)]
   congr 1
   rw[List.getElem_reverse]
   congr 1
   omega
  rw[hd]at a;have D:=dZ d (Z j j1);have V:=d.cell S;have w:cell h' c.length 2=some (sl b 0 n g):=by simp[cell,o]
  rw[ej]at J;obtain⟨⟨t1,z,A⟩,ht⟩:∃t,t=p[j]:=⟨_,rfl⟩;rw[<-ht]at a D;simp only[kF,F]at a;simp(disch:=omega)[l,m,J,j1,V,D,zo];refine aQ (ao5 h' c.length 0 b 0 n g (t1,z,A) (by rw[cH];omega) w) ?_;rintro _ h'⟨rfl,rfl⟩;cases y:kC n (t1,z,A)
  ·simp only[y,iy,ax,if_false]at a;simp[<-a];exact d
  have K:=nD.1 y;simp only at K;have X:n≠0:=by omega
  obtain⟨x,C⟩:=u.resolve_left X;obtain⟨t,rfl⟩:=bc K.1.1;have M:t<cur.length:=by omega
  have L:t<n:=by omega
  have DK:=wh x M;simp only[y,iN,aM]at a;simp(disch:=omega)[l,m,J,w,DK,L];refine aG (λhe=>?_) (λhe=>?_)
  ·simp only[he,decide_true,if_true]at a;have E:=rI (v:=z) x M;simp(disch:=omega)[l,m,J,w,E,L,wrap64];refine⟨k+1,⟨by omega,d.put C.1 _,by first|exact o|(rw[ag (by omega)];exact o),by omega,cur.set t z,by simpa using F,a,.inr ⟨by simp[bZ x],C⟩⟩,by omega⟩
  ·simp only[he,decide_false,ax,if_false]at a;simp[<-a];exact d
 have Ot:k=p.length:=by omega
 rw[dQ (by simp;omega)]at a;simp only[kF]at a;rw[<-a];simp(disch:=omega)[l,m];refine aQ (Jh h' _ _ (aL hp d) (U.grow d) (by simp only;omega)) ?_;rintro _ h4⟨g4,o4⟩;obtain⟨so,rfl,_,_,o4⟩:=o4.dE;obtain⟨b,g,rfl,u⟩:=FW o4;rw[<-hn]at u ⊢;have b4:=g4.at o;have E:=SU (cs:=[I W,I H,sl b 0 n g]) b4 rfl;simp(disch:=omega)[l,m,E];obtain⟨h5,P⟩:=aC (h4.set c.length ⟨[I W,I H,sl b 0 n g],true⟩);rw[<-P];have b5:h5[c.length]?=some ⟨[I W,I H,sl b 0 n g],true⟩:=by rw[P];simp[bZ b4]
 have G5:ae h1 h5:=by rw[P];exact(d.trans g4).put l2 _
 have l4:=bZ o;refine aU (λ(k:Nat) σ h'=>k<=f.length∧ae h1 h'∧h'[c.length]?=some ⟨[I W,I H,sl b 0 n g],true⟩∧σ 0=pt Q R∧σ 3=pt c.length 0∧σ 6=I k∧
  ∃cur:List Int,cur.length=n∧ua (f.drop k) cur=ua f br∧(n=0∨h'[b]?=some ⟨ints cur,true⟩∧h1.length<=b∧c.length≠b)) (λk=>f.length-k) 0 ?_ ?_
 ·refine⟨by omega,G5,b5,by simp[l],by simp[m],by simp,br,hn.symm,by simp,u.imp id λe=>⟨?_,by have:=d.le;omega,by omega⟩⟩;rw[P,ag (by omega)];exact e.1
 rintro k σ h'⟨hk,d,o,l,m,T,cur,F,a,u⟩;have c4:=d.cell k4;simp(disch:=omega)[l,T,c4];refine aG (λbB=>?_) (λdG=>?_)
 ·have G:k<f.length:=by omega
  rw[bt G]at a;have D:=dZ d (sN k G);have w:cell h' c.length 2=some (sl b 0 n g):=by simp[cell,o]
  obtain⟨⟨t1,z,A⟩,ht⟩:∃t,t=f[k]:=⟨_,rfl⟩;rw[<-ht]at a D;simp only[ua,F]at a;simp(disch:=omega)[l,m,T,G,c4,D,zo];refine aQ (ao5 h' c.length 0 b 0 n g (t1,z,A) (by rw[cH];omega) w) ?_;rintro _ h'⟨rfl,rfl⟩;cases y:kC n (t1,z,A)
  ·simp only[y,iy,ax,if_false]at a;simp[<-a];exact d
  have K:=nD.1 y;simp only at K;have X:n≠0:=by omega
  obtain⟨x,C⟩:=u.resolve_left X;obtain⟨t,rfl⟩:=bc K.1.1;have M:t<cur.length:=by omega
  have L:t<n:=by omega
  have DK:=wh x M;simp only[y,iN,aM]at a;simp(disch:=omega)[l,m,T,w,DK,L];refine aG (λhe=>?_) (λhe=>?_)
  ·simp only[he,decide_true,if_true]at a;have E:=rI (v:=A) x M;simp(disch:=omega)[l,m,T,w,E,L,wrap64];refine⟨k+1,⟨by omega,d.put C.1 _,by first|exact o|(rw[ag (λe=>C.2 e.symm)];exact o),by omega,cur.set t A,by simpa using F,a,.inr ⟨by simp[bZ x],C⟩⟩,by omega⟩
  ·simp only[he,decide_false,ax,if_false]at a;simp[<-a];exact d
 have Ot:k=f.length:=by omega
 rw[dQ (by omega)]at a;simp only[ua]at a;simp[<-a];exact d
def oC:de:=((0,0,[]),[],[])
theorem Yq:bK 0:=by unfold bK;omega
theorem Vo.j6{hi:Nat}:Vo h lo hi ba (.agg #[I 0,I 0,sl 0 0 0 0,sl 0 0 0 0,sl 0 0 0 0]) oC:=by refine Vo.qX (l1:=0) (u1:=0) (l2:=0) (u2:=0) (l3:=0) (u3:=0) Yq Yq Vo.La Vo.qC Vo.qC ?_ ?_ ?_ ?_ ?_ ?_<;>((first|unfold xz|unfold BO)<;>omega)
theorem yO:hI ba oC=0:=by unfold oC;rw[mz];rfl
def oX(X:bW):de×Int:=if iv X then((X,[],[]),0)else(oC,1)
theorem agb(X:bW)(a:hI bU X<=1048576):hI ba (oX X).1<=16777216:=by
 obtain⟨W,H,br⟩:=X;rw[sQ]at a;unfold oX;split
 ·rw[mz];simp;omega
 ·rw[yO];omega
theorem Vo.LU{hi:Nat}{s:Value}(h1:bK W)(c:bK H)(o:Vo h lo hi cZ s br):Vo h lo hi ba (.agg #[I W,I H,s,sl 0 0 0 0,sl 0 0 0 0]) ((W,H,br),[],[]):=by
 have a:lo<=hi∨hi<lo:=by omega
 rcases a with a|a
 ·refine Vo.qX (l1:=lo) (u1:=hi) (l2:=0) (u2:=0) (l3:=0) (u3:=0) h1 c o Vo.qC Vo.qC ?_ ?_ ?_ ?_ ?_ ?_<;>((first|unfold xz|unfold BO)<;>omega)
 ·have i:Vo h 0 0 cZ s br:=by obtain⟨cs,d,r,e,n,f⟩:=o;refine⟨cs,d,r,e,n,λb g=>?_⟩;have:=f b g;omega
  refine Vo.qX (l1:=0) (u1:=0) (l2:=0) (u2:=0) (l3:=0) (u3:=0) h1 c i Vo.qC Vo.qC ?_ ?_ ?_ ?_ ?_ ?_<;>((first|unfold xz|unfold BO)<;>omega)
theorem aBZ(h:a9)(hp:0<h.length)(v0:Value)(a:bW)(d:Vr h bU v0 a)(c:hI bU a<=1048576):
  aN aE 101 [v0] h λr h'=>ae h h'∧∃f,r=.tuple #[f,I (oX a).2]∧Vo h' h.length h'.length ba f (oX a).1∧hI ba (oX a).1<=16777216:=by
 have b:=agb a c;obtain⟨W,H,br⟩:=a;rw[sQ]at c;have g:=d;obtain⟨s,rfl,w1,w2,l⟩:=d.dE;refine akV ?_;refine aQ (B7 _ _ h g) ?_;rintro _ h1⟨rfl,rfl⟩;cases q:iv (W,H,br)
 ·have e:oX (W,H,br)=(oC,1):=by simp[oX,q]
  rw[e]at b ⊢;simp(disch:=omega)[cY,cJ,cO,bD];exact⟨ae.refl _,Vo.j6,b⟩
 have e:oX (W,H,br)=(((W,H,br),[],[]),0):=by simp[oX,q]
 rw[e]at b ⊢;simp(disch:=omega);refine aQ (Mr h1 _ _ hp g c) ?_;rintro _ k⟨g2,o2⟩;obtain⟨m,rfl,_,_,o2⟩:=o2.dE;obtain⟨j,n,i,_⟩:=o2.ints;subst i;simp(disch:=omega)[cY,cJ,cO,bD];exact⟨g2,Vo.LU w1 w2 o2,b⟩
theorem aCP(h:a9)(hp:0<h.length)(v0:Value)(a:bW)(k:Vr h bU v0 a)(f:hI bU a<=1048576):
  aN aE 394 [v0] h λr h'=>ae h h'∧∃i,r=.tuple #[i,I (oX a).2]∧Vo h' h.length h'.length ba i (oX a).1∧hI ba (oX a).1<=16777216:=by
 have c:=agb a f;obtain⟨W,H,br⟩:=a;rw[sQ]at f;obtain⟨s,rfl,w1,w2,o⟩:=k.dE;refine akV ?_;obtain⟨d,g⟩:=aC (h++[⟨[I W,I H,s],true⟩]);rw[<-g];have b:ae h d:=⟨_,g⟩;have n:=b.le;have m:d[h.length]?=some ⟨[I W,I H,s],true⟩:=by rw[g];simp
 have j:gY d (pt h.length 0) (W,H,br):=gY.at m (o.grow b) w1 w2;refine aQ (An _ _ d j) ?_;rintro _ h1⟨rfl,rfl⟩;cases q:iv (W,H,br)
 ·have e:oX (W,H,br)=(oC,1):=by simp[oX,q]
  rw[e]at c ⊢;simp(disch:=omega)[cY,cJ,cO,bD];exact⟨b,Vo.j6,c⟩
 have e:oX (W,H,br)=(((W,H,br),[],[]),0):=by simp[oX,q]
 rw[e]at c ⊢;simp(disch:=omega);refine aQ (Jh h1 _ _ (aL hp b) j f) ?_;rintro _ t⟨g2,o2⟩;obtain⟨u,rfl,_,_,o2⟩:=o2.dE;obtain⟨p,v,l,_⟩:=o2.ints;subst l;simp(disch:=omega)[cY,cJ,cO,bD];exact⟨b.trans g2,Vo.LU w1 w2 (o2.wide n (aa _)),c⟩
def ij(X:de):List Int:=(kF X.2.1.reverse X.1.2.2).getD []
theorem Lh:∀{l:List dF} {br c:List Int},kF l br=some c->c.length=br.length∧((∀x∈br,0<=x∧x<=2)->∀x∈c,0<=x∧x<=2)
 |[],br,c,h=>by simp only[kF,aI]at h;subst h;exact⟨rfl,λh=>h⟩
 |s::l,br,c,h=>by
  simp only[kF]at h;split at h
  ·rename_i a;simp only[aH]at a;obtain⟨h1,b⟩:=Lh h;refine⟨by simpa using h1,λd=>b λx hx=>?_⟩;rcases bJ hx with hx|rfl
   ·exact d x hx
   ·exact(nD.1 a.1).2.1
  ·cases h
theorem Sj{n:Nat}{s:dF}{l:List dF}{c:List Int}(hn:br.length=n)(h:kF (s::l) br=some c):(0<=s.1∧s.1<n)∧kF l (br.set s.1.toNat s.2.1)=some c:=by
 simp only[kF]at h;split at h
 ·rename_i a;simp only[aH]at a;have:=(nD.1 a.1).1;exact⟨by omega,h⟩
 ·cases h
theorem nh{p f:List dF}(h:gK ((W,H,br),p,f)=true):fg (W,H,br)∧p.length+f.length<=50∧(∃c,kF p.reverse br=some c)∧∃c,ua f br=some c:=by simp only[gK,aH,decide_eq_true_eq,jQ]at h;exact⟨dK.1 h.1,h.2.1,h.2.2.1,h.2.2.2⟩
theorem GI{c:List Int}(h:∀x∈c,0<=x∧x<=2):∀x∈c,bK x:=λx hx=>a (h x hx)
where a {x:Int} (h:0<=x∧x<=2):bK x:=by unfold bK;omega
theorem Wf{α:Type}{p:List α}{k:Nat}(a:k<p.length)(b:j=p.length-1-k):p.reverse.drop k=p[j]'(by omega)::p.reverse.drop (k+1):=by
 rw[bt (by simpa using a)]
 grind
theorem c22(h:a9)(hp:0<h.length)(v0:Value)(W H:Int)(br:List Int)(p f:List dF)(K:Vr h ba v0 ((W,H,br),p,f))(S:gK ((W,H,br),p,f)=true):
  aN aE 22 [v0] h λr h'=>ae h h'∧Vo h' h.length h'.length bU r (W,H,ij ((W,H,br),p,f)):=by
 obtain⟨ok,hle,⟨fin,i⟩,_⟩:=nh S;have kx:=jH ok;have L:ij ((W,H,br),p,f)=fin:=by simp[ij,i]
 rw[L];obtain⟨l,m⟩:=Lh i;obtain⟨s,sp,sf,rfl,w1,w2,Z,r2,r3⟩:=K.og;have rp:Vr h bU (.agg #[I W,I H,s]) (W,H,br):=Vr.jF w1 w2 Z;have G:=r2.cW;obtain⟨pb,V,Y,rfl,_,D,Q,F⟩:=G;rw[cH]at D;refine akV ?_;refine aQ (Mr h _ _ hp rp (by simp only;omega)) ?_;rintro _ O⟨g2,o2⟩;obtain⟨so,rfl,_,_,o2⟩:=o2.dE;obtain⟨c,u,rfl,R,_,_,g⟩:=o2.ints;obtain⟨n,hn⟩:=aC br.length;have E:u=1∨c=0∧n=0:=R.imp id λe=>⟨e.1,by rw[hn,e.2];rfl⟩;have U:n=0∨O[c]?=some ⟨ints br,true⟩∧h.length<=c:=g.imp (λe=>by rw[hn,e];rfl) λe=>⟨e.1,e.2.1⟩;rw[<-hn]at l ⊢;simp(disch:=omega)[wrap64];refine aU (λ(k:Nat) σ h'=>k<=p.length∧ae h h'∧σ 1=.agg #[I W,I H,s,sl pb V p.length Y,sf]∧σ 2=.agg #[I 0,I 0,sl 0 0 0 0]∧σ 3=.agg #[I W,I H,sl c 0 n u]∧σ 4=I ((p.length:Int)-1-k)∧
  ∃cur:List Int,cur.length=n∧kF (p.reverse.drop k) cur=some fin∧(n=0∨h'[c]?=some ⟨ints cur,true⟩∧h.length<=c)) (λk=>p.length-k) 0 ?_ ?_
 ·refine⟨by omega,g2,by simp,by simp,by simp,by simp,br,hn.symm,by simpa using i,U⟩
 rintro k σ h'⟨hk,o,q1,q2,C,q,cur,d,a,g⟩;simp(disch:=omega)[q];refine aG (λbB=>?_) (λdG=>?_)
 ·have T:k<p.length:=by omega
  obtain⟨j,P⟩:=aC (p.length-1-k);have B:j<p.length:=by omega
  have M:(p.length:Int)-1-k=(j:Int):=by omega
  rw[Wf T P]at a;obtain⟨⟨t1,t2⟩,a⟩:=Sj d a;have J:n≠0:=by omega
  obtain⟨y,x⟩:=g.resolve_left J;obtain⟨t,A⟩:=bc t1;obtain⟨w,cb,_⟩:=Ed (F.imp id (dZ o)) B;rw[A,aM]at a;rw[A]at t2 w;have zN:t<cur.length:=by omega
  have wF:t<n:=by omega
  rw[M]at q;have N:=rI (v:=p[j].2.1) y zN;simp(disch:=omega)[q1,q2,C,q,B,w,cb,N,wF,wrap64];exact⟨k+1,⟨by omega,o.put x _,by omega,cur.set t p[j].2.1,by simpa using d,a,.inr ⟨by simp[bZ y],x⟩⟩,by omega⟩
 ·have Ot:k=p.length:=by omega
  rw[dQ (by simp;omega)]at a;simp only[kF,aI]at a;subst a;simp(disch:=omega)[q1,q2,C,gV,bD];have:=Vo.fY (h:=h') (b:=c) (lo:=h.length) (hi:=h'.length) (z:=u) (X:=cur) (E.imp id λe=>⟨e.1,by rw[e.2]at d;exact aB.1 d⟩) (by rw[cH];omega) (GI (m ok.b)) (by
   rcases g with e|e
   ·left;rw[e]at d;exact aB.1 d
   ·exact .inr ⟨e.1,e.2,bZ e.1⟩)
  rw[d]at this;exact⟨o,Vo.jF w1 w2 this⟩
theorem ao4(h:a9)(hp:0<h.length)(v0:Value)(W H:Int)(br:List Int)(p f:List dF)(B:BP h v0 ((W,H,br),p,f))(iA:gK ((W,H,br),p,f)=true):
  aN aE 561 [v0] h λr h'=>ae h h'∧Vo h' h.length h'.length bU r (W,H,ij ((W,H,br),p,f)):=by
 obtain⟨ok,hle,⟨fin,m⟩,_⟩:=nh iA;have kx:=jH ok;have T:ij ((W,H,br),p,f)=fin:=by simp[ij,m]
 rw[T];obtain⟨q,u⟩:=Lh m;have tp:=B;obtain⟨J,K,s,sp,sf,rfl,E,r1,N,r3,w1,w2⟩:=B;have O:=tp.dE;simp only at O E r1 N r3 w1 w2;have w:cell h J (K+3)=_:=(fQ (i:=3) E (by omega)).1;simp at w;obtain⟨pb,po,pz,rfl,_,P,hpx,R⟩:=N.cW;rw[cH]at P;refine akV ?_;refine aQ (Jh h _ _ hp O (by simp only;omega)) ?_;rintro _ Y⟨g2,o2⟩;obtain⟨so,rfl,_,_,o2⟩:=o2.dE;obtain⟨c,y,rfl,hz,_,_,g⟩:=o2.ints;obtain⟨n,hn⟩:=aC br.length;have Q:y=1∨c=0∧n=0:=hz.imp id λe=>⟨e.1,by rw[hn,e.2];rfl⟩;have kI:n=0∨Y[c]?=some ⟨ints br,true⟩∧h.length<=c:=g.imp (λe=>by rw[hn,e];rfl) λe=>⟨e.1,e.2.1⟩;rw[<-hn]at q ⊢;have o:=g2.cell w;simp(disch:=omega)[o,wrap64];refine aU (λ(k:Nat) σ h'=>k<=p.length∧ae h h'∧σ 0=pt J K∧σ 2=.agg #[I 0,I 0,sl 0 0 0 0]∧σ 3=.agg #[I W,I H,sl c 0 n y]∧σ 4=I ((p.length:Int)-1-k)∧
  ∃cur:List Int,cur.length=n∧kF (p.reverse.drop k) cur=some fin∧(n=0∨h'[c]?=some ⟨ints cur,true⟩∧h.length<=c)) (λk=>p.length-k) 0 ?_ ?_
 ·refine⟨by omega,g2,by simp,by simp,by simp,by simp,br,hn.symm,by simpa using m,kI⟩
 rintro k σ h'⟨hk,l,L,q2,M,x,cur,d,a,g⟩;have o:=l.cell w;simp(disch:=omega)[x];refine aG (λbB=>?_) (λdG=>?_)
 ·have k1:k<p.length:=by omega
  obtain⟨j,Z⟩:=aC (p.length-1-k);have G:j<p.length:=by omega
  have U:(p.length:Int)-1-k=(j:Int):=by omega
  rw[Wf k1 Z]at a;obtain⟨⟨t1,t2⟩,a⟩:=Sj d a;have S:n≠0:=by omega
  obtain⟨D,C⟩:=g.resolve_left S;obtain⟨t,F⟩:=bc t1;obtain⟨A,cb,_⟩:=Ed (R.imp id (dZ l)) G;rw[F,aM]at a;rw[F]at t2 A;have zN:t<cur.length:=by omega
  have wF:t<n:=by omega
  rw[U]at x;have V:=rI (v:=p[j].2.1) D zN;simp(disch:=omega)[L,q2,M,x,G,o,A,cb,V,wF,wrap64];exact⟨k+1,⟨by omega,l.put C _,by omega,cur.set t p[j].2.1,by simpa using d,a,.inr ⟨by simp[bZ D],C⟩⟩,by omega⟩
 ·have Ot:k=p.length:=by omega
  rw[dQ (by simp;omega)]at a;simp only[kF,aI]at a;subst a;simp(disch:=omega)[L,q2,M,gV,bD];have:=Vo.fY (h:=h') (b:=c) (lo:=h.length) (hi:=h'.length) (z:=y) (X:=cur) (Q.imp id λe=>⟨e.1,by rw[e.2]at d;exact aB.1 d⟩) (by rw[cH];omega) (GI (u ok.b)) (by
   rcases g with e|e
   ·left;rw[e]at d;exact aB.1 d
   ·exact .inr ⟨e.1,e.2,bZ e.1⟩)
  rw[d]at this;exact⟨l,Vo.jF w1 w2 this⟩
theorem AL{p f:List dF}(h:gK ((W,H,br),p,f)=true):(ij ((W,H,br),p,f)).length=br.length∧∀x∈ij ((W,H,br),p,f),0<=x∧x<=2:=by
 obtain⟨ok,hle,⟨fin,a⟩,_⟩:=nh h;obtain⟨h1,c⟩:=Lh a;have e:ij ((W,H,br),p,f)=fin:=by simp[ij,a]
 rw[e];exact⟨h1,c ok.b⟩
def Bf(h:a9)(lo hi:Nat)(v:Value)(z:Nat)(cs:List Value):Prop:=(cs=[]∧∃y,v=sl 0 0 0 y)∨∃b n,v=sl b 0 n z∧n*z=cs.length∧lo<=b∧b<hi∧h[b]?=some ⟨cs,true⟩
theorem Bf.nil{hi:Nat}:Bf h lo hi (sl 0 0 0 y) z []:=.inl ⟨rfl,y,rfl⟩
theorem Bf.sl{hi:Nat}{v:Value}(x:Bf h lo hi v z cs):∃b n y,v=Am.sl b 0 n y:=by
 rcases x with⟨_,y,e⟩|⟨b,n,e,_⟩
 ·exact⟨0,0,y,e⟩
 ·exact⟨b,n,z,e⟩
theorem Bf.wide{hi:Nat}{v:Value}(x:Bf h lo hi v z cs)(h1:tu<=lo)(g:hi<=iY):Bf h tu iY v z cs:=by
 rcases x with x|⟨b,n,e,a,d,f,c⟩
 ·exact .inl x
 ·exact .inr ⟨b,n,e,a,by omega,by omega,c⟩
theorem Bf.grow{hi:Nat}{v:Value}(x:Bf h lo hi v z cs)(g:ae h h'):Bf h' lo hi v z cs:=by
 rcases x with x|⟨b,n,e,a,c,d,f⟩
 ·exact .inl x
 ·exact .inr ⟨b,n,e,a,c,d,g.at f⟩
theorem Bf.cW{hi:Nat}{v:Value}{X:List dF}(x:Bf h lo hi v 3 (Am.cW X))(hm:X.length<=maxLen)(hx:∀x∈X,sX x):Vo h lo hi gC v X:=by
 rcases x with⟨h1,y,rfl⟩|⟨b,n,rfl,a,c,d,e⟩
 ·have:=uj h1;subst this;exact Vo.rY (X:=[]) (.inr ⟨rfl,rfl⟩) (by simp) (by simp) (.inl rfl)
 ·rw[gD]at a;have:n=X.length:=by omega
  subst this;exact Vo.rY (.inl rfl) hm hx (.inr ⟨e,c,d⟩)
theorem Bf.ints{hi:Nat}{v:Value}(x:Bf h lo hi v 1 (Am.ints X))(hm:X.length<=maxLen)(hx:∀x∈X,bK x):Vo h lo hi cZ v X:=by
 rcases x with⟨h1,y,rfl⟩|⟨b,n,rfl,a,c,d,e⟩
 ·have:=JT h1;subst this;exact Vo.fY (X:=[]) (.inr ⟨rfl,rfl⟩) (by simp) (by simp) (.inl rfl)
 ·have:n=X.length:=by simpa [Am.ints]using a
  subst this;exact Vo.fY (.inl rfl) hm hx (.inr ⟨e,c,d⟩)
theorem I9{hi:Nat}{v x:Value}{k:Value->a9->Prop}(hp:0<lo)(o:Bf h lo hi v z cs)(hn:cR z h x=some new)(p:0<z)(f:new≠[])(hm:new.length/z*z=new.length)
  (j:cs.length+new.length<=maxSize) (g:∀i h',Mod lo hi h h'->Bf h' h.length h'.length i z (cs++new)->k i h'):gE (cu z h x v) k:=by
 rcases o with⟨rfl,y,rfl⟩|⟨b,n,rfl,a,q,r,d⟩
 ·have e:cu z h x (sl 0 0 0 y)=some (sl h.length 0 (new.length/z) z,h++[⟨new,true⟩]):=by simp only[cu,hn];rw[if_neg (by omega),if_neg f,if_neg (by simp at j;omega),if_pos trivial]
  rw[e];exact g _ _ (ae.mod ⟨_,rfl⟩) (.inr ⟨h.length,_,rfl,hm,aa _,by simp,by simp⟩)
 ·have m:n<=cs.length:=by rw[<-a];exact fL n p
  have e:cu z h x (sl b 0 n z)=some (sl h.length 0 (n+new.length/z) z,h.set b ⟨[],false⟩++[⟨cs++new,true⟩]):=by simp only[cu,hn];rw[if_neg (by omega),if_neg f,if_neg (by omega),if_neg (by omega)];simp only[d];rw[if_pos ⟨trivial,trivial⟩,cI d a]
  rw[e];have s:=bZ d;refine g _ _ ⟨by simp,λc l hn=>?_⟩ (.inr ⟨h.length,_,rfl,by rw[cX,hm,a];simp,aa _,by simp,by simp⟩);rw[ai (by simpa using l),ag (by omega)]
theorem Mod.push{hi:Nat}(k:mm):Mod lo hi h (h++[k]):=ae.mod ⟨_,rfl⟩
theorem Ep{hi:Nat}{v:Value}{l:List dF}{a b:Int}(hp:0<lo)(hl:l.length<=1048576)(i:Bf h lo hi v 3 (cW l))
  (g:∀f d,Mod lo hi h d->Bf d h.length d.length f 3 (cW (l++[(a,b,c)]))->K f d):
  gE (aW 3 1 h [(0,.agg #[I 0,I 0,I 0]),(3,.agg #[I a,I b,I c])]) λy d=>gE (cu 3 d y v) K:=by
 have e:aW 3 1 h [(0,.agg #[I 0,I 0,I 0]),(3,.agg #[I a,I b,I c])]=some (sl h.length 0 1 3,h++[⟨[I a,I b,I c],true⟩]):=by simp[aW]
 rw[e];simp only[bI];refine I9 hp (i.grow ⟨_,rfl⟩) (new:=[I a,I b,I c]) ?_ (by omega) (by simp) (by simp) (by rw[gD];simp[maxSize];omega) ?_
 ·simp[cR];rw[fB (k:=⟨[I a,I b,I c],true⟩) (by simp) (by simp)];simp
 ·intro f d m1 b1;refine g f d ((Mod.push _).trans m1) ?_;rw[rJ];exact b1.wide (by simp) (aa _)
def pR(X:de):de×Int:=if gK X then((X.1,dpre (ij X) X.1.2.2 X.1.2.2.length,[]),0)else(oC,1)
theorem ag6(X:de):hI ba (pR X).1<=16777216:=by
 obtain⟨⟨W,H,br⟩,p,f⟩:=X;unfold pR;split
 ·rename_i h;obtain⟨ok,_⟩:=nh h;have:=jH ok;have:=Ew (ij ((W,H,br),p,f)) br br.length;rw[mz];simp;omega
 ·rw[yO];omega
theorem Vo.three{hi:Nat}{p f:List dF}{s:Value}(h1:bK W)(a:bK H)(b:Vo h lo m1 cZ s br)(c:Vo h m1 m2 gC sp p)(d:Vo h m2 hi gC sf f)(l1:lo<=m1)(l2:m1<=m2)(l3:m2<=hi):
  Vo h lo hi ba (.agg #[I W,I H,s,sp,sf]) ((W,H,br),p,f):=by
 refine Vo.qX h1 a b c d ?_ ?_ ?_ ?_ ?_ ?_<;>((first|unfold xz|unfold BO)<;>omega)
theorem aB9(h:a9)(hp:0<h.length)(v0:Value)(c:de)(C:Vr h ba v0 c)(R:hI ba c<=1048576):
  aN aE 131 [v0] h λr h'=>ae h h'∧∃F,r=.tuple #[F,I (pR c).2]∧Vo h' h.length h'.length ba F (pR c).1∧hI ba (pR c).1<=16777216:=by
 have i:=ag6 c;obtain⟨⟨W,H,br⟩,p,f⟩:=c;have G:=C;obtain⟨s,sp,sf,rfl,w1,w2,S,r2,r3⟩:=C.og;have T:Vr h bU (.agg #[I W,I H,s]) (W,H,br):=Vr.jF w1 w2 S;refine akV ?_;refine aQ (PV h hp _ _ G R) ?_;rintro _ h1⟨g1,rfl⟩;cases q:gK ((W,H,br),p,f)
 ·have e:pR ((W,H,br),p,f)=(oC,1):=by simp[pR,q]
  rw[e]at i ⊢;simp(disch:=omega)[cY,cJ,cO,bD];exact⟨g1,Vo.j6,i⟩
 have e:pR ((W,H,br),p,f)=(((W,H,br),dpre (ij ((W,H,br),p,f)) br br.length,[]),0):=by simp[pR,q]
 rw[e]at i ⊢;obtain⟨A,J⟩:=AL q;obtain⟨ok,_⟩:=nh q;have kx:=jH ok;obtain⟨st,E⟩:=aC (ij ((W,H,br),p,f));rw[<-E]at A J i ⊢;simp(disch:=omega);refine aQ (Mr h1 _ _ (aL hp g1) (T.grow g1) (by simp only;omega)) ?_;rintro _ Q⟨g2,o2⟩;obtain⟨U,rfl,_,_,o2⟩:=o2.dE;obtain⟨t,K,N,_,_,L,d⟩:=o2.ints;subst N;have o:=g1.trans g2;simp(disch:=omega);refine aQ (c22 Q (aL hp o) _ W H br p f (G.grow o) q) ?_;rintro _ a⟨j,o3⟩;rw[<-E]at o3;obtain⟨U,rfl,_,_,o3⟩:=o3.dE;obtain⟨sb,V,O,_,_,RC,Z⟩:=o3.ints;subst O;have L1:=g1.le;have L2:=g2.le;have L3:=j.le;have X:=o2.grow j;simp(disch:=omega);refine aU (λ(k:Nat) σ h'=>k<=st.length∧Mod a.length h'.length a h'∧a.length<=h'.length∧σ 2=.agg #[I 0,I 0,sl 0 0 0 0,sl 0 0 0 0,sl 0 0 0 0]∧(∃w,σ 4=.agg #[I W,I H,sl t 0 br.length K,w,sl 0 0 0 0]∧Bf h' a.length h'.length w 3 (cW (dpre st br k)))∧σ 18=sl sb 0 st.length V∧σ 19=I st.length∧σ 20=I k) (λk=>st.length-k) 0 ?_ ?_
 ·exact⟨by omega,Mod.refl _ _ _,aa _,by simp,⟨sl 0 0 0 0,by simp,Bf.nil⟩,by simp,by simp,by simp⟩
 rintro k σ h'⟨hk,g,m,q2,⟨w,n,x⟩,tU,xe,zU⟩;simp(disch:=omega)[xe,zU];refine aG (λbB=>?_) (λdG=>?_)
 ·have u:k<st.length:=by omega
  have v:k<br.length:=by omega
  have cs:=wh (b:=sb) (h:=h') (l:=st) (k:=k) (r:=true) (by
   rcases Z with e|e
   ·rw[e]at u;simp at u
   ·rw[g.2 sb (by omega) (by omega)];exact e.1) u
  have cb:=wh (b:=t) (h:=h') (l:=br) (k:=k) (r:=true) (by
   rcases d with e|e
   ·rw[e]at v;simp at v
   ·rw[g.2 t (by omega) (by omega),j.at e.1]) v
  simp(disch:=omega)[n,tU,zU,u,v,cs,cb];refine aG (λhe=>?_) (λhe=>?_)
  ·simp(disch:=omega)[q2,n,tU,xe,zU,wrap64];have d:Bf h' a.length h'.length w 3 (cW (dpre st br (k+1))):=by rw[uw,if_pos he.symm];simpa using x
   exact⟨k+1,⟨by omega,g,m,by first|exact d|exact⟨_,rfl,d⟩,by omega⟩,by omega⟩
  ·simp(disch:=omega)[n];refine Ep (lo:=a.length) (hi:=h'.length) (aL hp (o.trans j)) (by have:=Ew st br k;omega) x λY D m1 b1=>?_;have lm:=m1.1;have d:Bf D a.length D.length Y 3 (cW (dpre st br (k+1))):=by rw[uw,if_neg (λe=>he e.symm)];exact b1.wide m (aa _)
   obtain⟨vb,vn,vy,rfl⟩:=b1.sl;simp(disch:=omega)[q2,n,tU,xe,zU,wrap64];exact⟨k+1,⟨by omega,(g.wide (aa _) lm).trans (m1.wide (aa _) lm),by omega,by first|exact d|exact⟨_,rfl,d⟩,by omega⟩,by omega⟩
 ·have M:k=st.length:=by omega
  subst M;have y:=x.cW (by have:=Ew st br st.length;rw[cH];omega) (XK (GI J) L (by omega));obtain⟨qb,qz,P,_⟩:=y.cW;subst P;rw[A]at y;have z:Vo h' h.length a.length cZ (sl t 0 br.length K) br:=(X.mod g (.inl (by omega))).wide (by omega) (by omega);have B:=(o.trans j);simp(disch:=omega)[q2,n,cY,cJ,cO,bD];rw[A];exact⟨g.kR B (B.le),Vo.three w1 w2 z y (Vo.qC (lo:=h'.length) (hi:=h'.length)) (by omega) (by omega) (by omega),i⟩
theorem aC1(h:a9)(hp:0<h.length)(v0:Value)(c:de)(Z:Vr h ba v0 c)(ig:hI ba c<=1048576):
  aN aE 421 [v0] h λr h'=>ae h h'∧∃Q,r=.tuple #[Q,I (pR c).2]∧Vo h' h.length h'.length ba Q (pR c).1∧hI ba (pR c).1<=16777216:=by
 have g:=ag6 c;obtain⟨⟨W,H,br⟩,p,f⟩:=c;obtain⟨s,sp,sf,rfl,w1,w2,R,r2,r3⟩:=Z.og;refine akV ?_;obtain⟨x,G⟩:=aC (h++[⟨[I W,I H,s,sp,sf],true⟩]);rw[<-G];have i:ae h x:=⟨_,G⟩;have P:x[h.length]?=some ⟨[I W,I H,s,sp,sf],true⟩:=by rw[G];simp
 have O:=BP.of P (R.grow i) (r2.grow i) (r3.grow i) w1 w2;refine aQ (PY x (aL hp i) _ _ O ig) ?_;rintro _ h1⟨g1,rfl⟩;have g1:=g1;have v:=i.trans g1;cases q:gK ((W,H,br),p,f)
 ·have e:pR ((W,H,br),p,f)=(oC,1):=by simp[pR,q]
  rw[e]at g ⊢;simp(disch:=omega)[cY,cJ,cO,bD];exact⟨v,Vo.j6,g⟩
 have e:pR ((W,H,br),p,f)=(((W,H,br),dpre (ij ((W,H,br),p,f)) br br.length,[]),0):=by simp[pR,q]
 rw[e]at g ⊢;obtain⟨F,S⟩:=AL q;obtain⟨ok,_⟩:=nh q;have kx:=jH ok;obtain⟨st,N⟩:=aC (ij ((W,H,br),p,f));rw[<-N]at F S g ⊢;have K:=O.grow g1;obtain⟨b0,o0,z0,rfl,_,_,Y,U⟩:=R.ints;have k2:cell x h.length 2=some (sl b0 o0 br.length z0):=by simp[cell,P]
 simp(disch:=omega);refine aQ (Jh h1 _ _ (aL hp v) K.dE (by simp only;omega)) ?_;rintro _ h2⟨g2,o2⟩;obtain⟨so,rfl,_,_,o2⟩:=o2.dE;obtain⟨L,T,e2,_,_,Bo,d⟩:=o2.ints;subst e2;have J:=v.trans g2;simp(disch:=omega);refine aQ (ao4 h2 (aL hp J) _ W H br p f (K.grow g2) q) ?_;rintro _ a⟨w,o3⟩;rw[<-N]at o3;obtain⟨so,rfl,_,_,o3⟩:=o3.dE;obtain⟨sb,sz,e3,_,_,RC,wV⟩:=o3.ints;subst e3;have L1:=v.le;have L2:=g2.le;have L3:=w.le;have uH:=o2.grow w;have B:=J.trans w;have V:=((g1.trans g2).trans w).cell k2;simp(disch:=omega);refine aU (λ(k:Nat) σ h'=>k<=st.length∧Mod a.length h'.length a h'∧a.length<=h'.length∧σ 1=pt h.length 0∧σ 2=.agg #[I 0,I 0,sl 0 0 0 0,sl 0 0 0 0,sl 0 0 0 0]∧(∃z,σ 4=.agg #[I W,I H,sl L 0 br.length T,z,sl 0 0 0 0]∧Bf h' a.length h'.length z 3 (cW (dpre st br k)))∧σ 5=.agg #[I W,I H,sl sb 0 st.length sz]∧σ 6=I k) (λk=>st.length-k) 0 ?_ ?_
 ·exact⟨by omega,Mod.refl _ _ _,aa _,by simp,by simp,⟨sl 0 0 0 0,by simp,Bf.nil⟩,by simp,by simp⟩
 rintro k σ h'⟨hk,A,m,q1,q2,⟨z,o,C⟩,t,u⟩;simp(disch:=omega)[t,u];have j:=A.kR (ae.refl a) (aa _);refine aG (λbB=>?_) (λdG=>?_)
 ·have n:k<st.length:=by omega
  have y:k<br.length:=by omega
  have cs:=wh (b:=sb) (h:=h') (l:=st) (k:=k) (r:=true) (by
   rcases wV with e|e
   ·rw[e]at n;simp at n
   ·exact j.at e.1) n
  have cb:=eG (U.imp id (dZ (B.trans j))) y;rw[<-ng y]at cb;have c2:=j.cell V;simp(disch:=omega)[q1,o,t,u,n,y,c2,cs,cb];refine aG (λhe=>?_) (λhe=>?_)
  ·simp(disch:=omega)[q1,q2,o,t,u,wrap64];have d:Bf h' a.length h'.length z 3 (cW (dpre st br (k+1))):=by rw[uw,if_pos he];simpa using C
   exact⟨k+1,⟨by omega,A,m,by first|exact d|exact⟨_,rfl,d⟩,by omega⟩,by omega⟩
  ·simp(disch:=omega)[q1,o,t,u,n,y,c2,cs,cb];refine Ep (lo:=a.length) (hi:=h'.length) (aL hp B) (by have:=Ew st br k;omega) C λv' M m1 b1=>?_;have lm:=m1.1;have d:Bf M a.length M.length v' 3 (cW (dpre st br (k+1))):=by rw[uw,if_neg he];exact b1.wide m (aa _)
   obtain⟨vb,vn,vy,rfl⟩:=b1.sl;simp(disch:=omega)[q1,q2,o,t,u,wrap64];exact⟨k+1,⟨by omega,(A.wide (aa _) lm).trans (m1.wide (aa _) lm),by omega,by first|exact d|exact⟨_,rfl,d⟩,by omega⟩,by omega⟩
 ·have X:k=st.length:=by omega
  subst X;have D:=C.cW (by have:=Ew st br st.length;rw[cH];omega) (XK (GI S) Y (by omega));obtain⟨qb,qz,e4,_⟩:=D.cW;subst e4;rw[F]at D;have E:Vo h' h.length a.length cZ (sl L 0 br.length T) br:=(uH.grow j).wide (by omega) (by omega);simp(disch:=omega)[q2,o,cY,cJ,cO,bD];rw[F];exact⟨B.trans j,Vo.three w1 w2 E D (Vo.qC (lo:=h'.length) (hi:=h'.length)) (by omega) (by omega) (by omega),g⟩
theorem ai6{o:Option (Value×a9)}{k:Value->a9->Prop}(x:gE o λv h'=>ae h h'∧k v h'):CN h o k:=by
 cases o with
 |none=>exact x
 |some q=>exact x
theorem Kq{v:Value}{X:List dF}(hp:0<h.length)(g:Vr h gC v X)(j:X.length<=1048576)(f:∀c h',ae h h'->Bf h' h.length h'.length c 3 (cW X)->K c h'):
  gE (cu 3 h v (sl 0 0 0 y)) K:=by
 obtain⟨b,o,z,rfl,k,hm,hx,d⟩:=g.cW;by_cases a:X=[]
 ·subst a;have e:cu 3 h (sl b o (List.length ([]:List dF)) z) (sl 0 0 0 y)=some (sl 0 0 0 y,h):=by simp[cu,cR]
  rw[e];exact f _ _ (ae.refl _) Bf.nil
 ·have d:=d.resolve_left a;have i:X.length≠0:=by simpa using a
  refine I9 (lo:=h.length) (hi:=h.length) hp (Bf.nil (z:=3)) (new:=cW X) ?_ (by omega) (λe=>a (uj e)) (by rw[gD];omega) (by rw[gD];simp[maxSize];omega) ?_
  ·simp[cR,a,d]
  ·intro c h' m b1;refine f c h' (m.kR (ae.refl _) (aa _)) (by simpa using b1)
theorem aoI(h:a9)(v:Value)(X:List dF)(hp:0<h.length)(a:Vr h gC v X)(e:X.length<=1048576):aN aE 307 [v] h λr h'=>ae h h'∧Bf h' h.length h'.length r 3 (cW X):=by
 have d:=a;obtain⟨b,o,z,rfl,c,hm,hx,f⟩:=a.cW;refine akV ?_;refine Oa (λhn=>?_) (λhn=>?_)
 ·simp at hn;rcases c with c|⟨_,rfl⟩
  ·omega
  ·simp;exact⟨ae.refl _,Bf.nil⟩
 ·simp(disch:=omega);refine Kq hp d e λi h' g o=>?_;obtain⟨b,n,y,rfl⟩:=o.sl;exact⟨g,o⟩
def Tt(h h':a9)(r:Value)(X:de):Prop:=ae h h'∧∃s sp sf m1 m2,r=.agg #[I X.1.1,I X.1.2.1,s,sp,sf]∧h.length<=m1∧m1<=m2∧m2<=h'.length∧Vo h' h.length m1 cZ s X.1.2.2∧Bf h' m1 m2 sp 3 (cW X.2.1)∧Bf h' m2 h'.length sf 3 (cW X.2.2)
theorem TW(h:a9)(hp:0<h.length)(v0:Value)(a:de)(e:Vr h ba v0 a)(i:hI ba a<=1048576):
  aN aE 148 [v0] h λr h'=>Tt h h' r a:=by
 obtain⟨⟨W,H,br⟩,p,f⟩:=a;rw[mz]at i;obtain⟨s,sp,sf,rfl,w1,w2,j,k,l⟩:=e.og;have m:Vr h bU (.agg #[I W,I H,s]) (W,H,br):=Vr.jF w1 w2 j;refine akV ?_;refine aQ (Mr h _ _ hp m (by simp only;omega)) ?_;rintro _ h1⟨g1,o1⟩;obtain⟨q,rfl,_,_,o1⟩:=o1.dE;obtain⟨n,u,g,_⟩:=o1.ints;subst g;simp(disch:=omega);refine aQ (aoI h1 _ p (aL hp g1) (k.grow g1) (by omega)) ?_;rintro _ d⟨g2,o2⟩;have c:=g1.trans g2;obtain⟨b2,n2,y2,rfl⟩:=o2.sl;simp(disch:=omega);refine aQ (aoI d _ f (aL hp c) (l.grow c) (by omega)) ?_;rintro _ o⟨b,o3⟩;obtain⟨b3,n3,t,rfl⟩:=o3.sl;simp(disch:=omega)[gV,bD];exact⟨c.trans b,_,_,_,h1.length,d.length,rfl,g1.le,g2.le,b.le,(o1.grow g2).grow b,o2.grow b,o3⟩
theorem ZI(h:a9)(hp:0<h.length)(v0:Value)(b:de)(d:BP h v0 b)(w:hI ba b<=1048576):
  aN aE 559 [v0] h λr h'=>Tt h h' r b:=by
 have y:=d;obtain⟨⟨W,H,br⟩,p,f⟩:=b;rw[mz]at w;obtain⟨g,j,s,sp,sf,rfl,e,x,m,n,w1,w2⟩:=d;have k:cell h g (j+3)=_:=(fQ (i:=3) e (by omega)).1;have l:cell h g (j+4)=_:=(fQ (i:=4) e (by omega)).1;simp at k l;have o:=y.dE;simp only at o x m n;refine akV ?_;refine aQ (Jh h _ _ hp o (by simp only;omega)) ?_;rintro _ h1⟨g1,o1⟩;refine⟨λ_=>g1,?_⟩;obtain⟨C,rfl,_,_,o1⟩:=o1.dE;obtain⟨A,E,u,_⟩:=o1.ints;subst u;have q:=g1.cell k;simp(disch:=omega)[q];refine ai6 ?_;refine Kq (aL hp g1) (m.grow g1) (by omega) λz v g2 o2=>?_;have a:=g1.trans g2;obtain⟨b2,n2,y2,rfl⟩:=o2.sl;refine⟨g2,?_⟩;have t:=a.cell l;simp(disch:=omega)[t];refine Kq (aL hp a) (n.grow a) (by omega) λz B c o3=>?_;obtain⟨b3,n3,D,rfl⟩:=o3.sl;simp(disch:=omega)[gV,bD];exact⟨a.trans c,_,_,_,h1.length,v.length,rfl,g1.le,g2.le,c.le,(o1.grow g2).grow c,o2.grow c,o3⟩
def mM(X:de)(k kind:Int):Int:=if gZ k 0 ((X.1.2.2.length:Int)-1)&&oD kind then(if fi X.1.2.2 k.toNat=kind then 6 else if 50<=X.2.1.length then 5 else 0)else 2
def BQ(X:de)(k kind:Int):de:=((X.1.1,X.1.2.1,X.1.2.2.set k.toNat kind),X.2.1++[(k,fi X.1.2.2 k.toNat,kind)],[])
def lR(X:de)(k kind:Int):de×Int:=if gK X then(if mM X k kind=0 then(BQ X k kind,0)else(oC,mM X k kind))else(oC,1)
theorem ae1(X:de)(k kind:Int):hI ba (lR X k kind).1<=16777216:=by
 obtain⟨⟨W,H,br⟩,p,f⟩:=X;unfold lR;split
 ·rename_i h;obtain⟨ok,hle,_⟩:=nh h;have:=jH ok;split
  ·unfold BQ;rw[mz];simp;omega
  ·rw[yO];omega
 ·rw[yO];omega
theorem ajH:oD x=true↔0<=x∧x<=2:=by unfold oD;rw[fM]
structure Xw (X:de):Prop where
 w:bK X.1.1
 h:bK X.1.2.1
 b:∀x∈X.1.2.2,bK x
 p:∀x∈X.2.1,sX x
 f:∀x∈X.2.2,sX x
 lb:X.1.2.2.length<=1048576
 lp:X.2.1.length<=1048576
 lf:X.2.2.length<=1048576
theorem c82(h:a9)(hp:0<h.length)(v0:Value)(j:de)(D:Vr h ba v0 j)(E:hI ba j<=1048576)(k:Int)(wk:bK k)(kind:Int)(A:bK kind):
  aN aE 82 [v0,I k,I kind] h λr h'=>ae h h'∧∃F,r=.tuple #[F,I (lR j k kind).2]∧Vo h' h.length h'.length ba F (lR j k kind).1∧hI ba (lR j k kind).1<=16777216:=by
 have a:=ae1 j k kind;obtain⟨⟨W,H,br⟩,p,f⟩:=j;have G:=D;obtain⟨s,sp,sf,rfl,w1,w2,Z,r2,r3⟩:=D.og;obtain⟨b0,o0,z0,rfl,_,O,B,L⟩:=Z.ints;obtain⟨pb,po,pz,rfl,_,M,w,OA⟩:=r2.cW;rw[cH]at O M;refine ag8 λK c=>?_;refine c ?_;rw[aw];generalize c:aP aE _ _=K;simp(disch:=omega);refine aQ (PV h hp _ _ G E) ?_;rintro _ h1⟨g1,rfl⟩;cases q:gK ((W,H,br),p,f)
 ·have e:lR ((W,H,br),p,f) k kind=(oC,1):=by simp[lR,q]
  subst c;rw[e]at a ⊢;simp(disch:=omega)[cY,cJ,cO,bD];exact⟨g1,Vo.j6,a⟩
 obtain⟨ok,hle,_⟩:=nh q;have kx:=jH ok;simp(disch:=omega);refine aQ (ahQ k br.length (by rw[cH];omega) h1) ?_;rintro _ h1⟨rfl,rfl⟩;cases q1:gZ k 0 ((br.length:Int)-1)
 ·have e:lR ((W,H,br),p,f) k kind=(oC,2):=by simp[lR,mM,q,q1]
  subst c;rw[e]at a ⊢;simp(disch:=omega)[cY,cJ,cO,bD];exact⟨g1,Vo.j6,a⟩
 simp(disch:=omega);refine aQ (Zv kind h1) ?_;rintro _ h1⟨rfl,rfl⟩;cases q2:oD kind
 ·have e:lR ((W,H,br),p,f) k kind=(oC,2):=by simp[lR,mM,q,q1,q2]
  subst c;rw[e]at a ⊢;simp(disch:=omega)[cY,cJ,cO,bD];exact⟨g1,Vo.j6,a⟩
 rw[fM]at q1;have o:gZ k 0 ((br.length:Int)-1)=true:=fM.2 q1;obtain⟨i,rfl⟩:=bc q1.1;have g:i<br.length:=by omega
 have cb:=eG (L.imp id (dZ g1)) g;rw[<-ng g]at cb;simp(disch:=omega)[g,cb];refine aG (λd=>?_) (λd=>?_)
 ·have e:lR ((W,H,br),p,f) i kind=(oC,6):=by simp[lR,mM,q,o,q2,d]
  subst c;rw[e]at a ⊢;simp(disch:=omega)[cY,cJ,cO,bD];exact⟨g1,Vo.j6,a⟩
 simp(disch:=omega);refine aG (λu=>?_) (λu=>?_)
 ·have:50<=p.length:=by omega
  have e:lR ((W,H,br),p,f) i kind=(oC,5):=by simp[lR,mM,q,o,q2,d,this]
  subst c;rw[e]at a ⊢;simp(disch:=omega)[cY,cJ,cO,bD];exact⟨g1,Vo.j6,a⟩
 have u:¬50<=p.length:=by omega
 have e:lR ((W,H,br),p,f) i kind=(BQ ((W,H,br),p,f) i kind,0):=by simp[lR,mM,q,o,q2,d,u]
 simp(disch:=omega);subst c;rw[e]at a ⊢;simp only[aq];refine akW λK c=>?_;refine aQ (TW h1 (aL hp g1) _ _ (G.grow g1) E) ?_;rintro _ h2⟨g2,s,sp,sf,m1,m2,rfl,l1,l2,l3,o1,o2,o3⟩;simp only at o1 o2 o3;obtain⟨l,zz,rfl,T,hm,hx,n⟩:=o1.ints;have C:br≠[]:=by intro e;rw[e]at g;simp at g
 obtain⟨n,gu,fC⟩:=n.resolve_left C;have t:=wh n g;obtain⟨U,V,Y,rfl⟩:=o2.sl;obtain⟨Q,fn2,S,rfl⟩:=o3.sl;have L1:=g1.le;have L2:=g2.le;simp(disch:=omega);refine c ?_;refine bg λK c=>?_;simp(disch:=omega)[g,t];refine Ep (lo:=m1) (hi:=m2) (by omega) (by omega) o2 λv' d m b3=>?_;have J:d[l]?=some ⟨ints br,true⟩:=by rw[m.2 l (bZ n) (by omega)];exact n
 have R:=rI (v:=kind) J g;obtain⟨vb,vn,vy,P⟩:=b3.sl;have lm:=m.1;have ow:=b3.cW (by simp;rw[cH];omega) (by
  intro x hx;rcases cS.1 hx with hx|hx
  ·exact w x hx
  ·simp at hx;subst hx;exact⟨by unfold bK;omega,KV B _,A⟩)
 have N:ae h1 d:=m.kR g2 l1;subst P;simp(disch:=omega);refine c ?_;simp(disch:=omega)[g,R,cY,cJ,cO,bD];refine⟨(g1.trans N).put (by omega) _,?_,a⟩;have ob:=Vo.fY (h:=d.set l ⟨ints (br.set i kind),true⟩) (b:=l) (lo:=h.length) (hi:=m1) (z:=zz) (X:=br.set i kind) (.inl (T.resolve_right λe=>C e.2)) (by simpa using hm) (by
  intro x hx;rcases bJ hx with rL|rfl
  ·exact B x rL
  ·exact A) (.inr ⟨by simp[bZ J],by omega,by omega⟩)
 have y:=ow.mod (h':=d.set l ⟨ints (br.set i kind),true⟩) (tu:=l) (iY:=l+1) ((Mod.refl _ _ _).put (by omega) _) (.inr (by omega));rw[aS]at ob;simp only[BQ,aM];exact Vo.three w1 w2 ob (y.wide (by omega) (aa _)) (Vo.qC (lo:=d.length) (hi:=d.length)) (by omega) (by omega) (by simp)
end Am

/- Contracts of functions. -/
import Derived.Test.YtpgioncclmancaaGreatPK22
set_option linter.unusedVariables false
set_option linter.unusedSimpArgs false
set_option maxHeartbeats 4000000
set_option maxRecDepth 40000
namespace Am
open Go
variable{w l s:List UInt8}{c:Int}{h h0 h':a9}{lo sb ob:Nat}{K:Value->a9->Prop}
theorem tF{J:de}{n:List Int}{L:List (List UInt8)}(h1:¬Dl w)(a:lj J w n=(L,c)):nj J w n=(J,L,c):=by unfold nj;rw[if_neg h1,a]
theorem c20(sb ob:Nat)(h:a9)(hp:0<h.length)(J:de)(out:List (List UInt8))(w:List UInt8)(a b:Int)(x:tL sb ob h J out)(ok:gK J=true)(hl:out.length<=900000)(hw:w=zp∨w=nZ∨w=jC):aN aE 20 [pt sb 0,S w,I a,I b] h λr h'=>r=.tuple #[]∧yX sb ob h h' (qh J (nj J w [a,b])) (out++nF (nj J w [a,b])):=by
 obtain⟨W,H,b1,o1,n1,z1,b2,o2,n2,z2,b3,o3,n3,z3,A,U,q,V⟩:=x.view;obtain⟨X,p⟩:=aC J.1;rw[<-p]at q;obtain⟨C,d⟩:=aC (qh J (nj J w [a,b]));obtain⟨D,c⟩:=aC (nF (nj J w [a,b]));rw[<-d,<-c];refine afq ?_;refine bg λK z=>?_;simp(disch:=omega)[A];refine z ?_;by_cases m:w=[110,101,119]
 ·have f:nj J w [a,b]=Aa J (Ia a b):=by
   rw[show w=zp from m];unfold nj;rw[if_pos (.inl rfl)];have:rR J zp [a,b]=Ia a b:=by simp[rR,re,rQ,oV,zr,zp]
   rw[this]
  rw[f,NM]at d;rw[f,NN]at c;have nb:Ia a b=Mq (yq a b).1 (yq a b).2:=rfl;rw[nb]at d c;have v:=Yz a b;have k:=aCQ h hp a b;obtain⟨s,l⟩:=aC (yq a b);rw[<-l]at d c v k;simp(disch:=omega)[m];refine aO k ?_;rintro _ h1⟨g1,L,rfl,o⟩;have ov:=o.vr;obtain⟨E,B,F,Q,R,T,rfl⟩:=o.vr.px;simp(disch:=omega);refine aO (c11 sb ob h1 (aL hp g1) J out _ s.1 s.2 (x.grow g1) hl ov v) ?_;rintro _ g⟨rfl,st⟩
  try simp(disch:=omega)
  rw[d,c];exact st.after g1
 by_cases n:w=[108,105,110,107]
 ·have f:nj J w [a,b]=(J,[bE (tK J.1 a b).1],(tK J.1 a b).2):=by rw[show w=nZ from n];exact tF (by decide) (by simp[lj,iR,lF,jc,jg,jC,jB,oZ,lG,nZ])
  rw[f,se]at d;rw[f]at c;rw[<-p]at c;have i64:=TP X a b;have j:=aCN h hp _ X a b q;obtain⟨N,l⟩:=aC (tK X a b);rw[<-l]at j c i64;simp(disch:=omega)[n];refine aO j ?_;rintro _ h1⟨g1,rfl⟩;simp(disch:=omega);refine aO (pJ _ i64 h1 (aL hp g1)) ?_;rintro _ g⟨rfl,g2⟩;have G:=g1.trans g2
  try simp(disch:=omega)
  refine aO (T3 sb ob g (aL hp G) J out _ N.2 (x.grow G) hl) ?_;rintro _ y⟨rfl,st⟩
  try simp(disch:=omega)
  rw[d,c];exact st.after G
 have t:w=[115,101,97,114,99,104]:=by
  rcases hw with e|e|e
  ·exact absurd e m
  ·exact absurd e n
  ·exact e
 have f:nj J w [a,b]=(J,[xN (Jn (ye J.1 a b).1)],(ye J.1 a b).2):=by rw[show w=jC from t];exact tF (by decide) (by simp[lj,iR,lF,jc,jg,jC,jB,oZ,lG,nZ])
 rw[f,se]at d;rw[f]at c;rw[<-p]at c;have u:=Zp X a b;have i:=aCL h hp _ X a b q;obtain⟨N,l⟩:=aC (ye X a b);rw[<-l]at i c u;simp(disch:=omega)[t];refine aO i ?_;rintro _ h1⟨g1,M,ro,O,P,rfl,r⟩;simp(disch:=omega);refine aO (aDo h1 (aL hp g1) _ N.1 r u) ?_;rintro _ g⟨g2,rfl⟩;have G:=g1.trans g2
 try simp(disch:=omega)
 refine aO (ao7 _ g) ?_;rintro _ g⟨rfl,rfl⟩
 try simp(disch:=omega)
 refine aO (T3 sb ob g (aL hp G) J out _ N.2 (x.grow G) hl) ?_;rintro _ y⟨rfl,st⟩
 try simp(disch:=omega)
 rw[d,c];exact st.after G
theorem c14(sb ob:Nat)(h:a9)(hp:0<h.length)(J:de)(out:List (List UInt8))(w:List UInt8)(a:Int)(x:tL sb ob h J out)(ok:gK J=true)(hl:out.length<=900000)(E:bK a)(hw:w=jB∨w=jg):aN aE 14 [pt sb 0,S w,I a] h λr h'=>r=.tuple #[]∧yX sb ob h h' (qh J (nj J w [a])) (out++nF (nj J w [a])):=by
 obtain⟨W,H,b1,o1,n1,z1,b2,o2,n2,z2,b3,o3,n3,z3,t,U,q,V⟩:=x.view;obtain⟨X,o⟩:=aC J.1;rw[<-o]at q;obtain⟨O,g⟩:=aC (qh J (nj J w [a]));obtain⟨Q,b⟩:=aC (nF (nj J w [a]));rw[<-g,<-b];refine afq ?_;rw[aw];generalize l:aP aE _ _=K;by_cases m:w=[112,97,115,115,101,115]
 ·have i:nj J w [a]=(J,[xN (Ij (iD J.1 a).1)],(iD J.1 a).2):=by rw[show w=jB from m];exact tF (by decide) (by simp[lj,iR,lF,jc,jg,jC,jB,oZ,lG,nZ])
  rw[i,se]at g;rw[i]at b;rw[<-o]at b;obtain⟨p,c⟩:=TQ X a;have f:=aCU h hp _ X a q;obtain⟨N,n⟩:=aC (iD X a);rw[<-n]at f b p c;simp(disch:=omega)[m,t];refine aO f ?_;rintro _ h1⟨T,rfl,r,⟨F,ro,L,M,rfl⟩,g1⟩;simp(disch:=omega);refine aO (aCV h1 (aL hp g1) _ N.1 r (by omega) c) ?_;rintro _ j⟨g2,rfl⟩;have G:=g1.trans g2
  try simp(disch:=omega)
  refine aO (ao7 _ j) ?_;rintro _ j⟨rfl,rfl⟩
  try simp(disch:=omega)
  refine aO (T3 sb ob j (aL hp G) J out _ N.2 (x.grow G) hl) ?_;rintro _ B⟨rfl,st⟩;subst l
  try simp(disch:=omega)
  rw[g,b];exact st.after G
 have s:w=[99,111,108,117,109,110]:=by
  rcases hw with e|e
  ·exact absurd e m
  ·exact e
 have i:nj J w [a]=(J,[PZ J a],(Bb J.1 a).2):=by rw[show w=jg from s];exact tF (by decide) (by simp[lj,iR,lF,jc,jg])
 rw[i,se]at g;rw[i]at b;unfold PZ at b;rw[<-o]at b;obtain⟨p,c,k⟩:=ahL X a;have d:=aCM h hp _ X a q E;obtain⟨N,n⟩:=aC (Bb X a);rw[<-n]at d b p c k;simp(disch:=omega)[s];subst l;simp only[aq];refine bg λK l=>?_;simp(disch:=omega)[t];refine aO d ?_;rintro _ h1⟨g1,R,rfl,r⟩;obtain⟨F,ro,L,M,rfl⟩:=r.sl;simp(disch:=omega);refine l ?_;simp(disch:=omega);refine aO (axo h1 (aL hp g1) _ _ (Vi.rw r (by rw[cH,jh];omega) c)) ?_;rintro _ j⟨g2,rfl⟩;have gT:=g1.trans g2;have u:=Kr c;have v:=(dW k).2;obtain⟨C,y⟩:∃C:Int,C=(N.1.2:Nat):=⟨_,rfl⟩;rw[<-y]at v k b ⊢;obtain⟨P,z⟩:=aC (Bx (cP N.1.1));rw[<-z]at u b ⊢;have f1:P.length<=4611686018427387903:=by omega
 have f2:P.length+1+(bE C).length<=4611686018427387904:=by omega
 have f3:P.length+(1+(bE C).length)<=4611686018427387904:=by omega
 have f4:P.length+((bE C).length+1)<=4611686018427387904:=by omega
 simp(disch:=omega)[f1];refine aO (pJ _ k j (aL hp gT)) ?_;rintro _ D⟨rfl,A⟩;have G:=gT.trans A;have call:=T3 sb ob D (aL hp G) J out (P++[32]++bE C) N.2 (x.grow G) hl;rw[<-b]at call;simp only[cC,fx,df]at call;simp(disch:=omega)[f2,f3,f4];refine aO call ?_;rintro _ B⟨rfl,st⟩
 try simp(disch:=omega)
 rw[g];exact st.after G
theorem Fk{J:de}{n:List Int}{A:de×Int}(h1:Dl w)(a:rR J w n=A):nj J w n=Aa J A:=by unfold nj;rw[if_pos h1,a]
theorem c15(sb ob:Nat)(h:a9)(hp:0<h.length)(J:de)(out:List (List UInt8))(w:List UInt8)(x:tL sb ob h J out)(ok:gK J=true)(hl:out.length<=800000)(hw:fA w=1):aN aE 15 [pt sb 0,S w] h λr h'=>r=.tuple #[]∧yX sb ob h h' (qh J (nj J w [])) (out++nF (nj J w [])):=by
 obtain⟨W,H,b1,o1,n1,z1,b2,o2,n2,z2,b3,o3,n3,z3,v3,v5,vp,vj⟩:=x.view;have hs:=Cq ok;have G:=dK.1 (oT.1 ok).1;have ahK:=PU J ok;have z:=Zo J.1;have L:=λw=>@NP J w [] ok;have l0:hl=hl:=rfl;have p:out.length<=900000:=by omega
 obtain⟨T,f⟩:=aC (qh J (nj J w []));obtain⟨U,b⟩:=aC (nF (nj J w []));rw[<-f,<-b];refine afq ?_;refine bg λK hK=>?_;have st0:storeAt (h++[⟨[I 0,I 0,sl 0 0 0 0],true⟩]) h.length 0 [I W,I H,sl b1 o1 n1 z1]=some (h++[⟨[I W,I H,sl b1 o1 n1 z1],true⟩]):=by unfold storeAt;simp[iK]
 simp(disch:=omega)[v3,st0];obtain⟨h1,e1⟩:=aC (h++[⟨[I W,I H,sl b1 o1 n1 z1],true⟩]);rw[<-e1];have g1:ae h h1:=⟨_,e1⟩;have l:=aL hp g1;have kb:h1[h.length]?=some ⟨[I W,I H,sl b1 o1 n1 z1],true⟩:=by rw[e1];simp
 have M:=cI (n:=3) kb rfl;have E:=vp.grow g1;have y:=vj.grow g1;have u:=g1.aZ v5;have Q:=x.grow g1;have P:=Q.lt;have lt0:=x.lt;obtain⟨pb,zG⟩:=aC h.length;rw[<-zG]at kb M ⊢;refine hK ?_;by_cases f1:w=[117,110,100,111]
 ·have a:=Fk (J:=J) (w:=w) (n:=[]) (A:=jO J) (.inr (.inr (.inl f1))) (by rw[show w=re from f1];simp[rR]);rw[a,NM]at f;rw[a,NN]at b;have F:(jO J).2=0->gK (jO J).1=true:=by have:=L re;simpa [rR]using this
  have call:=aC2 h1 l _ J y hs;obtain⟨A,eA⟩:=aC (jO J);rw[<-eA]at f b F call;simp(disch:=omega)[f1,u];refine aO call ?_;rintro _ i⟨c,r0,rfl,o,_⟩;have js:=JS.voj (sb:=sb) (ob:=ob) o P.1 P.2;obtain⟨W',H',pd,sP,tT,tV,oR,uH,wZ,xi,wP,w9,w5,xj,rfl,_⟩:=o.vr.jx;simp(disch:=omega);refine aO (c12 sb ob i (aL l c) J A.1 out _ A.2 (Q.grow c) p js F) ?_;rintro _ m⟨rfl,st⟩
  try simp(disch:=omega)
  rw[f,b];exact(st.after c).after g1
 by_cases f2:w=[114,101,100,111]
 ·have a:=Fk (J:=J) (w:=w) (n:=[]) (A:=jM J) (.inr (.inr (.inr (.inl f2)))) (by rw[show w=rQ from f2];simp[rR,re,rQ]);rw[a,NM]at f;rw[a,NN]at b;have F:(jM J).2=0->gK (jM J).1=true:=by have:=L rQ;simpa [rR,re,rQ]using this
  have call:=aCZ h1 l _ J y hs;obtain⟨A,eA⟩:=aC (jM J);rw[<-eA]at f b F call;simp(disch:=omega)[f2,u];refine aO call ?_;rintro _ i⟨c,r0,rfl,o,_⟩;have js:=JS.vo (sb:=sb) (ob:=ob) o P.1 P.2;obtain⟨W',H',pd,sP,tT,tV,oR,uH,wZ,xi,wP,w9,w5,xj,rfl,_⟩:=o.vr.jx;simp(disch:=omega);refine aO (c12 sb ob i (aL l c) J A.1 out _ A.2 (Q.grow c) p js F) ?_;rintro _ m⟨rfl,st⟩
  try simp(disch:=omega)
  rw[f,b];exact(st.after c).after g1
 by_cases f3:w=[115,113,117,97,115,104]
 ·have a:=Fk (J:=J) (w:=w) (n:=[]) (A:=pR J) (.inr (.inr (.inr (.inr (.inl f3))))) (by rw[show w=oV from f3];simp[rR,re,rQ,oV]);rw[a,NM]at f;rw[a,NN]at b;have F:(pR J).2=0->gK (pR J).1=true:=by have:=L oV;simpa [rR,re,rQ,oV]using this
  have call:=aC1 h1 l _ J y hs;obtain⟨A,eA⟩:=aC (pR J);rw[<-eA]at f b F call;simp(disch:=omega)[f3,u];refine aO call ?_;rintro _ i⟨c,r0,rfl,o,_⟩;have js:=JS.vo (sb:=sb) (ob:=ob) o P.1 P.2;obtain⟨W',H',pd,sP,tT,tV,oR,uH,wZ,xi,wP,w9,w5,xj,rfl,_⟩:=o.vr.jx;simp(disch:=omega);refine aO (c12 sb ob i (aL l c) J A.1 out _ A.2 (Q.grow c) p js F) ?_;rintro _ m⟨rfl,st⟩
  try simp(disch:=omega)
  rw[f,b];exact(st.after c).after g1
 by_cases f4:w=[115,104,111,119]
 ·have a:=Fk (J:=J) (w:=w) (n:=[]) (A:=(J,0)) (.inr (.inr (.inr (.inr (.inr f4))))) (by rw[show w=Ix from f4];simp[rR,re,rQ,oV,zr,zp,Ix]);have D:T=J:=by rw[f,a];rfl
  have rl:U=[rK J]:=by rw[b,a];rfl
  simp(disch:=omega)[f4];refine aO (akT h1 l _ J (V7 u y) ok) ?_;rintro _ i⟨c,rfl⟩
  try simp(disch:=omega)
  refine aO (NJ sb ob i J out _ (Q.grow c) p) ?_;rintro _ m⟨rfl,st⟩
  try simp(disch:=omega)
  rw[D,rl];exact(st.after c).after g1
 obtain⟨X,B⟩:=aC J.1;rw[<-B]at E G z;have LK:=G.h;have hw8:=G.w;by_cases f5:w=[112,105,99,116,117,114,101]
 ·have a:nj J w []=(J,Cu J.1,0):=by rw[show w=iR from f5];exact tF (by decide) (by simp[lj])
  have D:T=J:=by rw[f,a];rfl
  have rl:U=Cu X:=by rw[b,a,B];rfl
  unfold Cu at rl;have akL:=aCS h1 l _ X E G;obtain⟨k,ek⟩:=aC (2*X.2.1.toNat+1);have hk:k<=17:=by omega
  rw[<-ek]at akL rl;simp(disch:=omega)[f5,M];refine aO akL ?_;rintro _ j⟨g2,lv,rfl,hb⟩;have d:=g1.trans g2;have x2:=Q.grow g2;obtain⟨lb,rfl,FG⟩:=hb.Fs;have pne:vL X k≠[]:=by intro q;have:=congrArg List.length q;rw[pO]at this;simp at this;omega
  have FG:=FG.resolve_left pne;have hn:cR 1 j (sl lb 0 (vL X k).length 1)=some (texts (vL X k)):=by rw[pO]at FG ⊢;simp[cR,FG,show k≠0 by omega]
  rw[pO]at hn;simp(disch:=omega);refine aO (QR sb ob j (aL hp d) J out 0 x2 p) ?_;rintro _ uT⟨rfl,r1,_⟩;have:=r1 rfl;subst this;obtain⟨ov,i,sr,m,k1,k2,k3,st4⟩:=x2.push (Ls:=vL X k) (nx:=sl lb 0 k 1) hn pne (by rw[pO];omega);rw[pO]at k2 k3;simp(disch:=omega)[k1,pO,k2,k3];obtain⟨m4,ob4,e4,x4⟩:=st4;have Rv:0<m.length:=by have:=aL hp d;have:=m4.1;omega
  refine aO (pJ _ (show bK (k:Int)by unfold bK;omega) m Rv) ?_;rintro _ h5⟨rfl,g5⟩;have dl:=(dW (n:=(k:Int)) (by unfold bK;omega)).2;have q1:(bE (k:Int)).length+3<=4611686018427387904:=by omega
  have q2:3+(bE (k:Int)).length<=4611686018427387904:=by omega
  have q3:(bE (k:Int)).length<=4611686018427387901:=by omega
  have call:=NJ sb ob4 h5 J (out++vL X k) ([111,107,32]++bE (k:Int)) (x4.grow g5) (by rw[af,pO];omega);simp only[fx,df]at call;simp(disch:=omega)[q1,q2,q3];refine aO call ?_;rintro _ h6⟨rfl,st⟩
  try simp(disch:=omega)
  rw[D,rl];have st6:=((st.after g5).then m4 e4).after d;rw[cC]at st6;exact st6
 by_cases f6:w=[99,111,117,110,116]
 ·have a:nj J w []=(J,[Et J],(xA J.1).2):=by rw[show w=lF from f6];exact tF (by decide) (by simp[lj,iR,lF])
  have c0:(xA J.1).2=0:=by unfold xA;rw[<-B,if_pos (dK.2 G)]
  have D:T=J:=by rw[f,a,se]
  have rl:U=[Et J]:=by rw[b,a];unfold nF;rw[if_pos c0]
  unfold Et at rl;rw[<-B]at rl;have T8:=Mx G;have Y:=aCG h1 l _ X E;have DV:=λh hp v hv=>HF h hp v X hv G;obtain⟨N,t⟩:=aC (xA X);obtain⟨C,eC⟩:∃C:Int,C=(bC X:Nat):=⟨_,rfl⟩;rw[<-t]at Y rl z;rw[<-eC]at DV rl T8;simp(disch:=omega)[f6,M];refine aO Y ?_;rintro _ j⟨g2,rfl⟩;have d:=g1.trans g2;have pp:gY j (pt pb 0) X:=by obtain⟨W',H',br⟩:=X;obtain⟨s,e,w1,w2,r⟩:=E.dE;simp at e;obtain⟨a1,a2,a3⟩:=e;subst a1;subst a2;subst a3;exact gY.at (g2.at kb) (r.grow g2) w1 w2
  simp(disch:=omega);refine aO (DV j (aL hp d) _ pp) ?_;rintro _ i⟨c,rfl⟩;have g:=d.trans c
  try simp(disch:=omega)
  refine aO (pJ _ T8 i (aL hp g)) ?_;rintro _ m⟨rfl,g4⟩;have G4:=g.trans g4;have d1:=(dW T8).2;have d2:=(dW z).2;have q1:(bE C).length<=4611686018427387903:=by omega
  have q2:(bE C).length+1+(bE N.1).length<=4611686018427387904:=by omega
  have q3:(bE C).length+(1+(bE N.1).length)<=4611686018427387904:=by omega
  have q4:(bE C).length+((bE N.1).length+1)<=4611686018427387904:=by omega
  simp(disch:=omega)[q1];refine aO (pJ _ z m (aL hp G4)) ?_;rintro _ h5⟨rfl,g5⟩;have G5:=G4.trans g5;have call:=NJ sb ob h5 J out (bE C++[32]++bE N.1) (x.grow G5) p;rw[<-rl]at call;simp only[cC,fx,df]at call;simp(disch:=omega)[q2,q3,q4];refine aO call ?_;rintro _ h6⟨rfl,st⟩
  try simp(disch:=omega)
  rw[D];exact st.after G5
 by_cases f7:w=[108,101,110,103,116,104,115]
 ·have a:nj J w []=(J,[wI (qo J.1).1],(qo J.1).2):=by rw[show w=jc from f7];exact tF (by decide) (by simp[lj,iR,lF,jc])
  have c0:(qo J.1).2=0:=by unfold qo;rw[<-B,if_pos (dK.2 G)]
  have D:T=J:=by rw[f,a,se]
  have rl:U=[wI (qo J.1).1]:=by rw[b,a];unfold nF;rw[if_pos c0]
  rw[<-B]at rl;obtain⟨R,O⟩:=TM X;have Z:=aCH h1 l _ X E;obtain⟨N,t⟩:=aC (qo X);rw[<-t]at Z rl R O;simp(disch:=omega)[f7,M];refine aO Z ?_;rintro _ j⟨lv,rfl,r,⟨rb,ro,rn,ry,rfl⟩,g2⟩;have d:=g1.trans g2;simp(disch:=omega);refine aO (ao6 j (aL hp d) _ N.1 (Vi.rw r (by rw[cH];omega) O) (by omega)) ?_;rintro _ i⟨c,rfl⟩;have g:=d.trans c
  try simp(disch:=omega)
  refine aO (NJ sb ob i J out _ (x.grow g) p) ?_;rintro _ m⟨rfl,st⟩
  try simp(disch:=omega)
  rw[D,rl];exact st.after g
 by_cases f8:w=[99,111,100,101]
 ·have a:nj J w []=(J,[ur (lQ J.1).1],(lQ J.1).2):=by rw[show w=oZ from f8];exact tF (by decide) (by simp[lj,iR,lF,jc,jg,jC,jB,oZ])
  rw[a,se]at f;rw[a]at b;rw[<-B]at b;obtain⟨R,O,hf⟩:=TL X;have V:=aCE h1 l _ X E;obtain⟨N,t⟩:=aC (lQ X);rw[<-t]at V b R O hf;simp(disch:=omega)[f8,M];refine aO V ?_;rintro _ j⟨lv,rfl,r,g2⟩;have d:=g1.trans g2;have r0:=r;obtain⟨rb,ro,ry,rfl,_⟩:=r;simp(disch:=omega);refine aO (aCF j (aL hp d) _ N.1 r0 (by omega) O hf) ?_;rintro _ i⟨c,rfl⟩;have g:=d.trans c
  try simp(disch:=omega)
  refine aO (T3 sb ob i (aL hp g) J out _ N.2 (x.grow g) p) ?_;rintro _ m⟨rfl,st⟩
  try simp(disch:=omega)
  rw[f,b];exact st.after g
 by_cases f9:w=[119,114,105,116,104,101]
 ·have a:nj J w []=(J,[bE (lY J.1).1],(lY J.1).2):=by rw[show w=lG from f9];exact tF (by decide) (by simp[lj,iR,lF,jc,jg,jC,jB,oZ,lG])
  rw[a,se]at f;rw[a]at b;rw[<-B]at b;have i64:=ahM X;have akN:=aC3 h1 l _ X E;obtain⟨N,t⟩:=aC (lY X);rw[<-t]at akN b i64;simp(disch:=omega)[f9,M];refine aO akN ?_;rintro _ j⟨g2,rfl⟩;have d:=g1.trans g2;simp(disch:=omega);refine aO (pJ _ i64 j (aL hp d)) ?_;rintro _ i⟨rfl,c⟩;have g:=d.trans c
  try simp(disch:=omega)
  refine aO (T3 sb ob i (aL hp g) J out _ N.2 (x.grow g) p) ?_;rintro _ m⟨rfl,st⟩
  try simp(disch:=omega)
  rw[f,b];exact st.after g
 by_cases f10:w=[98,114,97,99,107,101,116]
 ·have a:nj J w []=(J,[BA (DH J.1).1],(DH J.1).2):=by rw[show w=mg from f10];exact tF (by decide) (by simp[lj,iR,lF,jc,jg,jC,jB,oZ,lG,nZ,mg])
  rw[a,se]at f;rw[a]at b;rw[<-B]at b;have kx:=aor X;have aky:=aCC h1 l _ X E;obtain⟨N,t⟩:=aC (DH X);rw[<-t]at aky b kx;simp(disch:=omega)[f10,M];refine aO aky ?_;rintro _ j⟨g2,lv,rfl,pv,s,rfl,rb,ro,rn,ry,rfl⟩;have d:=g1.trans g2;simp(disch:=omega);refine aO (aCW j (aL hp d) _ N.1 pv kx) ?_;rintro _ i⟨c,rfl⟩;have g:=d.trans c
  try simp(disch:=omega)
  refine aO (T3 sb ob i (aL hp g) J out _ N.2 (x.grow g) p) ?_;rintro _ m⟨rfl,st⟩
  try simp(disch:=omega)
  rw[f,b];exact st.after g
 have fw:w=Hp:=by
  unfold fA at hw;split at hw
  ·rename_i q;simp[Hp,mg,oZ,lF,jc,iR,rQ,Ix,oV,re,lG,f1,f2,f3,f4,f5,f6,f7,f8,f9,f10]at q;exact q
  ·split at hw
   ·omega
   ·split at hw
    ·omega
    ·split at hw<;>omega
 have a:nj J w []=(J,[wI (jU J).1],(jU J).2):=by rw[fw];exact tF (by decide) (by simp[lj,iR,lF,jc,jg,jC,jB,oZ,lG,nZ,mg,Hp])
 have c0:(jU J).2=0:=by unfold jU;rw[if_pos ok]
 have D:T=J:=by rw[f,a,se]
 have rl:U=[wI (jU J).1]:=by rw[b,a];unfold nF;rw[if_pos c0]
 have akD:=aCI h1 l _ J y hs;obtain⟨R,O⟩:=ahK;obtain⟨N,t⟩:=aC (jU J);rw[<-t]at akD rl R O;simp(disch:=omega)[f1,f2,f3,f4,f5,f6,f7,f8,f9,f10,u];refine aO akD ?_;rintro _ j⟨g2,r0,rfl,vo,_⟩;have d:=g1.trans g2;have vi:=Vi.vr vo.vr;obtain⟨rb,ro,ry,rfl,_⟩:=vo.vr.ints;simp(disch:=omega);refine aO (ao6 j (aL hp d) _ N.1 vi (by omega)) ?_;rintro _ i⟨c,rfl⟩;have g:=d.trans c
 try simp(disch:=omega)
 refine aO (NJ sb ob i J out _ (x.grow g) p) ?_;rintro _ m⟨rfl,st⟩
 try simp(disch:=omega)
 rw[D,rl];exact st.after g
theorem aj3(h:fA w=2)(a:w≠xQ):w=jB∨w=jg:=by
 unfold fA at h;split at h
 ·omega
 ·split at h
  ·rename_i q;simp at q;rcases q with q|q|q
   ·exact .inr q
   ·exact .inl q
   ·exact absurd q a
  ·split at h
   ·omega
   ·split at h<;>omega
theorem ad5(h:fA w=3):w=zp∨w=nZ∨w=jC:=by
 unfold fA at h;split at h
 ·omega
 ·split at h
  ·omega
  ·split at h
   ·rename_i q;simp at q;rcases q with q|q|q
    ·exact .inr (.inl q)
    ·exact .inl q
    ·exact .inr (.inr q)
   ·split at h<;>omega
theorem ag1(h:fA w=4):w=zr:=by
 unfold fA at h;split at h
 ·omega
 ·split at h
  ·omega
  ·split at h
   ·omega
   ·split at h
    ·assumption
    ·omega
theorem am6{α:Type}{l:List α}(h:l.length=1)(d:α):l=[l.getD 0 d]:=by
 match l,h with
 |[a],_=>rfl
theorem am7{α:Type}{l:List α}(h:l.length=2)(d:α):l=[l.getD 0 d,l.getD 1 d]:=by
 match l,h with
 |[a,b],_=>rfl
theorem afZ{α:Type}{l:List α}(h:l.length=3)(d:α):l=[l.getD 0 d,l.getD 1 d,l.getD 2 d]:=by
 match l,h with
 |[a,b,c],_=>rfl
theorem agI{s:List UInt8}:hI bU (gU s).1<=1048576:=by
 rcases IT s with⟨X,a,_,c⟩|⟨_,c⟩
 ·rw[c];obtain⟨W,H,br⟩:=X;have:=jH a;rw[sQ];omega
 ·rw[c,sQ];simp
theorem anw{s:List UInt8}(h:(gU s).2=true):vu (Mq (gU s).1 0)=(F0 s,[rK (F0 s)],0):=by have:=Qy h;have a:=(oT.1 this).1;unfold Mq;rw[if_pos rfl];unfold F0 at a ⊢;unfold vu oX;rw[if_pos a]
def xL(s:List UInt8):Prop:=fA (pV s)=(fF 32 s).length
instance (s:List UInt8):Decidable (xL s):=by unfold xL;infer_instance
noncomputable def CK(J:de)(s:List UInt8):de:=if xL s then qh J (sC J (pV s) (fF 32 s).tail)else J
noncomputable def CL(J:de)(s:List UInt8):List (List UInt8):=if xL s then nF (sC J (pV s) (fF 32 s).tail)else[]
theorem c13(sb ob:Nat)(h:a9)(hp:0<h.length)(J:de)(out:List (List UInt8))(s:List UInt8)(x:tL sb ob h J out)(ok:gK J=true)(hl:out.length<=800000)(hs:s.length<=1048576):aN aE 13 [pt sb 0,S s] h λr h'=>r=B (decide (xL s))∧yX sb ob h h' (CK J s) (out++CL J s):=by
 have H:out.length<=900000:=by omega
 have xK:=PE s;have Gs:=uK 32 s [];have Sp:=CB (.inr rfl) s 32 hs;obtain⟨RJ,O⟩:=aC (CK J s);obtain⟨W,P⟩:=aC (CL J s);obtain⟨IC,eI⟩:=aC (decide (xL s));rw[<-O,<-P,<-eI];unfold CK at O;unfold CL at P;obtain⟨w,ew⟩:=aC (pV s);obtain⟨l,el⟩:=aC ((fF 32 s).tail);have yi:∀x∈l,x.length<=1048576:=by
  intro x hx;have h1:x∈iL 32 [] s:=by
   show x∈fF 32 s
   rw[xK,<-el];exact j5 _ hx
  have:=Gs x h1;simp at this;omega
 obtain⟨E,d⟩:=aC (sC J (pV s) (fF 32 s).tail);rw[<-d]at O P;rw[<-ew,<-el]at xK d;rw[xK]at Sp;have z:xL s↔fA w=l.length+1:=by unfold xL;rw[<-ew,xK];simp
 have Up:fA w=l.length+1->RJ=qh J E:=λq=>by rw[O,if_pos (z.2 q)]
 have FA:fA w=l.length+1->W=nF E:=λq=>by rw[P,if_pos (z.2 q)]
 have eI1:fA w=l.length+1->IC=true:=λq=>by rw[eI];exact decide_eq_true (z.2 q)
 have eJ0:¬fA w=l.length+1->RJ=J:=λq=>by rw[O,if_neg (λe=>q (z.1 e))]
 have Uq:¬fA w=l.length+1->W=[]:=λq=>by rw[P,if_neg (λe=>q (z.1 e))]
 have eI0:¬fA w=l.length+1->IC=false:=λq=>by rw[eI];exact decide_eq_false (λe=>q (z.1 e))
 clear O P eI ew el Gs z;refine afq ?_;rw[aw,cy];generalize g:aP aE _ _ 0=K;simp(disch:=omega);subst g;simp only[aq];rw[aw,cy];generalize g:aP aE _ _ 0=K;simp(disch:=omega);refine aO (Sp h hp) ?_;rintro wv h2⟨g2,Nj⟩;have vH:=aL hp g2;obtain⟨wb,rfl,wc⟩:=Nj.Fs;have wc:=wc.resolve_left (by simp);simp only[az]at wc ⊢;have cw:=Gy wc;have x2:=x.grow g2
 try simp(disch:=omega)
 subst g;simp only[aq];rw[aw];generalize g:aP aE _ _=K;simp(disch:=omega)[cw];refine aO (aDK w h2 vH) ?_;rintro _ T⟨rfl,g3⟩;have L:=g2.trans g3;have Bm:=aL hp L;by_cases qz:fA w=l.length+1
 case neg=>
  have u:=eJ0 qz;have rl:=Uq qz;have ri:=eI0 qz;subst u;subst rl;subst ri;have F:¬(fA w:Int)=(l.length:Int)+1:=by omega
  simp(disch:=omega)[qz,F];subst g;simp(disch:=omega);exact x.st L
 have u:=Up qz;have rl:=FA qz;have ri:=eI1 qz;clear eJ0 Uq eI0 Up FA eI1;subst ri;have F:(fA w:Int)=(l.length:Int)+1:=by omega
 have Z:=g3.cell cw;simp(disch:=omega)[qz,F];subst g;simp only[aq];rw[aw];generalize g:aP aE _ _=K;have l4:l.length<=3:=by
  have:fA w<=4:=by
   unfold fA
   (repeat' split)<;>omega
  omega
 have wc3:=g3.aZ wc;have x3:=x2.grow g3;by_cases R:w=[114,101,97,100]
 ·have nl:l.length=1:=by rw[show w=xQ from R,show fA xQ=2 from by decide]at qz;omega
  have c1:=Ee wc3 (k:=0) (by omega);rw[dt]at c1;have sl0:=yi _ (aD (show 0<l.length by omega));have g0:l.getD 0 []=l[0]:=by rw[aA,ah (by omega)];rfl
  unfold sC at d;rw[if_pos (show w=xQ from R),g0]at d;obtain⟨t,et⟩:=aC (l[0]);rw[<-et]at d c1 sl0;have rsz:=@agI t;have rnj:=λe=>@anw t e;have axp:=aCY T Bm t sl0;simp(disch:=omega)[R,nl,Z,c1];refine aO axp ?_;rintro _ f⟨g4,r0,rfl,o⟩;have M:=L.trans g4;have ov:=o.vr;obtain⟨RA,eR⟩:=aC (gU t);rw[<-eR]at d ov rsz rnj ⊢;obtain⟨W',H',pd,sP,tT,tV,e5⟩:=ov.px;subst e5;cases q:RA.2 with
  |false=>
   rw[q,if_neg (by simp)]at d;subst d;rw[se]at u;have rl:W=[xB 8]:=by rw[rl];rfl
   subst u;subst rl;simp(disch:=omega);refine aO (QR sb ob f (aL hp M) RJ out 8 (x.grow M) H) ?_;rintro _ h5⟨rfl,_,st⟩;have st:=st (by omega)
   try simp(disch:=omega)
   try subst g
   try simp(disch:=omega)
   exact st.after M
  |true=>
   rw[q,if_pos rfl,<-rnj q]at d;subst d;simp(disch:=omega);refine aO (c11 sb ob f (aL hp M) J out _ RA.1 0 (x.grow M) H ov rsz) ?_;rintro _ h5⟨rfl,st⟩
   try simp(disch:=omega)
   try subst g
   try simp(disch:=omega)
   rw[u,rl];exact st.after M
 have erW:w≠xQ:=R;unfold sC at d;rw[if_neg (show ¬w=xQ from R)]at d;simp(disch:=omega)[R,Z];subst g;simp only[aq];rw[aw,cy];generalize g:aP aE _ _ 0=K;simp(disch:=omega);subst g;simp only[aq];rw[aw];generalize hP:aP aE _ _=PP;have fin:∀(σ:Nat->Value) (h':a9),ae T h'->wL l->bP T h' (σ 8) 1 (ints (qp l))->σ 0=pt sb 0->σ 5=sl wb 0 (l.length+1) 1->PP 0 σ h':=by
  intro σ h' n A hb C i;rw[if_pos A]at d;have Ic:(qp l).length=l.length:=by simp[qp]
  have vn:Vi h' (σ 8) (qp l):=ahm hb (by rw[Ic];omega) (VI l);obtain⟨N,eN⟩:=aC (qp l);rw[<-eN]at vn d Ic;obtain⟨nb,no,nz,p,v⟩:=vn.at;rw[Ic]at p v;have m:=(g3.trans n).cell cw;have G:=L.trans n;have EN:=aL hp G;have xh:=x.grow G;have ax8:l.length=0∨l.length=1∨l.length=2∨l.length=3:=by omega
  have X:∀(τ:Nat->Value) (h2:a9),yX sb ob h' h2 (qh J E) (out++nF E)->(aP aE ((zV [op 4 (.move (.const (B true)))]).seq .ret) (zn [(4,0)] λr h'=>r=B true∧yX sb ob h h' RJ (out++W))) 0 τ h2:=by intro τ h2 st;simp(disch:=omega);rw[u,rl];exact st.after G
  subst hP;simp only[aq];rw[aw];generalize hQ:aP aE _ _=Q;rw[hQ]at X;clear hQ;rcases ax8 with l0|l0|l0|l0
  ·have N0:N=[]:=aB.1 (by omega);rw[N0]at d;rw[l0]at i p;simp(disch:=omega)[C,i,p,m];refine aO (c15 sb ob h' EN J out w xh ok hl (by omega)) ?_;rintro _ f⟨rfl,st⟩;rw[<-d]at st
   try simp(disch:=omega)
   exact X _ f st
  ·have N1:=am6 (l:=N) (by omega) 0;obtain⟨j,U⟩:=v 0 (by omega);rw[bA]at j;obtain⟨a,ea⟩:=aC (N.getD 0 0);rw[<-ea]at j U N1;rw[N1]at d;rw[l0]at i p;simp(disch:=omega)[C,i,p,m,j];refine aO (c14 sb ob h' EN J out w a xh ok H U (aj3 (by omega) erW)) ?_;rintro _ f⟨rfl,st⟩;rw[<-d]at st
   try simp(disch:=omega)
   exact X _ f st
  ·have N2:=am7 (l:=N) (by omega) 0;obtain⟨j,U⟩:=v 0 (by omega);obtain⟨Y,i1⟩:=v 1 (by omega);rw[bA]at j;obtain⟨a,ea⟩:=aC (N.getD 0 0);obtain⟨b,eb⟩:=aC (N.getD 1 0);rw[<-ea]at j U N2;rw[<-eb]at Y i1 N2;rw[N2]at d;rw[l0]at i p;simp(disch:=omega)[C,i,p,m,j,Y];refine aO (c20 sb ob h' EN J out w a b xh ok H (ad5 (by omega))) ?_;rintro _ f⟨rfl,st⟩;rw[<-d]at st
   try simp(disch:=omega)
   exact X _ f st
  ·have N3:=afZ (l:=N) (by omega) 0;obtain⟨j,U⟩:=v 0 (by omega);obtain⟨Y,i1⟩:=v 1 (by omega);obtain⟨a2,i2⟩:=v 2 (by omega);rw[bA]at j;obtain⟨a,ea⟩:=aC (N.getD 0 0);obtain⟨b,eb⟩:=aC (N.getD 1 0);obtain⟨c,ec⟩:=aC (N.getD 2 0);rw[<-ea]at j U N3;rw[<-eb]at Y i1 N3;rw[<-ec]at a2 i2 N3;have ws:=ag1 (w:=w) (by omega);have er4:nj J w [a,b,c]=Aa J (Fm J a b c):=Fk (by rw[ws];exact .inr (.inl rfl)) (by rw[ws];simp[rR,re,rQ,oV,zr]);rw[N3,er4]at d;have rjE:qh J E=qh J (vu (Fm J a b c)):=by rw[d,NM]
   have rlE:nF E=nF (vu (Fm J a b c)):=by rw[d,NN]
   rw[l0]at i p;simp(disch:=omega)[C,i,p,m,j,Y,a2];refine aO (c18 sb ob h' EN J out a b c xh ok H i2) ?_;rintro _ f⟨rfl,st⟩;rw[<-rjE,<-rlE]at st
   try simp(disch:=omega)
   exact X _ f st
 have i6:∀(σ:Nat->Value) (h' f:a9),ae T h'->¬wL l->yX sb ob h' f J (out++[xB 7])->σ 4=B true->PP 1 σ f:=by
  intro σ h' f n A st q4;rw[if_neg A]at d;subst d;rw[se]at u;have rl:W=[xB 7]:=by rw[rl];rfl
  subst hP;simp(disch:=omega)[q4];rw[u,rl];exact st.after (L.trans n)
 clear hP;simp(disch:=omega);have b0:∀(σ:Nat->Value) (h':a9),PP 0 σ h'->eY 0 PP 2 σ h':=by intro σ h' x;rw[fk,if_pos rfl];exact x
 have pd:∀(σ:Nat->Value) (h':a9),PP 1 σ h'->eY 0 PP 1 σ h':=by intro σ h' x;rw[fk,if_neg (by omega)];exact x
 generalize eY 0 PP=B0 at b0 pd ⊢;refine aU (λk σ h'=>k<=l.length∧ae T h'∧wL (l.take k)∧bP T h' (σ 8) 1 (ints (qp (l.take k)))∧σ 0=pt sb 0∧σ 5=sl wb 0 (l.length+1) 1∧σ 9=I ((k+1:Nat):Int)) (λk=>l.length-k) 0 ?_ ?_
 ·exact⟨by omega,ae.refl _,by simp[wL],by simpa [qp,ints]using bP.nil,by simp,by simp,by simp⟩
 rintro k σ h'⟨hk,n,A,hb,C,i,q9⟩;by_cases V:k<l.length
 ·have cwk:=(n.cell (Ee wc3 V));have Ov:=yi _ (aD V);have nt:=O3 V;have VH:(eU l[k]).2=true->wL (l.take (k+1)):=by
   intro e x hx;rw[aj V]at hx;rcases cS.1 hx with hx|hx
   ·exact A x hx
   ·rw[fS.1 hx];exact e
  have nob:(eU l[k]).2=false->¬wL l:=by intro e q;have:=q _ (aD V);rw[e]at this;cases this
  have Zz:=ahU l[k] Ov h' (aL Bm n);obtain⟨D,eD⟩:=aC (eU l[k]);rw[<-eD]at Zz nt VH nob;obtain⟨y,ey⟩:=aC (l[k]);rw[<-ey]at cwk Zz;have AH:(k:Int)+1<(l.length:Int)+1:=by omega
  have k2:(k:Int)<(l.length:Int):=by omega
  have k3:k+1<l.length+1:=by omega
  have k0:(0:Int)<=(k:Int)+1:=by omega
  simp(disch:=omega)[i,q9,k0,V,AH,k2,k3,cwk];refine aO Zz ?_;rintro _ f⟨g4,rfl⟩;have G:=n.trans g4;have GG:=L.trans G;cases qd:D.2 with
  |false=>
   simp(disch:=omega)[C,qd];refine aO (QR sb ob f (aL hp GG) J out 7 (x.grow GG) H) ?_;rintro _ h5⟨rfl,_,st⟩;have st:=st (by omega)
   try simp(disch:=omega)
   refine pd _ _ (i6 _ f h5 G (nob qd) st (by simp))
  |true=>
   have VH:=VH qd;have wk:=cQ ((k:Int)+1+1) (((k+1+1:Nat):Int));have WM:=cQ (((k+1:Nat):Int)+1) (((k+1+1:Nat):Int));simp(disch:=omega)[qd];refine oa Bm G (by unfold qp;rw[bL,bu];omega) (hb.grow g4) λv3 h5 g5 b5=>?_;rw[<-nt]at b5
   try simp(disch:=omega)[q9,wk,WM]
   refine⟨k+1,?_,by omega⟩;and_intros<;>first|assumption|omega|rfl
 ·have:k=l.length:=by omega
  subst this;rw[aK]at A hb;simp(disch:=omega)[i,q9];refine b0 _ _ (fin _ h' n A (by simpa using hb) (by simpa using C) (by simpa using i))
theorem P5{J:de}{s:List UInt8}(ok:gK J=true):fW J s=if xL s then(CK J s,CL J s,0)else(oC,[],7):=by
 unfold fW CK CL;rw[if_pos ok];by_cases e:xL s
 ·rw[if_pos e,if_pos e,if_pos e];rw[if_pos (show fA (pV s)=(fF 32 s).length from e)];unfold qh nF;split
  ·rfl
  ·rfl
 ·rw[if_neg e,if_neg (show ¬fA (pV s)=(fF 32 s).length from e)]
theorem JS.hi{hi:Nat}{v:Value}{J:de}(x:Vo h lo hi ba v J)(h1:hi<=sb):JS h sb 0 v J:=λh' m=>(x.mod (tu:=sb) (iY:=sb+1) ⟨m.1,λb a c=>m.2 b a (by omega) (.inr rfl)⟩ (.inl h1)).vr
def axe(h h':a9)(r:Value)(A:de×List (List UInt8)×Int):Prop:=ae h h'∧∃a b,r=.tuple #[a,b,I A.2.2]∧Vr h' ba a A.1∧Vr h' lD b A.2.1
theorem ss.kR(m:ss sb ob h h')(g:ae h0 h)(h1:h0.length<=sb)(c:ob=0∨h0.length<=ob):ae h0 h':=by refine EC (a7 g.le m.1) λb a=>?_;rw[m.2 b (bQ a g.le) (by omega) (by omega),g.look a]
theorem aCJ(h:a9)(hp:0<h.length)(v:Value)(J:de)(s:List UInt8)(B:Vr h ba v J)(y:hI ba J<=1048576)(hl:s.length<=1048576):aN aE 343 [v,S s] h λr h'=>axe h h' r (fW J s):=by
 have dD:=B;have wf:=Ge B y;have a:=@P5 J s;have Uj:=@GJ J s;obtain⟨A,eA⟩:=aC (fW J s);have g:=eA;unfold fW at g;rw[<-eA]at a Uj ⊢;obtain⟨W,H,b1,o1,n1,z1,b2,o2,n2,z2,b3,o3,n3,z3,rfl,yj⟩:=B.jx;refine ag8 λK c=>?_;obtain⟨h1,u⟩:=aC (h++[⟨[I W,I H,sl b1 o1 n1 z1,sl b2 o2 n2 z2,sl b3 o3 n3 z3],true⟩]);rw[<-u];have g1:ae h h1:=⟨_,u⟩;have mT:=aL hp g1;have kb:h1[h.length]?=some ⟨[I W,I H,sl b1 o1 n1 z1,sl b2 o2 n2 z2,sl b3 o3 n3 z3],true⟩:=by rw[u];simp
 have pj:=V7 (cI (n:=5) kb rfl) (dD.grow g1);refine c ?_;rw[aw];generalize c:aP aE _ _=K;simp(disch:=omega);refine aO (PY h1 mT _ J pj y) ?_;rintro _ h2⟨g2,rfl⟩;have o:=g1.trans g2;have vH:=aL hp o;cases q:gK J with
 |false=>
  rw[q,if_neg (by simp)]at g;subst g;simp(disch:=omega);subst c;simp(disch:=omega)[cY,cJ,cO,bD];exact⟨o,_,_,rfl,xF.no.vr (lo:=0) (hi:=0),Vo.E8.vr (lo:=0) (hi:=0)⟩
 |true=>
 have a:=a q;clear g;simp(disch:=omega);subst c;simp only[aq];refine akW λK c=>?_;refine aQ (ZI h2 vH _ J (pj.grow g2) y) ?_;rintro jv d o5;have g3:=o5.1
 try refine⟨λe=>(by first|exact g3|cases e),?_⟩
 have f:=o.trans g3;have vo:=o5.vo wf;have O:=vo.vr;obtain⟨t,p,E,F,L,M,D,N,T,U,R,Q,P,V,rfl,_⟩:=O.jx;simp(disch:=omega)[Ai,cellsOf,scalar];obtain⟨j,w⟩:=aC (d++[⟨[I t,I p,sl E F L M,sl D N T U,sl R Q P V,sl 0 0 0 0],true⟩]);rw[<-w];have g4:ae d j:=⟨_,w⟩;have C:j[d.length]?=some ⟨[I t,I p,sl E F L M,sl D N T U,sl R Q P V,sl 0 0 0 0],true⟩:=by rw[w];simp
 have G4:=f.trans g4;have x4:tL d.length 0 j J []:=⟨⟨t,p,E,F,L,M,D,N,T,U,R,Q,P,V,0,C,JS.hi (vo.grow g4) (aa _),.inl rfl⟩,.inl ⟨rfl,rfl⟩,by have:=aL hp f;omega,by have:=aL hp f;omega⟩;obtain⟨sb,DI⟩:=aC d.length;rw[<-DI]at x4 ⊢;refine c ?_;rw[aw];generalize c:aP aE _ _=K;have call:=c13 sb 0 j (aL hp G4) J [] s x4 q (by simp) hl;simp only[df]at call;simp(disch:=omega);refine aO call ?_;rintro _ k⟨rfl,m5,G,e5,x5⟩;have G5:ae h k:=m5.kR G4 (by have:=f.le;omega) (.inl rfl);by_cases m:xL s
 case neg=>
  rw[if_neg m]at a;subst a;simp(disch:=omega)[m];subst c;simp(disch:=omega)[cY,cJ,cO,bD];exact⟨G5,_,_,rfl,xF.no.vr (lo:=0) (hi:=0),Vo.E8.vr (lo:=0) (hi:=0)⟩
 rw[if_pos m]at a;obtain⟨bd,okA⟩:=Uj (by rw[a]);have eJ:A.1=CK J s:=by rw[a]
 have eL:A.2.1=CL J s:=by rw[a]
 have eC:A.2.2=0:=by rw[a]
 rw[<-eJ,<-eL]at x5;rw[<-eJ,<-eL]at a;obtain⟨⟨W2,H2,y1,y2,y3,y4,y5,y6,y7,y8,y9,Y,Z,y12,oy,box,js,x⟩,EM,_⟩:=x5;have v5:aZ k sb 0 5=some [I W2,I H2,sl y1 y2 y3 y4,sl y5 y6 y7 y8,sl y9 Y Z y12]:=by rw[fB box (by simp)];rfl
 have c5:=i9 (i:=5) box (v:=sl G 0 A.2.1.length oy) (by simp);have tv:Vr k lD (sl G 0 A.2.1.length oy) A.2.1:=(Vo.E9 (lo:=0) (hi:=k.length) (b:=G) (z:=oy) (X:=A.2.1) (by
   rcases x with q|q
   ·right;rcases EM with⟨_,q2⟩|⟨_,q2,_⟩
    ·exact⟨q2,q⟩
    ·exact absurd q q2
   ·exact .inl q) (by rw[cH];have:=bd.2.1;omega) (λl hl=>by rw[cH];have:=bd.2.2 l hl;omega) (EM.imp (λe=>e.1) λe=>⟨e.2.2,by omega,bZ e.2.2⟩)).vr
 simp(disch:=omega)[m];subst c;simp(disch:=omega)[v5,c5,cY,cJ,cO,bD];rw[a];exact⟨G5,_,_,rfl,js.vr,tv⟩
theorem Cy(A B:List (List UInt8)):ja (A++B)=ja A++ja B:=by simp[ja]
theorem YY{n:Nat}:∀{L:List (List UInt8)},(∀l∈L,l.length<=n)->(ja L).length<=(n+1)*L.length
 |[],_=>by simp[ja]
 |a::r,h=>by
  have h1:=h a (by simp);have b:=YY (L:=r) λl hl=>h l (by simp[hl]);have e:ja (a::r)=(a++[10])++ja r:=by simp[ja]
  rw[e];simp only[af,az,aF,qj,dn];omega
theorem YX:∀(L:List (List UInt8)),L.length<=(ja L).length
 |[]=>by simp
 |a::r=>by
  have:=YX r;have e:ja (a::r)=(a++[10])++ja r:=by simp[ja]
  rw[e];simp only[af,az,aF];omega
def ahA(J:de)(L:List (List UInt8)):Prop:=L.length<=1∨L=Cu J.1
theorem aj5(J:de)(w:List UInt8)(n:List Int):ahA J (lj J w n).1:=by
 unfold lj;split
 ·exact .inr rfl
 repeat' (first|(split;exact .inl (by simp))|exact .inl (by simp))
theorem amZ(J:de)(w:List UInt8)(l:List (List UInt8)):ahA J (sC J w l).2.1:=by
 unfold sC;split
 ·split
  ·exact .inl (by simp)
  ·exact .inl (by simp)
 ·split
  ·unfold nj;split
   ·unfold Aa;split
    ·exact .inl (by simp)
    ·exact .inl (by simp)
   ·exact aj5 J w _
  ·exact .inl (by simp)
theorem Um{J:de}{s:List UInt8}(h:(fW J s).2.2=0):(ja (fW J s).2.1).length<=400000:=by
 have bd:=(GJ h).1;have ok:gK J=true:=by
  unfold fW at h;split at h
  ·assumption
  ·exact absurd h (by decide)
 have one:ahA J (fW J s).2.1:=by
  unfold fW;rw[if_pos ok];by_cases a:fA (pV s)=(fF 32 s).length
  ·rw[if_pos a];by_cases b:(sC J (pV s) (fF 32 s).tail).2.2=0
   ·rw[if_pos b];exact amZ J _ _
   ·rw[if_neg b];exact .inl (aa 1)
  ·rw[if_neg a];exact .inl (iE 1)
 rcases one with e|e
 ·have:=M6 bd.2.2;omega
 ·rw[e];have c:=dK.1 (oT.1 ok).1;have hw:=c.w;have f:=c.h;have hx:∀l∈Cu J.1,l.length<=30:=by
   intro l hl;unfold Cu at hl;rcases cS.1 hl with hl|hl
   ·unfold vL at hl;obtain⟨y,_,rfl⟩:=bj.1 hl;rw[FK];omega
   ·rw[fS.1 hl];have:=(dW (n:=((2*J.1.2.1.toNat+1:Nat):Int)) (by unfold bK;omega)).2;simp only[af,az,aF];omega
  have h1:=YY hx;have d:(Cu J.1).length<=18:=by unfold Cu;rw[af,pO];simp;omega
  omega
theorem amK{v:Value}{xs:List UInt8}(hp:0<h.length)(hl:l.length+xs.length<=1000000000)(i:ae h h')(d:bP h h' v 1 (cD l))
  (g:∀c a,ae h a->bP h a c 1 (cD (l++xs))->K c a):gE (cu 1 h' (S xs) v) K:=by
 by_cases f:xs=[]
 ·subst f;have:∃b n y,v=sl b 0 n y:=by
   rcases d with⟨_,e⟩|⟨b,n,e,_⟩
   ·exact⟨_,_,_,e⟩
   ·exact⟨_,_,_,e⟩
  obtain⟨b,n,y,rfl⟩:=this;have e:cu 1 h' (S []) (sl b 0 n y)=some (sl b 0 n y,h'):=by simp[cu,cR]
  rw[e];simp only[bI];exact g _ h' i (by simpa using d)
 ·refine pH hp i d (new:=cD xs) (by simp[cR,cD]) (by omega) (by simpa [cD]using f) (by simp[cD]) (by simp[cD,maxSize];omega) ?_;intro c a g1 b1 _;exact g c a g1 (by simpa [cD]using b1)
theorem amJ{v:Value}(hp:0<h.length)(hl:l.length<=1000000000)(d:ae h h')(f:bP h h' v 1 (cD l))
  (c:∀b a,ae h a->bP h a b 1 (cD (l++[10]))->K b a):gE (aW 1 1 h' [(0,.agg #[U 0]),(1,U 10)]) λy a=>gE (cu 1 a y v) K:=by
 have e:aW 1 1 h' [(0,.agg #[U 0]),(1,U 10)]=some (sl h'.length 0 1 1,h'++[⟨cD [10],true⟩]):=by simp[aW,cD]
 rw[e];simp only[bI];refine pH hp (d.push _) (f.grow ⟨_,rfl⟩) (new:=cD [10]) ?_ (by omega) (by simp[cD]) (by simp[cD]) (by simp[cD,maxSize];omega) ?_
 ·simp[cR];rw[fB (k:=⟨cD [10],true⟩) (by simp) (by simp[cD])];simp[cD]
 ·intro b a g1 b1 _;exact c b a g1 (by simpa [cD]using b1)
theorem aDJ(h:a9)(hp:0<h.length)(b y:Nat)(L:List (List UInt8))(x:∀k (A:k<L.length),cell h b k=some (S L[k]))(hl:(ja L).length<=900000000):aN aE 577 [sl b 0 L.length y] h λr h'=>ae h h'∧r=S (ja L):=by
 have B:=YX L;refine ag8 λK i=>?_;refine i ?_;refine akW λK i=>?_;refine i ?_;rw[aw];generalize w:aP aE _ _=PP;simp(disch:=omega);refine aU (λk σ h'=>k<=L.length∧ae h h'∧bP h h' (σ 3) 1 (cD (ja (L.take k)))∧σ 0=sl b 0 L.length y∧σ 4=I k) (λk=>L.length-k) 0 ?_ ?_
 ·exact⟨by omega,ae.refl _,by simpa [ja,cD]using bP.nil,by simp,by simp⟩
 rintro k σ h'⟨A,d,j,s,p⟩;simp(disch:=omega)[s,p];refine aG (λC=>?_) (λD=>?_)
 ·have m:k<L.length:=by omega
  have u:=d.cell (x k m);have t:ja (L.take (k+1))=ja (L.take k)++L[k]++[10]:=by rw[aj m,Cy];simp[ja]
  have c:(ja (L.take (k+1))).length<=(ja L).length:=by have:L=L.take (k+1)++L.drop (k+1):=(gb _ _).symm;rw[congrArg ja this,Cy,af];omega
  rw[t]at c;simp only[af,az,aF]at c;have wk:=cQ ((k:Int)+1) (((k+1:Nat):Int));simp(disch:=omega)[s,p,m,u];refine amK hp (by omega) d j λv1 h1 g1 e=>?_
  try simp(disch:=omega)
  refine amJ hp (by rw[af];omega) g1 e λv2 E g2 f=>?_;rw[<-t]at f;simp(disch:=omega)[p,wk];refine⟨k+1,?_,by omega⟩;and_intros<;>first|assumption|omega|rfl
 ·have:k=L.length:=by omega
  subst this;rw[aK]at j;simp(disch:=omega);subst w;rcases j with⟨g,a⟩|⟨b2,n2,g,a,q,v⟩
  ·have q:ja L=[]:=by have:=congrArg List.length g;rw[HE]at this;exact aB.1 this
   have cv:=Iw (h:=h') (b:=0) (o:=0) (n:=0) (z:=1) (l:=[]) rfl (.inl rfl);rw[q];simp(disch:=omega)[a,cv];exact d
  ·rw[dn,HE]at a;have cv:=Iw (h:=h') (b:=b2) (o:=0) (n:=n2) (z:=1) (l:=ja L) a (.inr (cI v (by rw[HE];exact a)));simp(disch:=omega)[g,cv];exact d
theorem ajq(s:List UInt8):∃n,n+1=(fF 10 s).length∧OP s=if(fF 10 s).getD n []=[]then(fF 10 s).take n else fF 10 s:=by
 rcases mn s with rfl|⟨t,x,e⟩
 ·exact⟨0,rfl,rfl⟩
 ·have e:s=t++[x]:=by rw[e];simp
  subst e;unfold OP;rw[if_neg (by simp)];by_cases hx:x=10
  ·subst hx;have es:fF 10 (t++[10])=fF 10 t++[[]]:=Iu 10 t [];rw[es];refine⟨(fF 10 t).length,by simp,?_⟩;have a:HO (t++[10])=t:=by unfold HO;simp
   rw[a];rw[if_pos (by simp[aA])];simp
  ·obtain⟨L,w,b⟩:=Gw hx t [];have es:fF 10 (t++[x])=L++[w++[x]]:=b;have a:HO (t++[x])=t++[x]:=by unfold HO;rw[if_neg (by simpa using hx)]
   rw[a,es];refine⟨L.length,by simp,?_⟩;rw[if_neg (by simp[aA])]
def aBE(sb:Nat)(h0 h:a9)(i:Nat)(L:List (List UInt8))(A:List UInt8):Prop:=∃J out ob,ss sb 0 h0 h∧(ob=0∨h0.length<=ob)∧tL sb ob h J out∧gK J=true∧out.length<=i*70∧(ja out).length<=i*400000∧qS (ja out) (60-i) J (L.drop i) A
def aBA(sb:Nat)(h0 h:a9)(A:List UInt8):Prop:=∃J out ob,ss sb 0 h0 h∧tL sb ob h J out∧ja out=A∧(ja out).length<=900000000∧out.length<=100000
theorem aps{J:de}(ok:gK J=true)(c:xL s):(fW J s).2.2=0∧(fW J s).1=CK J s∧(fW J s).2.1=CL J s:=by rw[P5 ok,if_pos c];exact⟨rfl,rfl,rfl⟩
theorem amV{J:de}(ok:gK J=true)(c:¬xL s):¬(fW J s).2.2=0∧CK J s=J∧CL J s=[]:=by rw[P5 ok,if_neg c];unfold CK CL;rw[if_neg c,if_neg c];exact⟨by simp,rfl,rfl⟩
theorem aC0(h:a9)(hp:0<h.length)(s:List UInt8)(hl:s.length<=1048576):aN aE 417 [S s] h λr h'=>ae h h'∧r=S (Hc s):=by
 obtain⟨A,eA⟩:=aC (Hc s);have o:=eA;unfold Hc at o;rw[<-eA];obtain⟨n,en,N⟩:=ajq s;rw[N]at o;have Gs:=uK 10 s [];have Sp:=CB (.inr rfl) s 10 hl;obtain⟨a,Z⟩:∃L,L=fF 10 s:=⟨_,rfl⟩;have yi:∀x∈a,x.length<=1048576:=by intro x hx;rw[Z]at hx;have:=Gs x hx;simp at this;omega
 have hlen:a.length<=s.length+1:=by rw[Z];exact(BH 10 s []).2
 rw[<-Z]at en o Sp;clear Gs Z N eA;refine afq ?_;rw[aw,cy];generalize z:aP aE _ _ 0=K;simp(disch:=omega);subst z;simp only[aq];rw[aw,cy];generalize z:aP aE _ _ 0=K;simp(disch:=omega);refine aO (aCO h hp) ?_;rintro dv h1⟨g1,od,sd⟩;have vd:=od.vr;obtain⟨W',H',pd,sP,tT,tV,oR,uH,wZ,xi,wP,w9,w5,xj,rfl,_⟩:=vd.jx;simp(disch:=omega)[Ai,cellsOf,scalar];obtain⟨E,e2⟩:=aC (h1++[⟨[I W',I H',sl pd sP tT tV,sl oR uH wZ xi,sl wP w9 w5 xj,sl 0 0 0 0],true⟩]);rw[<-e2];have g2:ae h1 E:=⟨_,e2⟩;have kb:E[h1.length]?=some ⟨[I W',I H',sl pd sP tT tV,sl oR uH wZ xi,sl wP w9 w5 xj,sl 0 0 0 0],true⟩:=by rw[e2];simp
 have G2:=g1.trans g2;have lp1:=aL hp g1;have x2:tL h1.length 0 E qB []:=⟨⟨W',H',pd,sP,tT,tV,oR,uH,wZ,xi,wP,w9,w5,xj,0,kb,JS.hi (od.grow g2) (aa _),.inl rfl⟩,.inl ⟨rfl,rfl⟩,by omega,by omega⟩;have YZ:h.length<=h1.length:=g1.le;obtain⟨sb,DI⟩:=aC h1.length;have Hg:sb<E.length:=by rw[e2,DI];simp
 rw[<-DI]at x2 YZ ⊢;subst z;simp only[aq];rw[aw,cy];generalize z:aP aE _ _ 0=K;simp(disch:=omega);refine aO (Sp E (aL hp G2)) ?_;rintro wv d⟨g3,Nj⟩;have G3:=G2.trans g3;have WN:∃wb,wv=sl wb 0 a.length 1∧aZ d wb 0 a.length=some (texts a)∧E.length<=wb:=by
  rcases Nj with⟨q,_⟩|⟨b,m,q1,q2,q3,q4⟩
  ·have:=congrArg List.length q;simp[texts]at this;rw[this]at en;simp at en
  ·have:m=a.length:=by simpa [texts]using q2
   subst this;exact⟨b,q1,cI q4 (by simp[texts]),q3⟩
 obtain⟨wb,rfl,wc,WN⟩:=WN;have ZL:∀k (c:k<a.length),cell d wb k=some (S a[k]):=by intro k c;have:=(fQ wc (i:=k) (by omega)).1;rw[dt]at this;rw[this];simp[texts,ah c]
 have x3:=x2.grow g3
 try simp(disch:=omega)
 subst z;simp only[aq];rw[aw];generalize z:aP aE _ _=K;have Vd:n<a.length:=by omega
 have cl:=ZL n Vd;have egd:a.getD n []=a[n]:=by rw[aA,ah Vd];rfl
 rw[egd]at o;obtain⟨la,ela⟩:=aC (a[n]);rw[<-ela]at cl o;have wn:=cQ ((a.length:Int)-1) (n:Int);have nI:(n:Int)<a.length:=by omega
 have post:∀(σ:Nat->Value) (L:List (List UInt8)),(∀k (c:k<L.length),cell d wb k=some (S L[k])∧L[k].length<=1048576)->L.length<=a.length->A=Kv 60 qB L->σ 3=pt sb 0->σ 4=sl wb 0 L.length 1->K 0 σ d:=by
  intro σ L cL lL eL q3 q4;have LR0:qS [] 60 qB L A:=by unfold qS;rw[eL];rfl
  subst z;simp only[aq];rw[aw];generalize hP:aP aE _ _=PP;have fin:∀(τ:Nat->Value) (h':a9),aBA sb d h' A->τ 3=pt sb 0->PP 0 τ h':=by
   intro τ h' en4 w;obtain⟨J,out,ob,j,U,ea,le,lo⟩:=en4;obtain⟨⟨W2,H2,y1,y2,y3,y4,y5,y6,y7,y8,y9,y10,y11,y12,oy,box,js,hoy⟩,EM,_⟩:=U;have c5:=i9 (i:=5) box (v:=sl ob 0 out.length oy) (by simp);have ch:∀k (c:k<out.length),cell h' ob k=some (S out[k]):=by
    intro k c;rcases EM with⟨q,_⟩|⟨_,_,q⟩
    ·subst q;simp at c
    ·exact i9 q (by simp[texts,ah c])
   have X:ae h h':=j.kR G3 YZ (.inl rfl);subst hP;simp(disch:=omega)[w,c5];refine aO (aDJ h' (aL hp X) ob oy out ch le) ?_;rintro _ Q⟨g5,rfl⟩;simp(disch:=omega)[ea];exact X.trans g5
  clear hP;simp(disch:=omega);have b0:∀(σ:Nat->Value) (h':a9),PP 0 σ h'->eY 0 PP 2 σ h':=by intro σ h' x;rw[fk,if_pos rfl];exact x
  generalize eY 0 PP=B0 at b0 ⊢;refine aU (λi τ h'=>i<=L.length∧i<=60∧aBE sb d h' i L A∧τ 3=pt sb 0∧τ 4=sl wb 0 L.length 1∧τ 5=I i) (λi=>L.length-i) 0 ?_ ?_
  ·exact⟨by omega,by omega,⟨qB,[],0,ss.refl,.inl rfl,x3,O0,by simp,by simp[ja],by simpa [ja]using LR0⟩,by simpa using q3,by simpa using q4,by simp⟩
  rintro i τ h'⟨hi,hi6,⟨J,out,ob,j,f,U,W,lo,ls,y⟩,w,F,G⟩;have X:ae h h':=j.kR G3 YZ (.inl rfl);have Rv:=aL hp X;by_cases R:i<L.length
  case neg=>
   have:i=L.length:=by omega
   subst this;rw[nA]at y;have:=y.done;simp(disch:=omega)[F,G];refine b0 _ _ (fin _ h' ⟨J,out,ob,j,U,this,by omega,by omega⟩ (by simpa using w))
  have C:(i:Int)<L.length:=by omega
  obtain⟨t,ml⟩:=cL i R;have t:cell h' wb i=some (S L[i]):=by
   have wl:=fQ wc (i:=i) (by omega);have hwb:wb<d.length:=by
    unfold cell at t;cases e:d[wb]? with
    |none=>rw[e]at t;simp at t
    |some k=>exact bZ e
   have:=j.2 wb hwb (by omega) (.inr rfl);unfold cell at t ⊢;rw[this];exact t
  rw[bt R]at y;obtain⟨s1,NY⟩:=aC (L[i]);rw[<-NY]at t ml y;by_cases YN:i=60
  ·subst YN;have ef:=qS.full y;have i60:(60:Int)<L.length:=by omega
   simp(disch:=omega)[F,G,R,C,i60,w];refine aO (QR sb ob h' Rv J out 5 U (by omega)) ?_;rintro _ Q⟨rfl,_,st⟩;obtain⟨T,l,e5,V⟩:=st (by omega);have ea:ja (out++[xB 5])=A:=by rw[Cy,<-ef];simp[ja]
   have l5:=HT 5
   try simp(disch:=omega)
   refine b0 _ _ (fin _ Q ⟨J,_,l,j.trans T (f.imp (λe=>by rw[e]) id),V,ea,by rw[ea,<-ef,af,af,dH];omega,by simp;omega⟩ (by simpa using w))
  have H:¬(60:Int)<=i:=by omega
  have M:¬60<=i:=by omega
  rw[show 60-i=(60-(i+1))+1 by omega]at y;have call:=c13 sb ob h' Rv J out s1 U W (by omega) ml;have B:=@Um J s1;have Uj:=@GJ J s1;have wk:=cQ ((i:Int)+1) (((i+1:Nat):Int));by_cases ic:xL s1
  ·obtain⟨O,dJ,dL⟩:=aps W ic;have Y:=y.step O;have B:=B O;obtain⟨bd,okD⟩:=Uj O;rw[dJ]at Y okD;rw[dL]at Y B bd;rw[<-Cy]at Y;have bl:=bd.2.1;simp(disch:=omega)[w,F,G,R,C,t,YN,H,M];refine aO call ?_;rintro _ Q⟨rfl,T,l,e5,V⟩;simp(disch:=omega)[ic,G]
   try simp(disch:=omega)[wk]
   have u:=j.trans T (f.imp (λe=>by rw[e]) id);have p:l=0∨d.length<=l:=by
    rcases e5 with e|e
    ·rw[e];exact f
    ·exact .inr (a7 j.1 e)
   refine⟨i+1,⟨by omega,by omega,⟨CK J s1,out++CL J s1,l,u,p,V,okD,by rw[af];omega,by rw[Cy,af];omega,Y⟩,by simpa using w,by simpa using F,by simp⟩,by omega⟩
  ·obtain⟨O,dJ,dL⟩:=amV W ic;have QI:=y.skip O;rw[dJ,dL,gH]at call;have P:ja (out++[[63]])=ja out++[63,10]:=by rw[Cy];rfl
   rw[<-P]at QI;simp(disch:=omega)[w,F,G,R,C,t,YN,H,M];refine aO call ?_;rintro _ Q⟨rfl,T,l,e5,V⟩;have u:=j.trans T (f.imp (λe=>by rw[e]) id);have p:l=0∨d.length<=l:=by
    rcases e5 with e|e
    ·rw[e];exact f
    ·exact .inr (a7 j.1 e)
   simp(disch:=omega)[ic,w];refine aO (NJ sb l Q J out [63] V (by omega)) ?_;rintro _ h6⟨rfl,m6,D,e6,x6⟩;have m46:=u.trans m6 (p.imp (λe=>by rw[e]) id);have aE4:D=0∨d.length<=D:=by
    rcases e6 with e|e
    ·rw[e];exact p
    ·exact .inr (a7 u.1 e)
   simp(disch:=omega)[G]
   try simp(disch:=omega)[wk]
   refine⟨i+1,⟨by omega,by omega,⟨J,out++[[63]],D,m46,aE4,x6,W,by rw[af];simp;omega,by rw[P,af];simp;omega,QI⟩,by simpa using F,by omega⟩,by omega⟩
 clear z;have cut:∀g:a9,gS 3 g (sl wb 0 a.length 1) none (some (I (n:Int))) none=some (sl wb 0 n 1,g):=λg=>by simp[gS,bound];omega
 by_cases ql:la=[]
 ·rw[if_pos ql]at o;simp(disch:=omega)[wn,nI,Vd,cl,ql,cut];refine post _ (a.take n) ?_ (by rw[bu];omega) o (by simp) (by simp;omega);intro k c;rw[bu]at c;have k2:k<a.length:=by omega
  refine⟨?_,?_⟩
  ·rw[ae2];exact ZL k k2
  ·rw[ae2];exact yi _ (aD k2)
 ·rw[if_neg ql]at o;simp(disch:=omega)[wn,nI,Vd,cl,ql];exact post _ a (λk c=>⟨ZL k c,yi _ (aD c)⟩) (aa _) o (by simp) (by simp)
end Am

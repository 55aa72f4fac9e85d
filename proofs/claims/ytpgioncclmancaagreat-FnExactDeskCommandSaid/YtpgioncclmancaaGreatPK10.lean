/- Contracts of functions. -/
import Derived.Test.YtpgioncclmancaaGreatPK9
set_option linter.unusedVariables false
set_option linter.unusedSimpArgs false
set_option maxHeartbeats 4000000
set_option maxRecDepth 40000
namespace Am
open Go
variable{sep:List UInt8}{br:List Int}{j b lo b1:Nat}{x c dx dy W H:Int}{h h' B0:a9}{Z:List Value}
def qi(R:List Int):List UInt8:=if R=[]then[111]else du [32] (R.map bE)
def ur(L:List (List Int)):List UInt8:=if codeOk L then(if L=[]then[110,111,110,101]else du [59] (L.map qi))else[]
theorem Qi{n:Nat}:∀(l:List (List UInt8)),(∀x∈l,x.length<=n)->(du sep l).length<=(n+sep.length)*l.length
 |[],_=>by simp[du]
 |a::r,h=>by
  have e:=h a (by simp);have key:∀r:List (List UInt8),(∀x∈r,x.length<=n)->(r.flatMap λx=>sep++x).length<=(n+sep.length)*r.length:=by
   intro r
   induction r with
   |nil=>simp
   |cons b r ih=>
    intro d;have h1:=d b (by simp);have c:=ih λx hx=>d x (by simp[hx]);simp only[List.flatMap_cons,af,az,qj,dn]at c ⊢;omega
  have c:=key r λx hx=>h x (by simp[hx]);simp only[du,af,az,qj,dn];omega
theorem Qz{R:List Int}(hl:R.length<=256)(hx:∀x∈R,bK x):(qi R).length<=5400:=by
 unfold qi;split
 ·simp
 ·have:=EV R hx R.length (aa _);rw[aK]at this;omega
theorem c69(h:a9)(hp:0<h.length)(v:Value)(L:List (List Int))(C:tJ h v L)(hl:L.length<=300)(t:∀R∈L,R.length<=256∧∀x∈R,-113<=x∧x<=113)(T:L.flatten.length<=1000000):aN aE 69 [v] h λr h'=>ae h h'∧r=S (ur L):=by
 have Z:=C;have U:∀R∈L,∀x∈R,bK x:=λR i x hx=>by have:=(t R i).2 x hx;unfold bK;omega
 have J:=aCb h hp v L C (by omega) T λR i x hx=>by have:=(t R i).2 x hx;omega
 obtain⟨b,o,y,rfl,M⟩:=C;refine afq ?_;rw[aw,cy];generalize a:aP aE _ _ 0=K;simp(disch:=omega);subst a;simp only[aq];rw[aw];generalize a:aP aE _ _=K;simp(disch:=omega);refine aO J ?_;rintro _ h1⟨g1,rfl⟩;cases g:codeOk L
 ·have l:ur L=[]:=by simp[ur,g]
  rw[l]at a;simp(disch:=omega);subst a;simp(disch:=omega);exact g1
 simp(disch:=omega);subst a;simp only[aq];rw[aw];generalize a:aP aE _ _=K;have W:L.length<=40:=by unfold codeOk at g;simp only[aH,decide_eq_true_eq]at g;exact g.1
 by_cases j:L=[]
 ·have l:ur L=[110,111,110,101]:=by unfold ur;rw[g,if_pos rfl,if_pos j]
  rw[l]at a;have:L.length=0:=by rw[j];rfl
  simp(disch:=omega)[this];subst a;simp(disch:=omega);exact g1
 have N:¬(L.length:Int)=0:=λe=>j (aB.1 (by omega));have l:ur L=du [59] (L.map qi):=by unfold ur;rw[g,if_pos rfl,if_neg j]
 rw[l]at a;simp(disch:=omega)[j];subst a;simp only[aq];rw[aw,cy];generalize a:aP aE _ _ 0=K;simp(disch:=omega);subst a;simp only[aq];rw[aw];generalize Q:aP aE _ _=PP;have D:=aL hp g1;simp(disch:=omega);refine aU (λk σ h'=>k<=L.length∧ae h1 h'∧bP h1 h' (σ 3) 1 (texts ((L.take k).map qi))∧σ 13=sl b o L.length y∧σ 14=I L.length∧σ 15=I k) (λk=>L.length-k) 0 ?_ ?_
 ·exact⟨by omega,ae.refl _,by simpa [texts]using bP.nil,by simp,by simp,by simp⟩
 ·rintro k σ h'⟨hk,q,z,d,f,c⟩;simp(disch:=omega)[f,c];refine aG (λY=>?_) (λdG=>?_)
  ·have s:k<L.length:=by omega
   obtain⟨w,c1,vr⟩:=M k s;have E:=g1.trans q;have c1:=E.cell c1;have vr:=vr.grow E;have X:=t _ (aD s);have u:(L.take (k+1)).map qi=(L.take k).map qi++[qi L[k]]:=by rw[aj s,cq];rfl
   have H:=vr;obtain⟨wb,wo,wz,rfl,_⟩:=H.ints;by_cases m:L[k]=[]
   ·have p:L[k].length=0:=by rw[m];rfl
    have A:qi L[k]=[111]:=by unfold qi;rw[if_pos m]
    rw[A]at u;simp(disch:=omega)[d,c,s,c1,p];refine lN D (by simp;omega) q z λV P B b3=>?_;rw[<-u]at b3
    try simp(disch:=omega)[d,f,c,wrap64]
    refine⟨k+1,⟨by omega,B,?_,by omega⟩,by omega⟩;rw[<-bH];exact b3
   ·have p:¬(L[k].length:Int)=0:=λe=>m (aB.1 (by omega));have A:qi L[k]=du [32] (L[k].map bE):=by unfold qi;rw[if_neg m]
    rw[A]at u;simp(disch:=omega)[d,c,s,c1,m];refine aO (aCh h' (aL D q) _ L[k] vr (by omega)) ?_;rintro _ O⟨g2,rfl⟩
    try simp(disch:=omega)
    refine lN D (by simp;omega) (q.trans g2) (z.grow g2) λV P B b3=>?_;rw[<-u]at b3
    try simp(disch:=omega)[d,f,c,wrap64]
    refine⟨k+1,⟨by omega,B,?_,by omega⟩,by omega⟩;rw[<-bH];exact b3
  ·have:k=L.length:=by omega
   subst this;rw[aK]at z;have F:=Qi (sep:=[59]) (n:=5400) (L.map qi) (by
    intro x hx;obtain⟨R,i,rfl⟩:=bj.1 hx;exact Qz (t R i).1 (U R i))
   rw[bL]at F;have G:(du [59] (L.map qi)).length<=1048576:=a7 F (by simp only[dH];omega);simp(disch:=omega);subst Q;simp(disch:=omega);refine aO (TZ _ _ [59] _ z.reads G (by simp;omega)) ?_;rintro _ O⟨rfl,rfl⟩;simp(disch:=omega);exact g1.trans q
theorem aDu(h:a9)(hp:0<h.length)(v:Value)(L:List (List Int))(hv:tJ h v L)(hl:L.length<=40)(hb:∀R∈L,R.length<=256∧∀x∈R,-113<=x∧x<=113):aN aE 511 [v] h λr h'=>ae h h'∧r=S (if L=[]then[110,111,110,101]else du [59] (L.map qi)):=by
 have nU:∀R∈L,∀x∈R,bK x:=λR W x hx=>by have:=(hb R W).2 x hx;unfold bK;omega
 obtain⟨b,o,y,rfl,db⟩:=hv;refine afq ?_;rw[aw,cy];generalize D:aP aE _ _ 0=K;simp(disch:=omega);subst D;simp only[aq];rw[aw];generalize D:aP aE _ _=K;by_cases e0:L=[]
 ·rw[if_pos e0]at D;have:L.length=0:=by rw[e0];rfl
  simp(disch:=omega)[this];subst D;simp(disch:=omega);exact ae.refl _
 rw[if_neg e0]at D;simp(disch:=omega)[e0];subst D;simp only[aq];rw[aw,cy];generalize D:aP aE _ _ 0=K;simp(disch:=omega);subst D;simp only[aq];rw[aw];generalize hP:aP aE _ _=PP;simp(disch:=omega);refine aU (λk σ h'=>k<=L.length∧ae h h'∧σ 3=S (du [59] ((L.take k).map qi))∧σ 0=sl b o L.length y∧σ 4=I k) (λk=>L.length-k) 0 ?_ ?_
 ·exact⟨by omega,ae.refl _,by simp[du],by simp,by simp⟩
 ·rintro k σ h'⟨hk,X,t,p0,C⟩;simp(disch:=omega)[p0,C];refine aG (λbB=>?_) (λdG=>?_)
  ·have g:k<L.length:=by omega
   obtain⟨w,c1,vr⟩:=db k g;have Yb:=hb _ (aD g);have Z:=nU _ (aD g);have nJ:(L.take (k+1)).map qi=(L.take k).map qi++[qi L[k]]:=by rw[aj g,cq];rfl
   have hj:=Qi (sep:=[59]) (n:=5400) ((L.take k).map qi) (by
    intro x hx;obtain⟨R,W,rfl⟩:=bj.1 hx;exact Qz (hb R (gL W)).1 (nU R (gL W)))
   rw[bL,bu]at hj;simp only[dH]at hj;obtain⟨J,hJ⟩:=aC (du [59] ((L.take k).map qi));obtain⟨Q,M⟩:=aC (if k=0 then[]else J++[59]);have Y:du [59] ((L.take (k+1)).map qi)=Q++qi L[k]:=by
    rw[nJ,oI,M];by_cases e:k=0
    ·subst e;simp
    ·have:¬(L.take k).map qi=[]:=by intro q;have:=congrArg List.length q;rw[bL,bu,aF]at this;omega
     rw[if_neg this,if_neg e,hJ]
   rw[<-hJ]at t hj;have hQl:Q.length<=300000:=by
    rw[M];split
    ·simp
    ·simp only[af,dH];omega
   have Za:=vr;obtain⟨wb,wo,wz,rfl,_,_,_,iJ⟩:=Za.ints;obtain⟨R,W⟩:=aC (L[k]);rw[<-W]at c1 iJ Yb Z Y;have c1:=X.cell c1;obtain⟨a,V⟩:=aC (Q++(if R=[]then[111]else[]));have hrt:Q++qi R=a++du [32] (R.map bE):=by
    rw[V];unfold qi;by_cases e:R=[]
    ·simp[e,du]
    ·simp[e]
   have aLK:a.length<=300001:=by rw[V];split<;>simp<;>omega
   rw[hrt]at Y;have Up:J.length+1<=4611686018427387904:=by omega
   have z:J.length+1+1<=4611686018427387904:=by omega
   have A:J.length+(1+1)<=4611686018427387904:=by omega
   have Td:a++du [32] ((R.take 0).map bE)=a:=by simp[du]
   by_cases ek:k=0
   ·subst ek;have eJ:J=[]:=by rw[hJ];simp[du]
    subst eJ;simp only[bA]at c1;rw[if_pos rfl]at M;subst M;by_cases B:R=[]
    ·have G:R.length=0:=by rw[B];rfl
     have O:a=[111]:=by rw[V,if_pos B];simp
     simp(disch:=omega)[p0,t,C,g,c1,Up,z,A,G];refine aU (λj ρ c=>j<=R.length∧ae h c∧ρ 0=sl b o L.length y∧ρ 3=S (a++du [32] ((R.take j).map bE))∧ρ 4=I 0∧ρ 5=I j∧cell c b o=some (sl wb wo R.length wz)) (λj=>R.length-j) 0 ?_ ?_
     ·exact⟨by omega,X,by simpa using p0,by rw[Td];simp[O,t],by simpa using C,by simp,by simpa using c1⟩
     rintro j ρ c⟨N,m,i,f,d,l,cr⟩;simp(disch:=omega)[i,d,l,g,cr];refine aG (λOI=>?_) (λOH=>?_)
     ·omega
     ·have:j=R.length:=by omega
      subst this;rw[aK,<-Y]at f;simp(disch:=omega)[f,d,wrap64];refine⟨0+1,?_,by omega⟩;and_intros<;>first|assumption|omega|(rw[bH];done)|rfl
    ·have H:¬(R.length=0):=λe=>B (aB.1 e);have O:a=[]:=by rw[V,if_neg B];simp
     simp(disch:=omega)[p0,t,C,g,c1,Up,z,A,H];refine aU (λj ρ c=>j<=R.length∧ae h c∧ρ 0=sl b o L.length y∧ρ 3=S (a++du [32] ((R.take j).map bE))∧ρ 4=I 0∧ρ 5=I j∧cell c b o=some (sl wb wo R.length wz)) (λj=>R.length-j) 0 ?_ ?_
     ·exact⟨by omega,X,by simpa using p0,by rw[Td];simp[O,t],by simpa using C,by simp,by simpa using c1⟩
     rintro j ρ c⟨N,m,i,f,d,l,cr⟩;simp(disch:=omega)[i,d,l,g,cr];refine aG (λOI=>?_) (λOH=>?_)
     ·have s:j<R.length:=by omega
      have F:=eG (iJ.imp id (dZ m)) s;have U:=Z _ (aD s);have uV:=dW U;have oS:=EV R Z j (by omega);have u:du [32] ((R.take (j+1)).map bE)=(if j=0 then[]else du [32] ((R.take j).map bE)++[32])++bE R[j]:=by
       rw[aj s,cq,bX,mZ,oI];by_cases e:j=0
       ·subst e;simp
       ·have:¬(R.take j).map bE=[]:=by intro q;have:=congrArg List.length q;rw[bL,bu,aF]at this;omega
        rw[if_neg this,if_neg e]
      obtain⟨T,hT⟩:=aC (du [32] ((R.take j).map bE));rw[<-hT]at f oS u;have ej:=cQ ((j:Int)+1) ((j:Int)+1);by_cases j0:j=0
      ·subst j0;have eT:T=[]:=by rw[hT];simp[du]
       subst eT;simp only[bA]at F;have q1:a.length+(bE R[0]).length<=4611686018427387904:=by omega
       simp(disch:=omega)[i,f,d,l,g,cr,s,F];refine aO (pJ _ U c (aL hp m)) ?_;rintro _ h2⟨rfl,g2⟩;have E:=g2.cell cr;simp(disch:=omega)[i,d,l,q1];have p:a++bE R[0]=a++du [32] ((R.take (0+1)).map bE):=by rw[u];simp
       refine⟨0+1,?_,by omega⟩;and_intros<;>first|assumption|omega|exact m.trans g2|(simpa using E)|(simpa using p)|(rw[<-bH,p])|rfl
      ·have P:0<j:=by omega
       rw[if_neg j0]at u;have q1:a.length+T.length+1<=4611686018427387904:=by omega
       have q2:a.length+(T.length+1)<=4611686018427387904:=by omega
       have q3:a.length+(T.length+1)+(bE R[j]).length<=4611686018427387904:=by omega
       have q4:a.length+(T.length+(1+(bE R[j]).length))<=4611686018427387904:=by omega
       have q5:a.length+T.length+1+(bE R[j]).length<=4611686018427387904:=by omega
       simp(disch:=omega)[i,f,d,l,g,cr,s,F,P,q1,q2];refine aO (pJ _ U c (aL hp m)) ?_;rintro _ h2⟨rfl,g2⟩;have E:=g2.cell cr;simp(disch:=omega)[i,d,l,q3,q4,q5,ej];have p:a++(T++32::bE R[j])=a++du [32] ((R.take (j+1)).map bE):=by rw[u];simp
       refine⟨j+1,?_,by omega⟩;and_intros<;>first|assumption|omega|exact m.trans g2|(simpa using E)|(rw[<-bH,<-p];done)|(simpa using p)|rfl
     ·have:j=R.length:=by omega
      subst this;rw[aK,<-Y]at f;simp(disch:=omega)[f,d,wrap64];refine⟨0+1,?_,by omega⟩;and_intros<;>first|assumption|omega|(rw[bH];done)|rfl
   ·have k0p:0<k:=by omega
    rw[if_neg ek]at M;by_cases B:R=[]
    ·have G:R.length=0:=by rw[B];rfl
     have O:a=J++[59]++[111]:=by rw[V,if_pos B,M]
     simp(disch:=omega)[p0,t,C,g,c1,Up,z,A,k0p,G];refine aU (λj ρ c=>j<=R.length∧ae h c∧ρ 0=sl b o L.length y∧ρ 3=S (a++du [32] ((R.take j).map bE))∧ρ 4=I k∧ρ 5=I j∧cell c b (o+k)=some (sl wb wo R.length wz)) (λj=>R.length-j) 0 ?_ ?_
     ·exact⟨by omega,X,by simpa using p0,by rw[Td];simp[O,t],by simpa using C,by simp,by simpa using c1⟩
     rintro j ρ c⟨N,m,i,f,d,l,cr⟩;simp(disch:=omega)[i,d,l,g,cr];refine aG (λOI=>?_) (λOH=>?_)
     ·omega
     ·have:j=R.length:=by omega
      subst this;rw[aK,<-Y]at f;simp(disch:=omega)[f,d,wrap64];refine⟨k+1,?_,by omega⟩;and_intros<;>first|assumption|omega|(rw[bH];done)|rfl
    ·have H:¬(R.length=0):=λe=>B (aB.1 e);have O:a=J++[59]:=by rw[V,if_neg B,M];simp
     simp(disch:=omega)[p0,t,C,g,c1,Up,z,A,k0p,H];refine aU (λj ρ c=>j<=R.length∧ae h c∧ρ 0=sl b o L.length y∧ρ 3=S (a++du [32] ((R.take j).map bE))∧ρ 4=I k∧ρ 5=I j∧cell c b (o+k)=some (sl wb wo R.length wz)) (λj=>R.length-j) 0 ?_ ?_
     ·exact⟨by omega,X,by simpa using p0,by rw[Td];simp[O,t],by simpa using C,by simp,by simpa using c1⟩
     rintro j ρ c⟨N,m,i,f,d,l,cr⟩;simp(disch:=omega)[i,d,l,g,cr];refine aG (λOI=>?_) (λOH=>?_)
     ·have s:j<R.length:=by omega
      have F:=eG (iJ.imp id (dZ m)) s;have U:=Z _ (aD s);have uV:=dW U;have oS:=EV R Z j (by omega);have u:du [32] ((R.take (j+1)).map bE)=(if j=0 then[]else du [32] ((R.take j).map bE)++[32])++bE R[j]:=by
       rw[aj s,cq,bX,mZ,oI];by_cases e:j=0
       ·subst e;simp
       ·have:¬(R.take j).map bE=[]:=by intro q;have:=congrArg List.length q;rw[bL,bu,aF]at this;omega
        rw[if_neg this,if_neg e]
      obtain⟨T,hT⟩:=aC (du [32] ((R.take j).map bE));rw[<-hT]at f oS u;have ej:=cQ ((j:Int)+1) ((j:Int)+1);by_cases j0:j=0
      ·subst j0;have eT:T=[]:=by rw[hT];simp[du]
       subst eT;simp only[bA]at F;have q1:a.length+(bE R[0]).length<=4611686018427387904:=by omega
       simp(disch:=omega)[i,f,d,l,g,cr,s,F];refine aO (pJ _ U c (aL hp m)) ?_;rintro _ h2⟨rfl,g2⟩;have E:=g2.cell cr;simp(disch:=omega)[i,d,l,q1];have p:a++bE R[0]=a++du [32] ((R.take (0+1)).map bE):=by rw[u];simp
       refine⟨0+1,?_,by omega⟩;and_intros<;>first|assumption|omega|exact m.trans g2|(simpa using E)|(simpa using p)|(rw[<-bH,p])|rfl
      ·have P:0<j:=by omega
       rw[if_neg j0]at u;have q1:a.length+T.length+1<=4611686018427387904:=by omega
       have q2:a.length+(T.length+1)<=4611686018427387904:=by omega
       have q3:a.length+(T.length+1)+(bE R[j]).length<=4611686018427387904:=by omega
       have q4:a.length+(T.length+(1+(bE R[j]).length))<=4611686018427387904:=by omega
       have q5:a.length+T.length+1+(bE R[j]).length<=4611686018427387904:=by omega
       simp(disch:=omega)[i,f,d,l,g,cr,s,F,P,q1,q2];refine aO (pJ _ U c (aL hp m)) ?_;rintro _ h2⟨rfl,g2⟩;have E:=g2.cell cr;simp(disch:=omega)[i,d,l,q3,q4,q5,ej];have p:a++(T++32::bE R[j])=a++du [32] ((R.take (j+1)).map bE):=by rw[u];simp
       refine⟨j+1,?_,by omega⟩;and_intros<;>first|assumption|omega|exact m.trans g2|(simpa using E)|(rw[<-bH,<-p];done)|(simpa using p)|rfl
     ·have:j=R.length:=by omega
      subst this;rw[aK,<-Y]at f;simp(disch:=omega)[f,d,wrap64];refine⟨k+1,?_,by omega⟩;and_intros<;>first|assumption|omega|(rw[bH];done)|rfl
  ·have:k=L.length:=by omega
   subst this;rw[aK]at t;simp(disch:=omega);subst hP;simp(disch:=omega)[t];exact X
theorem aCF(h:a9)(hp:0<h.length)(v:Value)(L:List (List Int))(e:tJ h v L)(hl:L.length<=300)(f:∀R∈L,R.length<=256∧∀x∈R,-113<=x∧x<=113)(l:L.flatten.length<=1000000):aN aE 338 [v] h λr h'=>ae h h'∧r=S (ur L):=by
 have i:=aDs h hp v L e (by omega) l λR k x hx=>by have:=(f R k).2 x hx;omega
 have j:=e;obtain⟨b,o,y,rfl,m⟩:=e;refine afq ?_;rw[aw,cy];generalize c:aP aE _ _ 0=K;simp(disch:=omega);subst c;simp only[aq];rw[aw];generalize c:aP aE _ _=K;simp(disch:=omega);refine aO i ?_;rintro _ h1⟨g1,rfl⟩;cases a:codeOk L
 ·have d:ur L=[]:=by simp[ur,a]
  rw[d]at c;simp(disch:=omega);subst c;simp(disch:=omega);exact g1
 simp(disch:=omega);subst c;simp only[aq];have g:L.length<=40:=by unfold codeOk at a;simp only[aH,decide_eq_true_eq]at a;exact a.1
 have d:ur L=if L=[]then[110,111,110,101]else du [59] (L.map qi):=by unfold ur;rw[a,if_pos rfl]
 simp(disch:=omega);refine aO (aDu h1 (aL hp g1) _ L (j.grow g1) g f) ?_;rintro _ n⟨g2,rfl⟩;rw[<-d];simp(disch:=omega);exact g1.trans g2
theorem aeO {br : List Int} {j k : Nat} (h : j ≤ k) : lU br j ≤ lU br k := by
  induction k with
  | zero => have : j = 0 := by omega
            subst this; exact aa _
  | succ k ih =>
    by_cases e : j = k + 1
    · subst e; exact aa _
    · have h1 := ih (by omega)
      by_cases a : k < br.length
      · rw [Ay a]; omega
      · have e : br.take (k + 1) = br.take k := by rw [aY (show br.length ≤ k + 1 by omega), aY (show br.length ≤ k by omega)]
        unfold lU at h1 ⊢
        rw [e]
        exact h1
theorem amQ{k:Nat}(a:j<br.length)(h0:br[j]=0)(c:j<k):lU br j<lU br k:=by have h1:=Ay a;rw[if_pos h0]at h1;have b:=aeO (br:=br) (show j+1<=k by omega);omega
def dM(br:List Int):Nat:=lU br br.length
theorem Lt{W H:Nat}{y:Int}(n:Lq W H x y)(hn:br.length=jW W (2*H))(w1:1<=W)(h1:1<=H)(c:kU W H br x y=true):∃e:jd W x.toNat y.toNat<br.length,br[jd W x.toNat y.toNat]=0∧lU br (jd W x.toNat y.toNat)<dM br:=by
 have he:=Ao c;obtain⟨a,b,rfl,rfl,q1,q2,f,d⟩:=C7 n hn w1 h1 he;rw[aM,aM];have h0:br[jd W a b]=0:=by unfold kU at c;simp only[aH,decide_eq_true_eq,aM]at c;rw[ng d]at c;exact c.2
 exact⟨d,h0,amQ d h0 d⟩
structure xw where
 ov:List Wk
 un:List Wk
 oc:List Int
 uc:List Int
def Ae(w:Wk):Wk:=(w.1+w.2.2.1,w.2.1+w.2.2.2,w.2.2.1,w.2.2.2)
def AZ(W:Nat)(br:List Int)(w:Wk):Nat:=lU br (jd W (w.1+w.2.2.1).toNat (w.2.1+w.2.2.2).toNat)
def uI(w:Wk):Bool:=decide (w.2.2.1*w.2.2.2=lX (w.1+w.2.2.1))
def tX(W H:Nat)(br:List Int)(c:Int)(D:xw)(w:Wk):xw:=
 if kU W H br (w.1+w.2.2.1) (w.2.1+w.2.2.2)then
  (if uI w then⟨D.ov.set (AZ W br w) (Ae w),D.un,D.oc.set (AZ W br w) c,D.uc⟩else⟨D.ov,D.un.set (AZ W br w) (Ae w),D.oc,D.uc.set (AZ W br w) c⟩)
 else D
def A6(n:Nat):xw:=⟨List.replicate n (0,0,0,0),List.replicate n (0,0,0,0),List.replicate n 0,List.replicate n 0⟩
noncomputable def rS(X:bW):Nat->xw
 |0=>A6 (dM X.2.2)
 |k+1=>(fq X k).foldl (tX X.1.toNat X.2.1.toNat X.2.2 k) (rS X k)
noncomputable def ir(X:bW):xw:=rS X (bC X)
structure uY (n:Nat) (D:xw):Prop where
 ol:D.ov.length=n
 ul:D.un.length=n
 cl:D.oc.length=n
 dl:D.uc.length=n
 od:∀w∈D.ov,(-1<=w.2.2.1∧w.2.2.1<=1)∧(-1<=w.2.2.2∧w.2.2.2<=1)
 ud:∀w∈D.un,(-1<=w.2.2.1∧w.2.2.1<=1)∧(-1<=w.2.2.2∧w.2.2.2<=1)
theorem amU(n:Nat):uY n (A6 n):=by
 refine⟨by simp[A6],by simp[A6],by simp[A6],by simp[A6],?_,?_⟩
 ·intro w hw;have:=jf hw;rw[this];simp
 ·intro w hw;have:=jf hw;rw[this];simp
theorem XJ{W H n:Nat}{D:xw}{w:Wk}(d:uY n D)(hw:sj W H w):uY n (tX W H br c D w):=by
 have a:(-1<=(Ae w).2.2.1∧(Ae w).2.2.1<=1)∧(-1<=(Ae w).2.2.2∧(Ae w).2.2.2<=1):=by have h1:=hw.dx;have b:=hw.dy;unfold Ae;simp only;omega
 unfold tX;split
 ·split
  ·refine⟨by simp[d.ol],d.ul,by simp[d.cl],d.dl,?_,d.ud⟩;intro u hu;rcases bJ hu with q|q
   ·exact d.od u q
   ·rw[q];exact a
  ·refine⟨d.ol,by simp[d.ul],d.cl,by simp[d.dl],d.od,?_⟩;intro u hu;rcases bJ hu with q|q
   ·exact d.ud u q
   ·rw[q];exact a
 ·exact d
theorem KX{W H n:Nat}{br:List Int}{c:Int}:∀{ws:List Wk} {D:xw},uY n D->(∀w∈ws,sj W H w)->uY n (ws.foldl (tX W H br c) D)
 |[],D,d,_=>d
 |w::ws,D,d,h=>by
  simp only[gI];exact KX (XJ d (h w (by simp))) λu hu=>h u (by simp[hu])
theorem AA{X:bW}(ok:fg X):∀{k:Nat},k<=bC X->uY (dM X.2.2) (rS X k)
 |0,_=>amU _
 |k+1,a=>KX (AA ok (by omega)) (Ca ok (by omega))
theorem ado{α β:Type}(f:β->α->β)(b:β)(l:List α)(a:j<l.length):(l.take (j+1)).foldl f b=f ((l.take j).foldl f b) l[j]:=by rw[aj a,ju];rfl
def u9(a b:Wk):Int:=if 0<a.2.2.1*b.2.2.2-a.2.2.2*b.2.2.1 then 1 else -1
noncomputable def lE(X:bW):List Int:=(List.range (dM X.2.2)).map λk=>u9 ((ir X).ov.getD k (0,0,0,0)) ((ir X).un.getD k (0,0,0,0))
theorem Ld{a b:Int}(d:-1<=a∧a<=1)(e:-1<=b∧b<=1):-1<=a*b∧a*b<=1:=by
 have h1:a=-1∨a=0∨a=1:=by omega
 have c:b=-1∨b=0∨b=1:=by omega
 rcases h1 with rfl|rfl|rfl<;>rcases c with rfl|rfl|rfl<;>omega
theorem Iv{W H:Nat}{w:Wk}(hw:sj W H w)(a:kU W H br (w.1+w.2.2.1) (w.2.1+w.2.2.2)=true):fK W H br w=Ae w:=by
 have he:=Ao a;have h0:fZ W H br (w.1+w.2.2.1) (w.2.1+w.2.2.2)=0:=by unfold kU at a;simp only[aH,decide_eq_true_eq]at a;unfold fZ;rw[if_neg he];exact a.2
 unfold gr at he;simp only[not_or]at he;unfold fK Ae;rw[h0];have b:¬(w.1+w.2.2.1=0∨w.1+w.2.2.1=2*(W:Int)∨(0:Int)=1):=by omega
 have c:¬(w.2.1+w.2.2.2=0∨w.2.1+w.2.2.2=2*(H:Int)∨(0:Int)=2):=by omega
 rw[if_neg b,if_neg c]
theorem anP{l:List Wk}{k:Nat}{y:Int}(a:k<l.length):iK (mQ l) (k*4) [I x,I y,I dx,I dy]=mQ (l.set k (x,y,dx,dy)):=by
 induction l generalizing k with
 |nil=>simp at a
 |cons w l ih=>
  cases k with
  |zero=>
   simp[iK,mQ]
  |succ k=>
   have:=ih (k:=k) (by simpa using a);unfold iK at this ⊢;simp only[az,aF]at this ⊢;rw[show(k+1)*4=k*4+4 by omega,show k*4+4+(0+1+1+1+1)=(k*4+(0+1+1+1+1))+4 by omega];simp only[mQ,bX,cK,fx,df,nO,Hx,om]at this ⊢;rw[this]
theorem Gf{k:Nat}{l:List Wk}{y:Int}(a:h[b]?=some ⟨mQ l,true⟩)(c:k<l.length):storeAt h b (k*4) [I x,I y,I dx,I dy]=some (h.set b ⟨mQ (l.set k (x,y,dx,dy)),true⟩):=by unfold storeAt;rw[a];simp only;rw[if_pos ⟨trivial,by rw[Iz];simp only[az,aF];omega⟩,anP c]
theorem H5{n:Nat}(hn:n<=1000):nR 4 h (I n) (I n) (.agg #[I 0,I 0,I 0,I 0])=some (sl h.length 0 n 4,h++[⟨mQ (List.replicate n (0,0,0,0)),true⟩]):=by
 simp only[nR,aM];rw[if_pos ⟨by omega,by omega,by simp[maxSize];omega,by simp⟩]
 congr 3
 unfold jN mQ;rw[List.map_replicate]
def uu(br:List Int)(k:Nat):List Int:=((List.range k).filter λj=>decide (fi br j=0)).map λj=>((j:Nat):Int)
theorem Gn(br:List Int)(k:Nat):uu br (k+1)=uu br k++(if fi br k=0 then[(k:Int)]else[]):=by unfold uu;rw[dN,List.filter_append,cq];by_cases e:fi br k=0<;>simp[e]
theorem A0{br:List Int}:∀{k:Nat},k<=br.length->(uu br k).length=lU br k
 |0,_=>by simp[uu,lU]
 |k+1,h=>by
  have ih:=A0 (br:=br) (k:=k) (by omega);have a:k<br.length:=by omega
  rw[Gn,af,ih,Ay a,ng a];split<;>simp
theorem c29(h:a9)(hp:0<h.length)(W H:Int)(br:List Int)(s:Value)(ok:fg (W,H,br))(n:Vr h cZ s br):aN aE 29 [.agg #[I W,I H,s]] h λr h'=>ae h h'∧bP h h' r 1 (ints (uu br br.length)):=by
 obtain⟨b2,o2,z2,rfl,x,hm,_,l⟩:=n.ints;have p:=jH ok;refine ag8 λK b=>?_;refine b ?_;refine akW λK b=>?_;refine b ?_;rw[aw];generalize j:aP aE _ _=PP;simp(disch:=omega);refine aU (λk σ h'=>k<=br.length∧ae h h'∧bP h h' (σ 3) 1 (ints (uu br k))∧σ 8=sl b2 o2 br.length z2∧σ 9=I br.length∧σ 10=I k) (λk=>br.length-k) 0 ?_ ?_
 ·exact⟨by omega,ae.refl _,by simpa [uu,ints]using bP.nil,by simp,by simp,by simp⟩
 ·rintro k σ h'⟨w,c,b3,g,q9,nK⟩;simp(disch:=omega)[q9,nK];refine aG (λq=>?_) (λu=>?_)
  ·have d:k<br.length:=by omega
   have i:=eG (l.imp id (dZ c)) d;have a:=Gn br k;have hl:=A0 (br:=br) (k:=k) (by omega);have m:=B9 br k;rw[ng d]at a;simp(disch:=omega)[g,q9,nK,d,i];by_cases e:br[k]=0
   ·rw[if_pos e]at a;simp(disch:=omega)[e];refine oa hp c (by omega) b3 λy v g2 o=>?_;rw[<-a]at o;simp(disch:=omega)[g,q9,nK,wrap64];refine⟨k+1,?_,by omega⟩;and_intros<;>first|assumption|omega|rfl
   ·rw[if_neg e,gH]at a;simp(disch:=omega)[e,nK,wrap64];rw[<-a]at b3;refine⟨k+1,?_,by omega⟩;and_intros<;>first|assumption|omega|rfl
  ·have:k=br.length:=by omega
   subst this;obtain⟨t,f⟩:=b3.nw;rw[f]at b3;simp(disch:=omega);subst j;simp(disch:=omega)[f];exact⟨c,b3⟩
theorem ahX(h:a9)(hp:0<h.length)(v:Value)(X:bW)(w:gY h v X)(ok:fg X):aN aE 500 [v] h λr h'=>ae h h'∧bP h h' r 1 (ints (uu X.2.2 X.2.2.length)):=by
 obtain⟨W,H,br⟩:=X;obtain⟨j,y,s,rfl,h1,m,n,p,w1,w2⟩:=w;obtain⟨b2,o2,z2,rfl,D,hm,_,o⟩:=p.ints;have z:=jH ok;simp only at h1 m n p hm o ⊢;refine ag8 λK d=>?_;refine d ?_;refine akW λK d=>?_;refine d ?_;rw[aw];generalize t:aP aE _ _=PP;simp(disch:=omega);refine aU (λk σ h'=>k<=br.length∧ae h h'∧bP h h' (σ 3) 1 (ints (uu br k))∧σ 0=pt j y∧σ 4=I k) (λk=>br.length-k) 0 ?_ ?_
 ·exact⟨by omega,ae.refl _,by simpa [uu,ints]using bP.nil,by simp,by simp⟩
 ·rintro k σ h'⟨C,c,b3,g,b⟩;have i:=c.cell n;simp(disch:=omega)[g,b,i];refine aG (λA=>?_) (λB=>?_)
  ·have f:k<br.length:=by omega
   have q:=eG (o.imp id (dZ c)) f;have a:=Gn br k;have hl:=A0 (br:=br) (k:=k) (by omega);have u:=B9 br k;rw[ng f]at a;simp(disch:=omega)[g,b,f,q,i];by_cases e:br[k]=0
   ·rw[if_pos e]at a;simp(disch:=omega)[e,b];refine oa hp c (by omega) b3 λE m g2 x=>?_;rw[<-a]at x;simp(disch:=omega)[g,b,wrap64];refine⟨k+1,?_,by omega⟩;and_intros<;>first|assumption|omega|rfl
   ·rw[if_neg e,gH]at a;simp(disch:=omega)[e,b,wrap64];rw[<-a]at b3;refine⟨k+1,?_,by omega⟩;and_intros<;>first|assumption|omega|rfl
  ·have:k=br.length:=by omega
   subst this;obtain⟨j,l⟩:=b3.nw;rw[l]at b3;simp(disch:=omega);subst t;simp(disch:=omega)[l];exact⟨c,b3⟩
structure Gh (h:a9) (b:Nat) (D:xw):Prop where
 ov:h[b]?=some ⟨mQ D.ov,true⟩
 un:h[b+1]?=some ⟨mQ D.un,true⟩
 oc:h[b+2]?=some ⟨ints D.oc,true⟩
 uc:h[b+3]?=some ⟨ints D.uc,true⟩
theorem Gh.grow{D:xw}(d:Gh h b D)(g:ae h h'):Gh h' b D:=⟨g.at d.ov,g.at d.un,g.at d.oc,g.at d.uc⟩
theorem xu.axz{X:bW}(cr:xu h lo (Am.sl b1 0 (bC X) 1) Z (yH X))(e:bP B0 h (Am.sl b1 0 (bC X) 1) 1 Z){c:Nat}(j:c<bC X):∃b,Am.cell h b1 c=some (Am.sl b 0 (fq X c).length 4)∧h[b]?=some ⟨mQ (fq X c),true⟩∧B0.length<=b1∧lo<=b:=by
 have hl:c<(yH X).length:=by rw[Gp];exact j
 obtain⟨b,d,g,f,_⟩:=cr.2 c hl;rw[QV hl]at d f;have a:c<Z.length:=by rw[cr.1];exact hl
 have:=e.Jc (i:=c) a;rw[ah a]at d;refine⟨b,?_,f,?_,g⟩
 ·rw[this];simpa using d
 ·rcases e with⟨q,_⟩|⟨b2,n2,q,_,k,_⟩
  ·rw[q]at a;simp at a
  ·simp[Am.sl]at q;omega
theorem Uo{W H:Nat}{D:xw}{y:Int}:tX W H br c D (x,y,dx,dy)=if kU W H br (x+dx) (y+dy)then(if uI (x,y,dx,dy)then⟨D.ov.set (lU br (jd W (x+dx).toNat (y+dy).toNat)) (x+dx,y+dy,dx,dy),D.un,D.oc.set (lU br (jd W (x+dx).toNat (y+dy).toNat)) c,D.uc⟩else⟨D.ov,D.un.set (lU br (jd W (x+dx).toNat (y+dy).toNat)) (x+dx,y+dy,dx,dy),D.oc,D.uc.set (lU br (jd W (x+dx).toNat (y+dy).toNat)) c⟩)else D:=rfl
theorem iF{k:Nat}{l:List Int}(a:h[b]?=some ⟨ints l,true⟩)(c:k<l.length):storeAt h b k [I x]=some (h.set b ⟨ints (l.set k x),true⟩):=by have:=ld (v:=I x) (o:=k) a (by simp[ints];exact c);rw[this];simp[ints,jS]
theorem xl{n:Nat}(hn:n<=1000):nR 1 h (I n) (I n) (.agg #[I 0])=some (sl h.length 0 n 1,h++[⟨ints (List.replicate n 0),true⟩]):=by
 simp only[nR,aM];rw[if_pos ⟨by omega,by omega,by simp[maxSize];omega,by simp⟩]
 congr 3
 exact congrArg (λc=>[mm.mk c true]) (F1 n)
theorem c30(h:a9)(hp:0<h.length)(W H:Int)(br:List Int)(s:Value)(ok:fg (W,H,br))(hr:Vr h cZ s br):aN aE 30 [.agg #[I W,I H,s]] h λr h'=>ae h h'∧∃b,r=.tuple #[sl b 0 (dM br) 4,sl (b+1) 0 (dM br) 4,sl (b+2) 0 (dM br) 1,sl (b+3) 0 (dM br) 1]∧h.length<=b∧Gh h' b (ir (W,H,br)):=by
 have MC:=jH ok;obtain⟨a,bh,eW,eH,ea,eb,a1,a8,b1,b8,iJ⟩:=ok.nat;have mh:dM br<=112:=by have:=B9 br br.length;unfold dM;omega
 have hN:=mf ok;refine afq ?_;rw[aw,cy];generalize m:aP aE _ _ 0=K;simp(disch:=omega);subst m;simp only[aq];rw[aw,cy];generalize m:aP aE _ _ 0=K;simp(disch:=omega);refine aO (c29 h hp W H br s ok hr) ?_;rintro r1 h1⟨g1,bf⟩;obtain⟨lb,rfl⟩:=bf.nw;have iC:(ints (uu br br.length)).length=dM br:=by simp[ints,A0 (aa _),dM]
 rw[iC];obtain⟨n,hn⟩:=aC (dM br);rw[<-hn]at mh ⊢;simp(disch:=omega);subst m;simp only[aq];rw[aw,cy];generalize m:aP aE _ _ 0=K;simp(disch:=omega);rw[H5 (by omega)];simp only[bI]
 try simp(disch:=omega)
 rw[H5 (by omega)];simp only[bI]
 try simp(disch:=omega)
 subst m;simp only[aq];rw[aw,cy];generalize m:aP aE _ _ 0=K
 try simp(disch:=omega)
 rw[xl (by omega)];simp only[bI];rw[xl (by omega)];simp only[bI];subst m;simp only[aq];obtain⟨b0,T⟩:=aC h1.length;have l1:=g1.le;obtain⟨hm,C⟩:=aC (h1++[⟨mQ (List.replicate n (0,0,0,0)),true⟩,⟨mQ (List.replicate n (0,0,0,0)),true⟩,⟨ints (List.replicate n 0),true⟩,⟨ints (List.replicate n 0),true⟩]);obtain⟨v,Yg⟩:∃v:mm,v=⟨mQ (List.replicate n (0,0,0,0)),true⟩:=⟨_,rfl⟩;obtain⟨kw,R⟩:∃kw:mm,kw=⟨ints (List.replicate n 0),true⟩:=⟨_,rfl⟩;rw[<-Yg,<-R]at C ⊢;have S:h1++[v,v]++[kw]++[kw]=hm:=by rw[C];simp
 have L:(h1++[v,v]).length=b0+2:=by rw[T];simp
 have M:(h1++[v,v]++[kw]).length=b0+3:=by rw[T];simp
 rw[S,L,M,<-T];have gm:ae h1 hm:=⟨_,C⟩;have lm:hm.length=b0+4:=by rw[C,T];simp
 have dm:Gh hm b0 (rS (W,H,br) 0):=by
  show Gh hm b0 (A6 (dM br))
  rw[<-hn,T,C,Yg,R];exact⟨by simp[A6],by simp[A6],by simp[A6],by simp[A6]⟩
 clear S L M C;have O:=g1.trans gm;rw[aw,cy];generalize m:aP aE _ _ 0=K;simp(disch:=omega);refine aO (T7 hm (by omega) W H br s ok (hr.grow O)) ?_;rintro _ t⟨g2,b1,b2,Z,rfl,bz,cr,fC,hO⟩;simp(disch:=omega);subst m;simp only[aq];have dm:=dm.grow g2;have gT:=O.trans g2;have l2:=g2.le;obtain⟨N,eN⟩:=aC (bC (W,H,br));have db:∀c,c<N->∃b,cell t b1 c=some (sl b 0 (fq (W,H,br) c).length 4)∧t[b]?=some ⟨mQ (fq (W,H,br) c),true⟩∧hm.length<=b1∧hm.length<=b:=λc F=>cr.axz bz (by omega);have hwl:∀c,c<N->(fq (W,H,br) c).length<=256:=λc F=>yG ok (by omega);have Yo:∀c,c<N->∀w∈fq (W,H,br) c,sj W.toNat H.toNat w:=λc F=>Ca ok (by omega);have UZ:∀k,k<=N->uY n (rS (W,H,br) k):=λk hk=>by rw[hn];exact AA ok (by omega)
 have eD:ir (W,H,br)=rS (W,H,br) N:=by rw[eN];rfl
 rw[eD];have hN':N<=256:=by omega
 rw[<-eN];rw[aw];generalize hP:aP aE _ _=PP;simp(disch:=omega);refine aU (λk σ h'=>k<=N∧Mod b0 (b0+4) t h'∧Gh h' b0 (rS (W,H,br) k)∧σ 1=.agg #[I W,I H,s]∧σ 7=sl b0 0 n 4∧σ 8=sl (b0+1) 0 n 4∧σ 9=sl (b0+2) 0 n 1∧σ 10=sl (b0+3) 0 n 1∧σ 36=sl b1 0 N 1∧σ 37=I N∧σ 38=I k) (λk=>N-k) 0 ?_ ?_
 ·exact⟨by omega,⟨aa _,λ_ _ _=>rfl⟩,dm,by simp,by simp,by simp,by simp,by simp,by simp,by simp,by simp⟩
 rintro k σ h'⟨hk,md,d,q1,q7,q8,q9,nK,q36,Se,YK⟩;simp(disch:=omega)[Se,YK];refine aG (λbB=>?_) (λdG=>?_)
 ·have k1:k<N:=by omega
  obtain⟨Y,sA,B,lb1,lbb⟩:=db k k1;have J:cell h' b1 k=some (sl Y 0 (fq (W,H,br) k).length 4):=by
   unfold cell at sA ⊢;have bB:b1<t.length:=by
    cases hx:t[b1]? with
    |none=>rw[hx]at sA;cases sA
    |some _=>exact bZ hx
   rw[md.2 b1 bB (by omega)];exact sA
  have wl:=hwl k k1;have wo:=Yo k k1;have dk:=UZ k (by omega);have A7:rS (W,H,br) (k+1)=(fq (W,H,br) k).foldl (tX W.toNat H.toNat br k) (rS (W,H,br) k):=rfl;obtain⟨ws,hws⟩:=aC (fq (W,H,br) k);rw[<-hws]at J B wl wo A7;simp(disch:=omega)[q36,YK,k1,J];refine aU (λj τ G=>j<=ws.length∧Mod b0 (b0+4) t G∧Gh G b0 ((ws.take j).foldl (tX W.toNat H.toNat br k) (rS (W,H,br) k))∧τ 1=.agg #[I W,I H,s]∧τ 7=sl b0 0 n 4∧τ 8=sl (b0+1) 0 n 4∧τ 9=sl (b0+2) 0 n 1∧τ 10=sl (b0+3) 0 n 1∧τ 13=I k∧τ 36=sl b1 0 N 1∧τ 37=I N∧τ 38=I k∧τ 43=sl Y 0 ws.length 4∧τ 44=I ws.length∧τ 45=I j) (λj=>ws.length-j) 0 ?_ ?_
  ·exact⟨by omega,md,by simpa using d,by simpa using q1,by simpa using q7,by simpa using q8,by simpa using q9,by simpa using nK,by simp,by simpa using q36,by simpa using Se,by simpa using YK,by simp,by simp,by simp⟩
  rintro j τ G⟨hj,o,l,r1,r7,r8,r9,r10,X,r36,r37,r38,r43,r44,p⟩;simp(disch:=omega)[r44,p];refine aG (λOI=>?_) (λOH=>?_)
  ·have j1:j<ws.length:=by omega
   have eb':G[Y]?=some ⟨mQ ws,true⟩:=by rw[o.2 Y (bZ B) (by omega)];exact B
   obtain⟨wb,wo',Rb,ayt⟩:=AM eb';simp[sl]at Rb;obtain⟨rfl,rfl⟩:=Rb;have wc:=ayt j j1;have hw:=wo _ (aD j1);have g:=ado (tX W.toNat H.toNat br k) (rS (W,H,br) k) ws j1;have V:uY n ((ws.take j).foldl (tX W.toNat H.toNat br k) (rS (W,H,br) k)):=KX dk λu hu=>wo u (gL hu);obtain⟨D,hD⟩:=aC ((ws.take j).foldl (tX W.toNat H.toNat br k) (rS (W,H,br) k));rw[<-hD]at l g V;obtain⟨w,ew⟩:=aC (ws[j]);rw[<-ew]at wc hw g;obtain⟨x,y,dx,dy⟩:=w;have vW:=hw.nxp;have Vm:=hw;obtain⟨d1,d2,p1,p2,p3,p4,p5⟩:=Vm;simp only at d1 d2 p1 p2 p3 p4 p5 vW wc;rw[Uo]at g;simp only[dt]at wc;have Vc:dx*dy=1∨dx*dy=-1:=by rcases d1 with rfl|rfl<;>rcases d2 with rfl|rfl<;>omega
   have gh:ae h G:=o.kR gT (by omega);simp(disch:=omega)[r1,r43,p,j1,wc];refine aO (c58 G x y dx dy (by omega) (by omega) (by omega) (by omega)) ?_;rintro _ q⟨rfl,rfl⟩;simp(disch:=omega)[r1];refine aO (c35 q W H _ _ br s ok (hr.grow gh) vW) ?_;rintro _ q⟨rfl,rfl⟩;cases ec:kU W.toNat H.toNat br (x+dx) (y+dy)
   ·rw[ec]at g;simp only[ax,if_false]at g;simp(disch:=omega)[p,wrap64];rw[<-g]at l;refine⟨j+1,?_,by omega⟩;and_intros<;>first|assumption|exact o.1|exact o.2|omega
   ·rw[ec,if_pos rfl]at g;obtain⟨_,_,A⟩:=Lt vW (by rw[ea,eb];exact iJ) (by omega) (by omega) ec;rw[<-hn]at A;simp(disch:=omega)[r1];refine aO (c28 q W H _ _ br s ok (hr.grow gh) vW (Ao ec)) ?_;rintro _ q⟨rfl,rfl⟩;obtain⟨K,m⟩:=aC (lU br (jd W.toNat (x+dx).toNat (y+dy).toNat));rw[<-m]at A g ⊢;simp(disch:=omega)[wrap64];refine aO (aoC q _ _ (by omega)) ?_;rintro _ q⟨rfl,rfl⟩;have z:∀i,i<4->b0+i<q.length:=λi hi=>by have:=o.1;omega
    cases E:uI (x,y,dx,dy)
    ·have Uw:¬dx*dy=lX (x+dx):=by unfold uI at E;simpa using E
     rw[E]at g;simp only[ax,if_false]at g;have s1:=Gf (k:=K) (x:=x+dx) (y:=y+dy) (dx:=dx) (dy:=dy) l.un (by rw[V.ul];exact A);obtain⟨P,e⟩:=aC (q.set (b0+1) ⟨mQ (D.un.set K (x+dx,y+dy,dx,dy)),true⟩);rw[<-e]at s1;have ucA:P[b0+3]?=some ⟨ints D.uc,true⟩:=by rw[e,ag (by omega)];exact l.uc
     have s2:=iF (k:=K) (x:=(k:Int)) ucA (by rw[V.dl];exact A);simp(disch:=omega)[Uw,r8,r10,X,A,s1,s2,p,wrap64];obtain⟨Q,f⟩:=aC (P.set (b0+3) ⟨ints (D.uc.set K k),true⟩);rw[<-f];have dB:Gh Q b0 ⟨D.ov,D.un.set K (x+dx,y+dy,dx,dy),D.oc,D.uc.set K k⟩:=by
      have z0:=z 0 (by omega);have z1:=z 1 (by omega);have z2:=z 2 (by omega);have z3:=z 3 (by omega);refine⟨?_,?_,?_,?_⟩
      ·rw[f,ag (by omega),e,ag (by omega)];exact l.ov
      ·rw[f,ag (by omega),e,dr (by omega)]
      ·rw[f,ag (by omega),e,ag (by omega)];exact l.oc
      ·rw[f,dr (by rw[e,aS];omega)]
     have U:Mod b0 (b0+4) t Q:=⟨by rw[f,e,aS,aS];exact o.1,λc F hn=>by
      rw[f,ag (by omega),e,ag (by omega)];exact o.2 c F hn⟩
     rw[<-g]at dB;refine⟨j+1,?_,by omega⟩;and_intros<;>first|assumption|exact U.1|exact U.2|omega
    ·have Uw:dx*dy=lX (x+dx):=by unfold uI at E;simpa using E
     rw[E,if_pos rfl]at g;have s1:=Gf (k:=K) (x:=x+dx) (y:=y+dy) (dx:=dx) (dy:=dy) l.ov (by rw[V.ol];exact A);obtain⟨P,e⟩:=aC (q.set b0 ⟨mQ (D.ov.set K (x+dx,y+dy,dx,dy)),true⟩);rw[<-e]at s1;have ocA:P[b0+2]?=some ⟨ints D.oc,true⟩:=by rw[e,ag (by omega)];exact l.oc
     have s2:=iF (k:=K) (x:=(k:Int)) ocA (by rw[V.cl];exact A);simp(disch:=omega)[Uw,r7,r9,X,A,s1,s2,p,wrap64];obtain⟨Q,f⟩:=aC (P.set (b0+2) ⟨ints (D.oc.set K k),true⟩);rw[<-f];have dB:Gh Q b0 ⟨D.ov.set K (x+dx,y+dy,dx,dy),D.un,D.oc.set K k,D.uc⟩:=by
      have z0:=z 0 (by omega);have z1:=z 1 (by omega);have z2:=z 2 (by omega);have z3:=z 3 (by omega);refine⟨?_,?_,?_,?_⟩
      ·rw[f,ag (by omega),e,dr (by omega)]
      ·rw[f,ag (by omega),e,ag (by omega)];exact l.un
      ·rw[f,dr (by rw[e,aS];omega)]
      ·rw[f,ag (by omega),e,ag (by omega)];exact l.uc
     have U:Mod b0 (b0+4) t Q:=⟨by rw[f,e,aS,aS];exact o.1,λc F hn=>by
      rw[f,ag (by omega),e,ag (by omega)];exact o.2 c F hn⟩
     rw[<-g]at dB;refine⟨j+1,?_,by omega⟩;and_intros<;>first|assumption|exact U.1|exact U.2|omega
  ·have:j=ws.length:=by omega
   subst this;rw[aK,<-A7]at l;simp(disch:=omega)[r38,wrap64];refine⟨k+1,?_,by omega⟩;and_intros<;>first|assumption|exact o.1|exact o.2|omega
 ·have:k=N:=by omega
  subst this;simp(disch:=omega);subst hP;simp(disch:=omega)[q7,q8,q9,nK];exact⟨md.kR gT (by omega),b0,by rw[hn];simp,by omega,d⟩
noncomputable def xg(X:bW)(k:Nat):List Int:=(List.range k).map λk=>u9 ((ir X).ov.getD k (0,0,0,0)) ((ir X).un.getD k (0,0,0,0))
theorem Py(X:bW):lE X=xg X (dM X.2.2):=rfl
theorem Ma(X:bW)(k:Nat):xg X (k+1)=xg X k++[u9 ((ir X).ov.getD k (0,0,0,0)) ((ir X).un.getD k (0,0,0,0))]:=by simp[xg,dN]
theorem BF(X:bW)(k:Nat):(xg X k).length=k:=by simp[xg]
theorem KA(X:bW)(k:Nat):∀x∈xg X k,x=1∨x=-1:=by intro x hx;unfold xg at hx;obtain⟨j,_,rfl⟩:=bj.1 hx;unfold u9;split<;>simp
theorem rE(ok:fg (W,H,br)):dM br<=112:=by have h1:=jH ok;have a:=B9 br br.length;unfold dM;omega
theorem fR{α:Type}{l:List α}{k:Nat}{d:α}(a:k<l.length):l.getD k d=l[k]:=by rw[aA,ah a];rfl
theorem c52(h:a9)(hp:0<h.length)(W H:Int)(br:List Int)(s:Value)(ok:fg (W,H,br))(L:Vr h cZ s br):aN aE 52 [.agg #[I W,I H,s]] h λr h'=>ae h h'∧bP h h' r 1 (ints (lE (W,H,br))):=by
 have N:=rE ok;have c:=AA ok (aa _);rw[Py];refine ag8 λK o=>?_;refine o ?_;refine akW λK o=>?_;refine o ?_;refine akW λK o=>?_;refine aO (c30 h hp W H br s ok L) ?_;rintro _ h1⟨g1,b,rfl,Y,d⟩;have c:uY (dM br) (ir (W,H,br)):=c;obtain⟨n,hn⟩:=aC (dM br);simp only[<-hn]at c N ⊢;obtain⟨D,E⟩:=aC (ir (W,H,br));have q:=Ma (W,H,br);have F:=BF (W,H,br);rw[<-E]at c d;simp only[<-E]at q;simp(disch:=omega);refine o ?_;obtain⟨wb,R,l,oc⟩:=AM d.ov;simp[sl]at l;obtain⟨rfl,rfl⟩:=l;obtain⟨wb,R,l,uc⟩:=AM d.un;simp[sl]at l;obtain⟨rfl,rfl⟩:=l;rw[aw];generalize J:aP aE _ _=PP;simp(disch:=omega);refine aU (λk σ h'=>k<=n∧ae h1 h'∧bP h1 h' (σ 3) 1 (ints (xg (W,H,br) k))∧σ 5=sl (b+1) 0 n 4∧σ 18=sl b 0 n 4∧σ 19=I n∧σ 20=I k) (λk=>n-k) 0 ?_ ?_
 ·exact⟨by omega,ae.refl _,by simpa [xg,ints]using bP.nil,by simp,by simp,by simp,by simp⟩
 ·rintro k σ h'⟨Z,p,b3,z,tU,xe,zU⟩;simp(disch:=omega)[xe,zU];refine aG (λU=>?_) (λX=>?_)
  ·have v:k<n:=by omega
   have ko:k<D.ov.length:=by rw[c.ol];exact v
   have x:k<D.un.length:=by rw[c.ul];exact v
   have c1:=p.aZ (oc k ko);have c2:=p.aZ (uc k x);obtain⟨A,B⟩:=c.od _ (aD ko);obtain⟨y1,y2⟩:=c.ud _ (aD x);have a:=q k;rw[fR ko,fR x]at a;obtain⟨u,hu⟩:=aC (D.ov[k]);obtain⟨w,hw⟩:=aC (D.un[k]);rw[<-hu]at c1 A B a;rw[<-hw]at c2 y1 y2 a;obtain⟨O,P,e,f⟩:=u;obtain⟨S,T,g,j⟩:=w;simp only[dt]at c1 c2 A B y1 y2;have C:=(fQ (i:=2) c2 (by omega)).1;have m:=(fQ (i:=3) c2 (by omega)).1;simp only[gd,jn]at C m;have p1:=Ld A y2;have p2:=Ld B y1;have w1:=cQ (e*j) (e*j);have w2:=cQ (f*g) (f*g);have w3:=cQ (e*j-f*g) (e*j-f*g);have t:u9 (O,P,e,f) (S,T,g,j)=if 0<e*j-f*g then 1 else -1:=rfl;rw[t]at a;simp(disch:=omega)[z,tU,zU,v,c1,C,m,w1,w2,w3];refine aG (λM=>?_) (λM=>?_)
   ·rw[if_pos (by omega)]at a
    try simp(disch:=omega)
    refine oa (aL hp g1) p (by rw[F];omega) b3 λQ G g2 y=>?_;rw[<-a]at y;simp(disch:=omega)[z,tU,xe,zU,wrap64];refine⟨k+1,?_,by omega⟩;and_intros<;>first|assumption|omega|rfl
   ·rw[if_neg (by omega)]at a
    try simp(disch:=omega)
    refine oa (aL hp g1) p (by rw[F];omega) b3 λQ G g2 y=>?_;rw[<-a]at y;simp(disch:=omega)[z,tU,xe,zU,wrap64];refine⟨k+1,?_,by omega⟩;and_intros<;>first|assumption|omega|rfl
  ·have:k=n:=by omega
   subst this;obtain⟨V,m⟩:=b3.nw;rw[m]at b3;simp(disch:=omega);subst J;simp(disch:=omega)[m];exact⟨g1.trans p,by rw[<-hn];exact b3.base g1.le⟩
theorem PG{L:List Int}(hx:∀x∈L,-1000<=x∧x<=1000):∀k,k<=L.length->-(1000*(k:Int))<=(L.take k).sum∧(L.take k).sum<=1000*k
 |0,_=>by simp
 |k+1,h=>by
  have ih:=PG hx k (by omega);have:=hx _ (aD (show k<L.length by omega));rw[aj (by omega),rz];simp only[afj,afY];omega
theorem aCp(h:a9)(v:Value)(L:List Int)(s:Rw h v 1 (ints L))(hl:L.length<=1000)(hx:∀x∈L,-1000<=x∧x<=1000):aN aE 190 [v] h λr h'=>r=I L.sum∧h'=h:=by
 obtain⟨b,o,n,y,rfl,hn,f⟩:=s;have l:n=L.length:=by simpa [ints]using hn
 subst l;simp only[dn]at f;have t:L=[]∨aZ h b o L.length=some (ints L):=f.imp (λe=>aB.1 e) id;refine ag8 λK c=>?_;refine c ?_;refine akW λK c=>?_;refine c ?_;rw[aw];generalize m:aP aE _ _=PP;simp(disch:=omega);refine aU (λk σ h'=>h'=h∧k<=L.length∧σ 3=I (L.take k).sum∧σ 6=sl b o L.length y∧σ 7=I L.length∧σ 8=I k) (λk=>L.length-k) 0 ?_ ?_
 ·exact⟨rfl,by omega,by simp,by simp,by simp,by simp⟩
 ·rintro k σ h'⟨rfl,p,d,u,g,i⟩;simp(disch:=omega)[g,i];refine aG (λw=>?_) (λz=>?_)
  ·have a:k<L.length:=by omega
   have j:=eG t a;have s1:=PG hx k p;have s2:=hx _ (aD a);have q:(L.take (k+1)).sum=(L.take k).sum+L[k]:=by rw[aj a,rz];simp
   have w1:IntKind.i64.wrap ((L.take k).sum+L[k])=(L.take (k+1)).sum:=by rw[wrap64 (by omega) (by omega),q]
   simp(disch:=omega)[d,u,g,i,a,j,w1,wrap64];refine⟨k+1,?_,by omega⟩;and_intros<;>first|assumption|omega|rfl
  ·have:k=L.length:=by omega
   subst this;rw[aK]at d;simp(disch:=omega);subst m;simp(disch:=omega)[d]
noncomputable def lY(X:bW):Int×Int:=if iv X then((lE X).sum,0)else(0,1)
theorem aCd(h:a9)(hp:0<h.length)(v:Value)(X:bW)(d:Vr h bU v X):aN aE 144 [v] h λr h'=>ae h h'∧r=.tuple #[I (lY X).1,I (lY X).2]:=by
 have f:=d;obtain⟨W,H,br⟩:=X;obtain⟨s,rfl,w1,w2,r⟩:=d.dE;refine afq ?_;rw[aw,cy];generalize a:aP aE _ _ 0=K;simp(disch:=omega);subst a;simp only[aq];rw[aw];generalize a:aP aE _ _=K;simp(disch:=omega);refine aO (B7 _ _ h f) ?_;rintro _ h1⟨rfl,rfl⟩;cases b:iv (W,H,br)
 ·have c:lY (W,H,br)=(0,1):=by simp[lY,b]
  rw[c]at a;simp(disch:=omega);subst a;simp(disch:=omega);exact ae.refl _
 have ok:=dK.1 b;have c:lY (W,H,br)=((lE (W,H,br)).sum,0):=by simp[lY,b]
 rw[c]at a;simp(disch:=omega);subst a;simp only[aq];simp(disch:=omega);refine aO (c52 h1 hp W H br s ok r) ?_;rintro i g⟨g2,b2⟩;have l:(lE (W,H,br)).length=dM br:=BF _ _;have e:∀x∈lE (W,H,br),x=1∨x=-1:=KA _ _;have k:=rE ok
 try simp(disch:=omega)
 refine aO (aCp g i (lE (W,H,br)) b2.rw (by omega) λx hx=>by have:=e x hx;omega) ?_;rintro _ j⟨rfl,rfl⟩;simp(disch:=omega);exact g2
end Am

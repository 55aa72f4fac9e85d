/- Contracts of functions. -/
import Derived.Test.YtpgioncclmancaaGreatPK4
set_option linter.unusedVariables false
set_option linter.unusedSimpArgs false
set_option maxHeartbeats 4000000
set_option maxRecDepth 40000
namespace Am
open Go
structure JK (X:de):Prop where
 p:∀t∈X.2.1,0<=t.1∧t.1<X.1.2.2.length
 f:∀t∈X.2.2,0<=t.1∧t.1<X.1.2.2.length
 n:X.2.1.length+X.2.2.length<=50
theorem Si:∀(l:List dF) (br:List Int),(kF l br).isSome=true->∀t∈l,0<=t.1∧t.1<br.length
 |[],_,_=>by simp
 |s::l,br,h=>by
  unfold kF at h;by_cases a:(kC br.length s&&decide (fi br s.1.toNat=s.2.2))=true
  ·rw[if_pos a]at h;have:=Si l _ h;rw[aS]at this;intro t b;rcases bR.1 b with rfl|b
   ·exact(nD.1 (by simp at a;exact a.1)).1
   ·exact this t b
  ·rw[if_neg a]at h;simp at h
theorem Sk:∀(l:List dF) (br:List Int),(ua l br).isSome=true->∀t∈l,0<=t.1∧t.1<br.length
 |[],_,_=>by simp
 |s::l,br,h=>by
  unfold ua at h;by_cases a:(kC br.length s&&decide (fi br s.1.toNat=s.2.1))=true
  ·rw[if_pos a]at h;have:=Sk l _ h;rw[aS]at this;intro t b;rcases bR.1 b with rfl|b
   ·exact(nD.1 (by simp at a;exact a.1)).1
   ·exact this t b
  ·rw[if_neg a]at h;simp at h
theorem JK.of{X:de}(h:gK X=true):JK X:=by unfold gK at h;simp only[aH,decide_eq_true_eq]at h;exact⟨λt a=>Si _ _ h.2.2.1 t (by simpa using a),Sk _ _ h.2.2.2,h.2.1⟩
def rO(X:de):de:=match X.2.2 with
 |[]=>X
 |s::f=>((X.1.1,X.1.2.1,X.1.2.2.set s.1.toNat s.2.2),X.2.1++[s],f)
def jM(X:de):de×Int:=if gK X then(if X.2.2=[]then(oC,6)else(rO X,0))else(oC,1)
theorem Sg(X:de):(rO X).1.2.2.length=X.1.2.2.length∧(rO X).2.1.length+(rO X).2.2.length=X.2.1.length+X.2.2.length:=by
 unfold rO;split
 ·exact⟨rfl,rfl⟩
 ·grind
theorem agj{X Y:de}(h:gK X=true)(b:Y.1.2.2.length=X.1.2.2.length)(hn:Y.2.1.length+Y.2.2.length<=50):hI ba Y<=16777216:=by obtain⟨⟨W,H,br⟩,p,f⟩:=X;obtain⟨⟨d,c,a⟩,p',f'⟩:=Y;obtain⟨ok,hle,_⟩:=nh h;have:=jH ok;simp only at b hn;rw[mz];omega
theorem Wd(X:de):hI ba (jM X).1<=16777216:=by
 unfold jM;split
 ·rename_i h;split
  ·rw[yO];omega
  ·exact agj h (Sg X).1 (by have:=(Sg X).2;have:=(JK.of h).n;simp only at*;omega)
 ·rw[yO];omega
theorem awb(h:a9)(lo b:Nat)(X:de)(rest:List Value)(g:JM h lo b X rest)(d:JK X)(e:X.2.2≠[]):
  aN aE 1 [pt b 0] h λ_ h'=>Mod lo h.length h h'∧JM h' lo b (rO X) []:=by
 obtain⟨⟨W,H,br⟩,p,f'⟩:=X;cases f' with
 |nil=>exact absurd rfl e
 |cons s f'=>
  obtain⟨a,x,y⟩:=s;have c:=d.f (a,x,y) (by simp);have i:=d.n;simp only[az]at c i;exact c1 h lo b W H br p f' a x y rest g c.1 c.2 (by omega) (by omega)
theorem awc(h:a9)(lo b:Nat)(X:de)(rest:List Value)(g:JM h lo b X rest)(d:JK X)(e:X.2.2≠[]):
  aN aE 560 [pt b 0] h λ_ h'=>Mod lo h.length h h'∧JM h' lo b (rO X) []:=by
 obtain⟨⟨W,H,br⟩,p,f'⟩:=X;cases f' with
 |nil=>exact absurd rfl e
 |cons s f'=>
  obtain⟨a,x,y⟩:=s;have c:=d.f (a,x,y) (by simp);have i:=d.n;simp only[az]at c i;exact aDH h lo b W H br p f' a x y rest g c.1 c.2 (by omega) (by omega)
theorem aCZ(h:a9)(hp:0<h.length)(v0:Value)(c:de)(t:Vr h ba v0 c)(o:hI ba c<=1048576):
  aN aE 414 [v0] h λr h'=>ae h h'∧∃w,r=.tuple #[w,I (jM c).2]∧Vo h' h.length h'.length ba w (jM c).1∧hI ba (jM c).1<=16777216:=by
 have g:=Wd c;have wf:=Ge t o;obtain⟨⟨W,H,br⟩,p,f⟩:=c;obtain⟨s,sp,z,rfl,w1,w2,R,S,x⟩:=t.og;refine ag8 λK a=>?_;refine a ?_;rw[aw];generalize a:aP aE _ _=K;simp(disch:=omega);obtain⟨l,m⟩:=aC (h++[⟨[I W,I H,s,sp,z],true⟩]);rw[<-m];have j:ae h l:=⟨_,m⟩;have U:l.length=h.length+1:=by rw[m];simp
 have v:l[h.length]?=some ⟨[I W,I H,s,sp,z],true⟩:=by rw[m];simp
 have u:=BP.of v (R.grow j) (S.grow j) (x.grow j) w1 w2;obtain⟨pb,P,Q,k,B,_⟩:=yz x;rw[cH]at B;subst k;refine aQ (PY l (aL hp j) _ _ u o) ?_;rintro _ h1⟨g1,rfl⟩;have d:=j.trans g1;cases q:gK ((W,H,br),p,f)
 ·have e:jM ((W,H,br),p,f)=(oC,1):=by simp[jM,q]
  subst a;rw[e]at g ⊢;simp(disch:=omega)[cY,cJ,cO,bD];exact⟨d,Vo.j6,g⟩
 simp(disch:=omega);subst a;simp only[aq];rw[aw];generalize a:aP aE _ _=K;have N:cell h1 h.length 4=some (sl pb P f.length Q):=by refine g1.cell ?_;unfold cell;rw[v];rfl
 simp(disch:=omega)[N];refine aG (λb=>?_) (λb=>?_)
 ·have b:f=[]:=aB.1 (by simpa using b);have e:jM ((W,H,br),p,f)=(oC,6):=by unfold jM;rw[q];simp[b]
  subst a;rw[e]at g ⊢;simp(disch:=omega)[cY,cJ,cO,bD];exact⟨d,Vo.j6,g⟩
 have y:f≠[]:=by intro e;subst e;simp at b
 have e:jM ((W,H,br),p,f)=(rO ((W,H,br),p,f),0):=by unfold jM;rw[q];simp[y]
 simp(disch:=omega);subst a;rw[e]at g ⊢;simp only[aq];refine akW λK a=>?_;refine aQ (ZI h1 (aL hp d) _ _ (u.grow g1) o) ?_;rintro _ i A;obtain⟨b1,z1,b2,z2,b3,z3,rfl,n⟩:=JM.own (aL hp d) A wf;have g2:=A.1;simp only at n;have T:storeAt (i++[⟨[I 0,I 0,sl 0 0 0 0,sl 0 0 0 0,sl 0 0 0 0],true⟩]) i.length 0 [I W,I H,sl b1 0 br.length z1,sl b2 0 p.length z2,sl b3 0 f.length z3]=some (i++[⟨[I W,I H,sl b1 0 br.length z1,sl b2 0 p.length z2,sl b3 0 f.length z3],true⟩]):=rH rfl;simp(disch:=omega)[T];refine a ?_;refine akW λK a=>?_;obtain⟨b,k⟩:=aC (i++[⟨[I W,I H,sl b1 0 br.length z1,sl b2 0 p.length z2,sl b3 0 f.length z3],true⟩]);rw[<-k]at n ⊢;have C:ae h1 b:=g2.trans ⟨_,k⟩;refine aQ (awc b h1.length i.length _ [] n (JK.of q) y) ?_;rintro _ L⟨O,F⟩;simp(disch:=omega);refine a ?_;have E:=d.le;obtain⟨cs,M,hl,ov⟩:=F.vo;have G:aZ L i.length 0 5=some cs:=cI M hl.symm;have D:=O.kR C (aa _);simp(disch:=omega)[G,hl,cY,cJ,cO,bD];have J:cs.take 5=cs:=aY (by omega)
 try rw[J]
 exact⟨d.trans D,ov.wide E (aa _),g⟩
theorem aB7(h:a9)(hp:0<h.length)(v0:Value)(d:de)(k:Vr h ba v0 d)(m:hI ba d<=1048576):
  aN aE 123 [v0] h λr h'=>ae h h'∧∃n,r=.tuple #[n,I (jM d).2]∧Vo h' h.length h'.length ba n (jM d).1∧hI ba (jM d).1<=16777216:=by
 have g:=Wd d;have wf:=Ge k m;obtain⟨⟨W,H,br⟩,p,f⟩:=d;obtain⟨s,sp,O,rfl,w1,w2,M,N,F⟩:=k.og;refine ag8 λK a=>?_;refine a ?_;rw[aw];generalize a:aP aE _ _=K;simp(disch:=omega);have t:=k;obtain⟨pb,J,L,j,v,_⟩:=yz F;rw[cH]at v;subst j;refine aQ (PV h hp _ _ t m) ?_;rintro _ h1⟨c,rfl⟩;cases q:gK ((W,H,br),p,f)
 ·have e:jM ((W,H,br),p,f)=(oC,1):=by simp[jM,q]
  subst a;rw[e]at g ⊢;simp(disch:=omega)[cY,cJ,cO,bD];exact⟨c,Vo.j6,g⟩
 simp(disch:=omega);subst a;simp only[aq];rw[aw];generalize a:aP aE _ _=K;simp(disch:=omega);refine aG (λb=>?_) (λb=>?_)
 ·have b:f=[]:=aB.1 (by simpa using b);have e:jM ((W,H,br),p,f)=(oC,6):=by unfold jM;rw[q];simp[b]
  subst a;rw[e]at g ⊢;simp(disch:=omega)[cY,cJ,cO,bD];exact⟨c,Vo.j6,g⟩
 have o:f≠[]:=by intro e;subst e;simp at b
 have e:jM ((W,H,br),p,f)=(rO ((W,H,br),p,f),0):=by unfold jM;rw[q];simp[o]
 simp(disch:=omega);subst a;rw[e]at g ⊢;simp only[aq];refine akW λK a=>?_;refine aQ (TW h1 (aL hp c) _ _ (t.grow c) m) ?_;rintro _ i u;obtain⟨b1,z1,b2,z2,b3,z3,rfl,l⟩:=JM.own (aL hp c) u wf;have g2:=u.1;simp only at l;have G:storeAt (i++[⟨[I 0,I 0,sl 0 0 0 0,sl 0 0 0 0,sl 0 0 0 0],true⟩]) i.length 0 [I W,I H,sl b1 0 br.length z1,sl b2 0 p.length z2,sl b3 0 f.length z3]=some (i++[⟨[I W,I H,sl b1 0 br.length z1,sl b2 0 p.length z2,sl b3 0 f.length z3],true⟩]):=rH rfl;simp(disch:=omega)[G];refine a ?_;refine akW λK a=>?_;obtain⟨b,j⟩:=aC (i++[⟨[I W,I H,sl b1 0 br.length z1,sl b2 0 p.length z2,sl b3 0 f.length z3],true⟩]);rw[<-j]at l ⊢;have w:ae h1 b:=g2.trans ⟨_,j⟩;refine aQ (awb b h1.length i.length _ [] l (JK.of q) o) ?_;rintro _ C⟨E,z⟩;simp(disch:=omega);refine a ?_;have y:=c.le;obtain⟨cs,D,hl,ov⟩:=z.vo;have A:aZ C i.length 0 5=some cs:=cI D hl.symm;have x:=E.kR w (aa _);simp(disch:=omega)[A,hl,cY,cJ,cO,bD];have B:cs.take 5=cs:=aY (by omega)
 try rw[B]
 exact⟨c.trans x,ov.wide y (aa _),g⟩
def xF(h:a9)(lo hi:Nat)(v:Value)(X:de):Prop:=∃b1 z1 b2 z2 b3 z3 rest,
 v=.agg #[I X.1.1,I X.1.2.1,sl b1 0 X.1.2.2.length z1,sl b2 0 X.2.1.length z2,sl b3 0 X.2.2.length z3]∧(z1=1∨b1=0∧X.1.2.2=[])∧
 (X.1.2.2=[]∨h[b1]?=some ⟨ints X.1.2.2,true⟩∧lo<=b1∧b1<hi∧b1≠b2∧b1≠b3)∧
 (X.2.1=[]∧b2=0∨z2=3∧h[b2]?=some ⟨cW X.2.1++rest,true⟩∧lo<=b2∧b2<hi∧b2≠b3)∧
 (X.2.2=[]∧b3=0∨z3=3∧h[b3]?=some ⟨cW X.2.2,true⟩∧lo<=b3∧b3<hi)∧Xw X
theorem JM.voj{h:a9}{lo a:Nat}{X:de}{rest:List Value}(x:JM h lo a X rest):∃cs,h[a]?=some ⟨cs,true⟩∧cs.length=5∧xF h lo h.length (.agg cs.toArray) X:=by obtain⟨b1,z1,b2,z2,b3,z3,g,i,j,f,b,c,d,wf⟩:=x;exact⟨_,g,rfl,b1,z1,b2,z2,b3,z3,rest,rfl,f,b.imp id λe=>⟨e.1,e.2.1,bZ e.1,e.2.2.2⟩,c.imp id λe=>⟨e.1,e.2.1,e.2.2.1,bZ e.2.1,e.2.2.2.2⟩,d.imp id λe=>⟨e.1,e.2.1,e.2.2.1,bZ e.2.1⟩,wf⟩
theorem xF.no{h:a9}{lo hi:Nat}:xF h lo hi (.agg #[I 0,I 0,sl 0 0 0 0,sl 0 0 0 0,sl 0 0 0 0]) oC:=
 ⟨0,0,0,0,0,0,[],rfl,.inr ⟨rfl,rfl⟩,.inl rfl,.inl ⟨rfl,rfl⟩,.inl ⟨rfl,rfl⟩,by constructor<;>simp[oC,bK]⟩
theorem xF.mod{h h':a9}{lo hi tu iY:Nat}{v:Value}{X:de}(x:xF h lo hi v X)(m:Mod tu iY h h')(f:hi<=tu∨iY<=lo):xF h' lo hi v X:=by obtain⟨b1,z1,b2,z2,b3,z3,rest,e,d,a,b,c,wf⟩:=x;exact⟨b1,z1,b2,z2,b3,z3,rest,e,d,a.imp id λe=>⟨by rw[m.2 _ (bZ e.1) (by omega)];exact e.1,e.2⟩,b.imp id λe=>⟨e.1,by rw[m.2 _ (bZ e.2.1) (by omega)];exact e.2.1,e.2.2⟩,c.imp id λe=>⟨e.1,by rw[m.2 _ (bZ e.2.1) (by omega)];exact e.2.1,e.2.2⟩,wf⟩
theorem xF.wide{h:a9}{lo hi tu iY:Nat}{v:Value}{X:de}(x:xF h lo hi v X)(h1:tu<=lo)(f:hi<=iY):xF h tu iY v X:=by obtain⟨b1,z1,b2,z2,b3,z3,rest,e,d,a,b,c,wf⟩:=x;exact⟨b1,z1,b2,z2,b3,z3,rest,e,d,a.imp id λe=>⟨e.1,by omega,by omega,e.2.2.2⟩,b.imp id λe=>⟨e.1,e.2.1,by omega,by omega,e.2.2.2.2⟩,c.imp id λe=>⟨e.1,e.2.1,by omega,by omega⟩,wf⟩
theorem xF.vr{h:a9}{lo hi:Nat}{v:Value}{X:de}(x:xF h lo hi v X):Vr h ba v X:=by
 obtain⟨⟨W,H,br⟩,p,f⟩:=X;obtain⟨b1,z1,b2,z2,b3,z3,rest,rfl,d,c,a,b,w1,w2,g,i,j,y1,y2,k⟩:=x;simp only at d c a b w1 w2 g i j y1 y2 k;refine Vr.qX w1 w2 (Vr.fY d (by rw[cH];simp only;omega) g (c.imp id λe=>cI e.1 (by simp[ints])))
  (Vr.rY (a.elim (λe=>.inr ⟨e.2,e.1⟩) λe=>.inl e.1) (by rw[cH];simp only;omega) i (a.imp (λe=>e.1) λe=>?_))
  (Vr.rY (b.elim (λe=>.inr ⟨e.2,e.1⟩) λe=>.inl e.1) (by rw[cH];simp only;omega) j (b.imp (λe=>e.1) λe=>cI e.2.1 (by rw[gD];omega)))
 rw[fB e.2.1 (by simp[gD];omega)];simp[gD,pE]
def pS(X:de):de:=match X.2.1.reverse with
 |[]=>X
 |s::r=>((X.1.1,X.1.2.1,X.1.2.2.set s.1.toNat s.2.1),r.reverse,s::X.2.2)
def jO(X:de):de×Int:=if gK X then(if X.2.1=[]then(oC,6)else(pS X,0))else(oC,1)
theorem Sx(X:de):(pS X).1.2.2.length=X.1.2.2.length∧(pS X).2.1.length+(pS X).2.2.length=X.2.1.length+X.2.2.length:=by
 unfold pS;split
 ·exact⟨rfl,rfl⟩
 ·rename_i h;have:=congrArg List.length h
  grind
theorem WG(X:de):hI ba (jO X).1<=16777216:=by
 unfold jO;split
 ·rename_i h;split
  ·rw[yO];omega
  ·exact agj h (Sx X).1 (by have:=(Sx X).2;have:=(JK.of h).n;simp only at*;omega)
 ·rw[yO];omega
theorem aws(h:a9)(lo b:Nat)(X:de)(rest:List Value)(g:JM h lo b X rest)(f:JK X)(d:X.2.1≠[]):
  aN aE 2 [pt b 0] h λ_ h'=>Mod lo h.length h h'∧∃rest,JM h' lo b (pS X) rest:=by
 obtain⟨⟨W,H,br⟩,p,f'⟩:=X;simp only at d;unfold pS;simp only;split
 ·rename_i e;exact absurd (by simpa using e) d
 rename_i s r e;obtain rfl:p=r.reverse++[s]:=by rw[<-afA p,e];simp
 obtain⟨a,x,y⟩:=s;have c:=f.p (a,x,y) (by simp);have i:=f.n;simp only[af,az,aF]at c i;exact(c2 h lo b W H br r.reverse f' a x y rest g c.1 c.2 (by omega) (by omega)).mono λ_ _ h=>⟨h.1,_,h.2⟩
theorem awt(h:a9)(lo b:Nat)(X:de)(rest:List Value)(g:JM h lo b X rest)(f:JK X)(d:X.2.1≠[]):
  aN aE 564 [pt b 0] h λ_ h'=>Mod lo h.length h h'∧∃rest,JM h' lo b (pS X) rest:=by
 obtain⟨⟨W,H,br⟩,p,f'⟩:=X;simp only at d;unfold pS;simp only;split
 ·rename_i e;exact absurd (by simpa using e) d
 rename_i s r e;obtain rfl:p=r.reverse++[s]:=by rw[<-afA p,e];simp
 obtain⟨a,x,y⟩:=s;have c:=f.p (a,x,y) (by simp);have i:=f.n;simp only[af,az,aF]at c i;exact(aDI h lo b W H br r.reverse f' a x y rest g c.1 c.2 (by omega) (by omega)).mono λ_ _ h=>⟨h.1,_,h.2⟩
theorem aC2(h:a9)(hp:0<h.length)(v0:Value)(c:de)(t:Vr h ba v0 c)(o:hI ba c<=1048576):
  aN aE 424 [v0] h λr h'=>ae h h'∧∃w,r=.tuple #[w,I (jO c).2]∧xF h' h.length h'.length w (jO c).1∧hI ba (jO c).1<=16777216:=by
 have g:=WG c;have wf:=Ge t o;obtain⟨⟨W,H,br⟩,p,f⟩:=c;obtain⟨s,sp,z,rfl,w1,w2,R,x,S⟩:=t.og;refine ag8 λK a=>?_;refine a ?_;rw[aw];generalize a:aP aE _ _=K;simp(disch:=omega);obtain⟨l,m⟩:=aC (h++[⟨[I W,I H,s,sp,z],true⟩]);rw[<-m];have j:ae h l:=⟨_,m⟩;have U:l.length=h.length+1:=by rw[m];simp
 have v:l[h.length]?=some ⟨[I W,I H,s,sp,z],true⟩:=by rw[m];simp
 have u:=BP.of v (R.grow j) (x.grow j) (S.grow j) w1 w2;obtain⟨pb,P,Q,k,B,_⟩:=yz x;rw[cH]at B;subst k;refine aQ (PY l (aL hp j) _ _ u o) ?_;rintro _ h1⟨g1,rfl⟩;have d:=j.trans g1;cases q:gK ((W,H,br),p,f)
 ·have e:jO ((W,H,br),p,f)=(oC,1):=by simp[jO,q]
  subst a;rw[e]at g ⊢;simp(disch:=omega)[cY,cJ,cO,bD];exact⟨d,xF.no,g⟩
 simp(disch:=omega);subst a;simp only[aq];rw[aw];generalize a:aP aE _ _=K;have N:cell h1 h.length 3=some (sl pb P p.length Q):=by refine g1.cell ?_;unfold cell;rw[v];rfl
 simp(disch:=omega)[N];refine aG (λb=>?_) (λb=>?_)
 ·have b:p=[]:=aB.1 (by simpa using b);have e:jO ((W,H,br),p,f)=(oC,6):=by unfold jO;rw[q];simp[b]
  subst a;rw[e]at g ⊢;simp(disch:=omega)[cY,cJ,cO,bD];exact⟨d,xF.no,g⟩
 have y:p≠[]:=by intro e;subst e;simp at b
 have e:jO ((W,H,br),p,f)=(pS ((W,H,br),p,f),0):=by unfold jO;rw[q];simp[y]
 simp(disch:=omega);subst a;rw[e]at g ⊢;simp only[aq];refine akW λK a=>?_;refine aQ (ZI h1 (aL hp d) _ _ (u.grow g1) o) ?_;rintro _ i A;obtain⟨b1,z1,b2,z2,b3,z3,rfl,n⟩:=JM.own (aL hp d) A wf;have g2:=A.1;simp only at n;have T:storeAt (i++[⟨[I 0,I 0,sl 0 0 0 0,sl 0 0 0 0,sl 0 0 0 0],true⟩]) i.length 0 [I W,I H,sl b1 0 br.length z1,sl b2 0 p.length z2,sl b3 0 f.length z3]=some (i++[⟨[I W,I H,sl b1 0 br.length z1,sl b2 0 p.length z2,sl b3 0 f.length z3],true⟩]):=rH rfl;simp(disch:=omega)[T];refine a ?_;refine akW λK a=>?_;obtain⟨b,k⟩:=aC (i++[⟨[I W,I H,sl b1 0 br.length z1,sl b2 0 p.length z2,sl b3 0 f.length z3],true⟩]);rw[<-k]at n ⊢;have C:ae h1 b:=g2.trans ⟨_,k⟩;refine aQ (awt b h1.length i.length _ [] n (JK.of q) y) ?_;rintro _ L⟨O,rest,F⟩;simp(disch:=omega);refine a ?_;have E:=d.le;obtain⟨cs,M,hl,ov⟩:=F.voj;have G:aZ L i.length 0 5=some cs:=cI M hl.symm;have D:=O.kR C (aa _);simp(disch:=omega)[G,hl,cY,cJ,cO,bD];have J:cs.take 5=cs:=aY (by omega)
 try rw[J]
 exact⟨d.trans D,ov.wide E (aa _),g⟩
theorem aCa(h:a9)(hp:0<h.length)(v0:Value)(d:de)(k:Vr h ba v0 d)(m:hI ba d<=1048576):
  aN aE 134 [v0] h λr h'=>ae h h'∧∃n,r=.tuple #[n,I (jO d).2]∧xF h' h.length h'.length n (jO d).1∧hI ba (jO d).1<=16777216:=by
 have g:=WG d;have wf:=Ge k m;obtain⟨⟨W,H,br⟩,p,f⟩:=d;obtain⟨s,sp,O,rfl,w1,w2,M,F,N⟩:=k.og;refine ag8 λK a=>?_;refine a ?_;rw[aw];generalize a:aP aE _ _=K;simp(disch:=omega);have t:=k;obtain⟨pb,J,L,j,v,_⟩:=yz F;rw[cH]at v;subst j;refine aQ (PV h hp _ _ t m) ?_;rintro _ h1⟨c,rfl⟩;cases q:gK ((W,H,br),p,f)
 ·have e:jO ((W,H,br),p,f)=(oC,1):=by simp[jO,q]
  subst a;rw[e]at g ⊢;simp(disch:=omega)[cY,cJ,cO,bD];exact⟨c,xF.no,g⟩
 simp(disch:=omega);subst a;simp only[aq];rw[aw];generalize a:aP aE _ _=K;simp(disch:=omega);refine aG (λb=>?_) (λb=>?_)
 ·have b:p=[]:=aB.1 (by simpa using b);have e:jO ((W,H,br),p,f)=(oC,6):=by unfold jO;rw[q];simp[b]
  subst a;rw[e]at g ⊢;simp(disch:=omega)[cY,cJ,cO,bD];exact⟨c,xF.no,g⟩
 have o:p≠[]:=by intro e;subst e;simp at b
 have e:jO ((W,H,br),p,f)=(pS ((W,H,br),p,f),0):=by unfold jO;rw[q];simp[o]
 simp(disch:=omega);subst a;rw[e]at g ⊢;simp only[aq];refine akW λK a=>?_;refine aQ (TW h1 (aL hp c) _ _ (t.grow c) m) ?_;rintro _ i u;obtain⟨b1,z1,b2,z2,b3,z3,rfl,l⟩:=JM.own (aL hp c) u wf;have g2:=u.1;simp only at l;have G:storeAt (i++[⟨[I 0,I 0,sl 0 0 0 0,sl 0 0 0 0,sl 0 0 0 0],true⟩]) i.length 0 [I W,I H,sl b1 0 br.length z1,sl b2 0 p.length z2,sl b3 0 f.length z3]=some (i++[⟨[I W,I H,sl b1 0 br.length z1,sl b2 0 p.length z2,sl b3 0 f.length z3],true⟩]):=rH rfl;simp(disch:=omega)[G];refine a ?_;refine akW λK a=>?_;obtain⟨b,j⟩:=aC (i++[⟨[I W,I H,sl b1 0 br.length z1,sl b2 0 p.length z2,sl b3 0 f.length z3],true⟩]);rw[<-j]at l ⊢;have w:ae h1 b:=g2.trans ⟨_,j⟩;refine aQ (aws b h1.length i.length _ [] l (JK.of q) o) ?_;rintro _ C⟨E,rest,z⟩;simp(disch:=omega);refine a ?_;have y:=c.le;obtain⟨cs,D,hl,ov⟩:=z.voj;have A:aZ C i.length 0 5=some cs:=cI D hl.symm;have x:=E.kR w (aa _);simp(disch:=omega)[A,hl,cY,cJ,cO,bD];have B:cs.take 5=cs:=aY (by omega)
 try rw[B]
 exact⟨c.trans x,ov.wide y (aa _),g⟩
theorem KU{l:List Int}{k:Nat}{v:Int}(a:k<l.length):fi (l.set k v) k=v:=by rw[ng (by simpa using a)];simp
theorem Hi{l:List Int}{k:Nat}(a:k<l.length):l.set k (fi l k)=l:=by rw[ng a,List.set_getElem_self]
theorem Qo{W H:Int}{br:List Int}{k:Nat}{v:Int}(h:iv (W,H,br)=true)(a:0<=v∧v<=2):iv (W,H,br.set k v)=true:=by
 rw[dK]at h ⊢;refine⟨h.w,h.h,by simpa using h.n,λx hx=>?_⟩;rcases bJ hx with hx|rfl
 ·exact h.b x hx
 ·exact a
theorem oT{X:de}:gK X=true↔iv X.1=true∧X.2.1.length+X.2.2.length<=50∧(∃c,kF X.2.1.reverse X.1.2.2=some c)∧∃c,ua X.2.2 X.1.2.2=some c:=by unfold gK;simp only[aH,decide_eq_true_eq,jQ]
theorem Kw{s:dF}{l:List dF}{br c:List Int}(h:kF (s::l) br=some c):kC br.length s=true∧fi br s.1.toNat=s.2.2∧kF l (br.set s.1.toNat s.2.1)=some c:=by
 simp only[kF]at h
 grind
theorem agN{s:dF}{l:List dF}{br c:List Int}(h:ua (s::l) br=some c):kC br.length s=true∧fi br s.1.toNat=s.2.1∧ua l (br.set s.1.toNat s.2.2)=some c:=by
 simp only[ua]at h
 grind
theorem QA{s:dF}{l:List dF}{br c:List Int}(h1:kC br.length s=true)(a:fi br s.1.toNat=s.2.2)(h:kF l (br.set s.1.toNat s.2.1)=some c):kF (s::l) br=some c:=by simp only[kF,h1,a,decide_true,sw,if_true];exact h
theorem agO{s:dF}{l:List dF}{br c:List Int}(h1:kC br.length s=true)(a:fi br s.1.toNat=s.2.1)(h:ua l (br.set s.1.toNat s.2.2)=some c):ua (s::l) br=some c:=by simp only[ua,h1,a,decide_true,sw,if_true];exact h
theorem QE{n:Nat}{s:dF}(h:kC n s=true):s.1.toNat<n∧(0<=s.2.1∧s.2.1<=2)∧(0<=s.2.2∧s.2.2<=2):=by have:=nD.1 h;omega
theorem WE{W H:Int}{br:List Int}{p f:List dF}{s:dF}(h:gK ((W,H,br),p++[s],f)=true):
  pS ((W,H,br),p++[s],f)=((W,H,br.set s.1.toNat s.2.1),p,s::f)∧gK ((W,H,br.set s.1.toNat s.2.1),p,s::f)=true∧
  rO ((W,H,br.set s.1.toNat s.2.1),p,s::f)=((W,H,br),p++[s],f)∧ij ((W,H,br.set s.1.toNat s.2.1),p,s::f)=ij ((W,H,br),p++[s],f):=by
 obtain⟨h1,j,⟨c,a⟩,⟨d,g⟩⟩:=oT.1 h;simp only[mr,kT,lq,df,lM,af,az,aF]at h1 j a g;obtain⟨g1,g2,e⟩:=Kw a;obtain⟨b,i,k⟩:=QE g1;have back:(br.set s.1.toNat s.2.1).set s.1.toNat s.2.2=br:=by rw[iZ,<-g2,Hi b]
 refine⟨by simp[pS],oT.2 ⟨Qo h1 i,by simp only[az];omega,⟨c,e⟩,d,?_⟩,by simp[rO,back],?_⟩
 ·exact agO (by simpa using g1) (KU b) (by rw[back];exact g)
 ·simp only[ij,mr,kT,lq,df,lM,a,e]
theorem ajX{W H:Int}{br:List Int}{p f:List dF}{s:dF}(h:gK ((W,H,br),p,s::f)=true):
  rO ((W,H,br),p,s::f)=((W,H,br.set s.1.toNat s.2.2),p++[s],f)∧gK ((W,H,br.set s.1.toNat s.2.2),p++[s],f)=true∧
  pS ((W,H,br.set s.1.toNat s.2.2),p++[s],f)=((W,H,br),p,s::f)∧ij ((W,H,br.set s.1.toNat s.2.2),p++[s],f)=ij ((W,H,br),p,s::f):=by
 obtain⟨h1,k,⟨c,a⟩,⟨d,e⟩⟩:=oT.1 h;simp only[az]at h1 k a e;obtain⟨g1,g2,j⟩:=agN e;obtain⟨b,l,i⟩:=QE g1;have back:(br.set s.1.toNat s.2.2).set s.1.toNat s.2.1=br:=by rw[iZ,<-g2,Hi b]
 have g:kF (s::p.reverse) (br.set s.1.toNat s.2.2)=some c:=QA (by simpa using g1) (KU b) (by rw[back];exact a);refine⟨by simp[rO],oT.2 ⟨Qo h1 i,by simp only[af,az,aF];omega,⟨c,?_⟩,d,j⟩,by simp[pS,back],?_⟩
 ·simpa using g
 ·simp only[ij,mr,kT,lq,df,lM,a,g]
theorem ae0{W H:Int}{br:List Int}{p f:List dF}{k kind:Int}(h:gK ((W,H,br),p,f)=true)(e:mM ((W,H,br),p,f) k kind=0):
  gK (BQ ((W,H,br),p,f) k kind)=true∧(pS (BQ ((W,H,br),p,f) k kind)).1=(W,H,br):=by
 obtain⟨h1,o,⟨c,m⟩,⟨d,q⟩⟩:=oT.1 h;unfold mM at e;split at e
 rotate_left
 ·simp at e
 rename_i i;simp only[aH,fM,ajH]at i;split at e
 ·simp at e
 rename_i j;split at e
 ·simp at e
 rename_i hp;simp only at i hp j h1 o m q;obtain⟨a,rfl⟩:=bc i.1.1;have g:a<br.length:=by omega
 rw[aM]at j;have r:0<=fi br a∧fi br a<=2:=by rw[ng g];exact(dK.1 h1).b _ (aD g)
 have t:kC br.length ((a:Int),fi br a,kind)=true:=nD.2 ⟨⟨by simp,by simpa using g⟩,r,i.2,j⟩;have n:gK ((W,H,br.set a kind),p++[((a:Int),fi br a,kind)],[])=true:=by refine oT.2 ⟨Qo h1 i.2,by simp only[af,az,aF];omega,⟨c,?_⟩,_,rfl⟩;have:=QA (s:=((a:Int),fi br a,kind)) (l:=p.reverse) (br:=br.set a kind) (c:=c) (by simpa using t) (KU g) (by simp only[aM];rw[iZ,Hi g];exact m);simpa using this
 simp only[BQ,aM];refine⟨n,?_⟩;rw[(WE n).1];simp only[aM];rw[iZ,Hi g]
theorem anL{X:de}(h:gK X=true)(a:X.2.1≠[]):gK (pS X)=true∧rO (pS X)=X∧ij (pS X)=ij X∧(pS X).2.2≠[]∧(pS X).1.1=X.1.1∧(pS X).1.2.1=X.1.2.1:=by
 obtain⟨⟨W,H,br⟩,p,f⟩:=X;simp only at a;obtain⟨p',s,rfl⟩:∃p' s,p=p'++[s]:=by
  rcases mn p with e|⟨p',s,e⟩
  ·exact absurd e a
  ·grind
 obtain⟨e,h1,b,c⟩:=WE h
 grind
theorem anz{X:de}(h:gK X=true)(a:X.2.2≠[]):gK (rO X)=true∧pS (rO X)=X∧ij (rO X)=ij X∧(rO X).2.1≠[]∧(rO X).1.1=X.1.1∧(rO X).1.2.1=X.1.2.1:=by
 obtain⟨⟨W,H,br⟩,p,f⟩:=X;cases f with
 |nil=>exact absurd rfl a
 |cons s f=>
  obtain⟨e,h1,b,c⟩:=ajX h
  simp_all
theorem awF{n:Int}(h1:0<=n)(a:n<18446744073709551616):IntKind.u64.wrap n=n:=DG (M:=18446744073709551616) rfl (by decide) h1 a
theorem Zy(h:a9)(a b:Int):aN aE 433 [I a,I b] h λr h'=>r=I (if b<a then a else b)∧h'=h:=by
 refine akV ?_;refine aG (λc=>?_) (λc=>?_)
 ·rw[if_pos (by omega)];simp(disch:=omega)
 ·rw[if_neg (by omega)];simp(disch:=omega)
theorem fg.row{X:bW}(ok:fg X):X.2.2.length=jW X.1.toNat (2*X.2.1.toNat):=by have h1:=ok.w;have b:=ok.h;have a:=ok.n;have:=M4 (W:=X.1.toNat) (by omega) (H:=X.2.1.toNat) (by omega) (by omega) (by omega);rw[Int.toNat_of_nonneg (by omega),Int.toNat_of_nonneg (by omega)]at this;unfold inner at a;omega
theorem fg.hI{X:bW}(ok:fg X):X.2.2.length<=128:=by have h1:=ok.w;have a:=ok.h;rw[ok.row];exact Ei (by omega) (by omega)
section
variable {α : Type} (f R : α -> α) (seg : α -> Nat) (V : α -> Prop) (N : Nat)
def dP(f:α->α):Nat->α->α
 |0,w=>w
 |k+1,w=>f (dP f k w)
theorem Ck{f:α->α}(i j:Nat)(w:α):dP f (i+j) w=dP f j (dP f i w):=by
 induction j with
 |zero=>rfl
 |succ j ih=>rw[<-dR];simp only[dP];rw[ih]
structure lH:Prop where
 vf:∀w,V w->V (f w)
 vr:∀w,V w->V (R w)
 rr:∀w,R (R w)=w
 fr:∀w,V w->f (R (f w))=R w
 ne:∀w,V w->f w≠R w
 nr:∀w,V w->R w≠w
 sg:∀w v,V w->V v->(seg w=seg v↔w=v∨w=R v)
 lt:∀w,V w->seg w<N
variable {f R seg V N}
theorem lH.vi(a:lH f R seg V N){w:α}(h:V w):∀k,V (dP f k w)
 |0=>h
 |k+1=>a.vf _ (a.vi h k)
theorem lH.inj(a:lH f R seg V N){w v:α}(h1:V w)(d:V v)(e:f w=f v):w=v:=by have b:=a.fr w h1;have c:=a.fr v d;rw[e,c]at b;rw[<-a.rr w,<-b,a.rr]
theorem lH.back(a:lH f R seg V N){w:α}(h:V w):∀k,dP f k (R (dP f k w))=R w
 |0=>rfl
 |k+1=>by
  have e:=a.fr _ (a.vi h k);have:=a.back h k;rw[show k+1=1+k by omega,Ck,pC];simp only[dP];rw[e];exact this
theorem lH.adC(a:lH f R seg V N){u v:α}(h:V u)(h':V v):∀k,dP f k u=dP f k v->u=v
 |0,e=>e
 |k+1,e=>a.adC h h' k (a.inj (a.vi h k) (a.vi h' k) e)
theorem lH.never(a:lH f R seg V N){w:α}(h:V w)(m:Nat):dP f m w≠R w:=by
 intro e;rcases Nat.mod_two_eq_zero_or_one m with hm|hm
 ·obtain⟨k,rfl⟩:∃k,m=k+k:=⟨m/2,by omega⟩;rw[Ck]at e;have b:=a.back h k;rw[<-e]at b;have:=a.adC (a.vr _ (a.vi h k)) (a.vi h k) k b;exact a.nr _ (a.vi h k) this
 ·obtain⟨k,rfl⟩:∃k,m=k+1+k:=⟨m/2,by omega⟩;rw[Ck]at e;have b:=a.back h k;rw[<-e]at b;have:=a.adC (a.vr _ (a.vi h k)) (a.vi h (k+1)) k b;exact a.ne _ (a.vi h k) this.symm
theorem lH.same(a:lH f R seg V N){w:α}(h:V w){i j:Nat}(c:i<=j)(e:seg (dP f i w)=seg (dP f j w)):dP f (j-i) w=w:=by
 have hi:=a.vi h i;have b:=a.vi h j;rcases(a.sg _ _ b hi).1 e.symm with q|q
 ·have:dP f i (dP f (j-i) w)=dP f i w:=by rw[<-Ck,show j-i+i=j by omega,q]
  exact a.adC (a.vi h (j-i)) h i this
 ·exfalso;refine a.never hi (j-i) ?_;rw[<-Ck,show i+(j-i)=j by omega];exact q
theorem V2:∀(n:Nat) (g:Nat->Nat),(∀i,i<=n->g i<n)->∃i j,i<j∧j<=n∧g i=g j
 |0,g,a=>by have:=a 0 (aa _);omega
 |n+1,g,a=>by
  by_cases q:∃i,i<=n∧g i=g (n+1)
  ·obtain⟨i,h1,c⟩:=q;exact⟨i,n+1,by omega,aa _,c⟩
  ·have k:=a (n+1) (aa _);have b:∀i,i<=n->g i≠g (n+1):=λi hi e=>q ⟨i,hi,e⟩;obtain⟨i,j,h1,c,d⟩:=V2 n (λi=>if g (n+1)<g i then g i-1 else g i) (λi hi=>by
    have:=b i hi;have:=a i (by omega);split<;>omega)
   have f:=b i (by omega);have h:=b j (by omega);refine⟨i,j,h1,by omega,?_⟩;split at d<;>split at d<;>omega
theorem least{P:Nat->Prop}:∀n,P n->∃m,m<=n∧P m∧∀k,k<m->¬P k:=by
 intro n
 induction n using Nat.strongRecOn with
 |ind n ih=>
  grind
theorem lH.period(a:lH f R seg V N){w:α}(h:V w):∃n,0<n∧n<=N∧dP f n w=w:=by obtain⟨i,j,h1,c,b⟩:=V2 N (λi=>seg (dP f i w)) λi _=>a.lt _ (a.vi h i);exact⟨j-i,by omega,by omega,a.same h (by omega) b⟩
open Classical in
noncomputable def im(f:α->α)(w:α):Nat:=if h:∃n,(0<n∧dP f n w=w)∧∀k,k<n->¬(0<k∧dP f k w=w)then Classical.choose h else 0
theorem lH.Bz(a:lH f R seg V N){w:α}(h:V w):0<im f w∧im f w<=N∧dP f (im f w) w=w∧∀j,0<j->j<im f w->dP f j w≠w:=by
 obtain⟨n,h1,g,b⟩:=a.period h;obtain⟨m,i,c,d⟩:=least (P:=λn=>0<n∧dP f n w=w) n ⟨h1,b⟩;have e:∃n,(0<n∧dP f n w=w)∧∀k,k<n->¬(0<k∧dP f k w=w):=⟨m,c,d⟩;unfold im;rw[dif_pos e]
 grind
theorem lH.aDT(a:lH f R seg V N){w:α}(h:V w){i j:Nat}(b:i<j)(c:j<im f w):seg (dP f i w)≠seg (dP f j w):=by intro e;exact(a.Bz h).2.2.2 (j-i) (by omega) (by omega) (a.same h (by omega) e)
def oY(f:α->α)(seg:α->Nat)(w:α)(c:Int)(o:List Int):Nat->List Int
 |0=>o
 |k+1=>(oY f seg w c o k).set (seg (dP f k w)) c
theorem AJ{w:α}{c:Int}{o:List Int}:∀k,(oY f seg w c o k).length=o.length
 |0=>rfl
 |k+1=>by simp[oY,AJ k]
theorem yu{w:α}{c:Int}{o:List Int}{s:Nat}(g:s<o.length):∀k,fi (oY f seg w c o k) s=if ∃j,j<k∧seg (dP f j w)=s then c else fi o s
 |0=>by simp[oY]
 |k+1=>by
  simp only[oY];have ih:=yu (w:=w) (c:=c) g k;have hl:=AJ (f:=f) (seg:=seg) (w:=w) (c:=c) (o:=o) k;by_cases e:seg (dP f k w)=s
  ·rw[if_pos ⟨k,by omega,e⟩];unfold fi;rw[aA,e,dr (by omega)];rfl
  ·have:fi ((oY f seg w c o k).set (seg (dP f k w)) c) s=fi (oY f seg w c o k) s:=by unfold fi;rw[aA,ag e,<-aA]
   rw[this,ih];by_cases q:∃j,j<k∧seg (dP f j w)=s
   ·obtain⟨j,a,b⟩:=q;rw[if_pos ⟨j,a,b⟩,if_pos ⟨j,by omega,b⟩]
   ·rw[if_neg q,if_neg];rintro⟨j,a,b⟩;by_cases d:j=k
    ·exact e (d▸b)
    ·exact q ⟨j,by omega,b⟩
def CV(f:α->α)(seg:α->Nat)(V:α->Prop)(o:List Int):Prop:=∀w,V w->(0<=fi o (seg w)↔0<=fi o (seg (f w)))
theorem CV.it(b:∀w,V w->V (f w)){o:List Int}(a:CV f seg V o){w:α}(h:V w):∀k,V (dP f k w)∧(0<=fi o (seg w)↔0<=fi o (seg (dP f k w)))
 |0=>⟨h,Iff.rfl⟩
 |k+1=>by
  obtain⟨h1,c⟩:=CV.it b a h k;exact⟨b _ h1,c.trans (a _ h1)⟩
theorem lH.closed(a:lH f R seg V N){w:α}(h:V w){c:Int}(hc:0<=c){o:List Int}(ho:o.length=N)(cl:CV f seg V o):CV f seg V (oY f seg w c o (im f w)):=by
 obtain⟨p1,p2,p3,p4⟩:=a.Bz h
 intro v hv
 rw[yu (by rw[ho];exact a.lt v hv),yu (by rw[ho];exact a.lt _ (a.vf v hv))]
 have key:(∃j,j<im f w∧seg (dP f j w)=seg v)↔∃j,j<im f w∧seg (dP f j w)=seg (f v):=by
  constructor
  ·rintro⟨j,h1,h2⟩
   rcases(a.sg _ _ (a.vi h j) hv).1 h2 with q|q
   ·by_cases e:j+1<im f w
    ·exact⟨j+1,e,by simp only[dP];rw[q]⟩
    ·refine⟨0,p1,?_⟩
     have:dP f (j+1) w=w:=by rw[show j+1=im f w by omega];exact p3
     simp only[dP]at this ⊢
     rw[<-q,this]
   · -- f^j w = R v, so R (f v) = f^(j-1) w
    have hb:f (R (f v))=R v:=a.fr v hv
    by_cases e:j=0
    ·subst e
     refine⟨im f w-1,by omega,(a.sg _ _ (a.vi h _) (a.vf v hv)).2 (.inr ?_)⟩
     refine a.inj (a.vi h _) (a.vr _ (a.vf v hv)) ?_
     rw[hb,<-q]
     have:dP f (im f w-1+1) w=w:=by rw[show im f w-1+1=im f w by omega];exact p3
     exact this
    ·refine⟨j-1,by omega,(a.sg _ _ (a.vi h _) (a.vf v hv)).2 (.inr ?_)⟩
     refine a.inj (a.vi h _) (a.vr _ (a.vf v hv)) ?_
     rw[hb,<-q]
     show dP f (j-1+1) w=_
     rw[show j-1+1=j by omega]
  ·rintro⟨j,h1,h2⟩
   rcases(a.sg _ _ (a.vi h j) (a.vf v hv)).1 h2 with q|q
   ·by_cases e:j=0
    ·subst e
     refine⟨im f w-1,by omega,(a.sg _ _ (a.vi h _) hv).2 (.inl ?_)⟩
     refine a.inj (a.vi h _) hv ?_
     rw[<-q]
     show dP f (im f w-1+1) w=_
     rw[show im f w-1+1=im f w by omega];exact p3
    ·refine⟨j-1,by omega,(a.sg _ _ (a.vi h _) hv).2 (.inl ?_)⟩
     refine a.inj (a.vi h _) hv ?_
     rw[<-q]
     show dP f (j-1+1) w=_
     rw[show j-1+1=j by omega]
   · -- f^j w = R (f v), so f^(j+1) w = R v
    have hb:f (R (f v))=R v:=a.fr v hv
    by_cases e:j+1<im f w
    ·exact⟨j+1,e,(a.sg _ _ (a.vi h _) hv).2 (.inr (by simp only[dP];rw[q,hb]))⟩
    ·refine⟨0,p1,(a.sg _ _ h hv).2 (.inr ?_)⟩
     have:dP f (j+1) w=w:=by rw[show j+1=im f w by omega];exact p3
     simp only[dP]at this
     rw[q,hb]at this
     exact this.symm
 by_cases q:∃j,j<im f w∧seg (dP f j w)=seg v
 ·rw[if_pos q,if_pos (key.1 q)]
 ·rw[if_neg q,if_neg (λx=>q (key.2 x))];exact cl v hv
noncomputable def dg(f:α->α)(seg:α->Nat)(wk:Nat->α)(N:Nat):Nat->List Int×Nat
 |0=>(List.replicate N (-1),0)
 |k+1=>if 0<=fi (dg f seg wk N k).1 k then dg f seg wk N k else(oY f seg (wk k) (dg f seg wk N k).2 (dg f seg wk N k).1 (im f (wk k)),(dg f seg wk N k).2+1)
theorem lH.st(a:lH f R seg V N){wk:Nat->α}(hw:∀k,k<N->V (wk k)):∀k,k<=N->(dg f seg wk N k).1.length=N∧CV f seg V (dg f seg wk N k).1∧(dg f seg wk N k).2<=k
 |0,_=>by
  refine⟨by simp[dg],?_,by simp[dg]⟩;intro w hw;have h1:=a.lt w hw;have b:=a.lt _ (a.vf w hw);simp[dg,fi,aA,jZ,h1,b]
 |k+1,d=>by
  obtain⟨h1,b,c⟩:=lH.st a hw k (by omega);simp only[dg];split
  ·exact⟨h1,b,by omega⟩
  ·exact⟨by rw[AJ,h1],a.closed (hw k (by omega)) (by omega) h1 b,by simp only;omega⟩
theorem lH.run(a:lH f R seg V N){w:α}(h:V w){c:Int}(d:0<=c){o:List Int}(b:o.length=N)(cl:CV f seg V o)(hn:fi o (seg w)<0):
  (∀k,k<im f w->fi (oY f seg w c o k) (seg (dP f k w))<0)∧0<=fi (oY f seg w c o (im f w)) (seg (dP f (im f w) w)):=by
 obtain⟨m,p,n,q⟩:=a.Bz h;constructor
 ·intro k i;have l:=a.vi h k;rw[yu (by rw[b];exact a.lt _ l),if_neg]
  ·have:=(CV.it a.vf cl h k).2;omega
  ·rintro⟨j,g,e⟩;exact a.aDT h g i e
 ·rw[n,yu (by rw[b];exact a.lt _ h),if_pos ⟨0,m,rfl⟩];exact d
end
abbrev Wk:=Int×Int×Int×Int
def gr(W H:Nat)(x y:Int):Prop:=x=0∨x=2*W∨y=0∨y=2*H
instance (W H:Nat)(x y:Int):Decidable (gr W H x y):=by unfold gr;infer_instance
def fZ(W H:Nat)(br:List Int)(x y:Int):Int:=if gr W H x y then 0 else fi br (jd W x.toNat y.toNat)
def fK(W H:Nat)(br:List Int)(w:Wk):Wk:=
 (w.1+w.2.2.1,w.2.1+w.2.2.2,
  if w.1+w.2.2.1=0∨w.1+w.2.2.1=2*W∨fZ W H br (w.1+w.2.2.1) (w.2.1+w.2.2.2)=1 then -w.2.2.1 else w.2.2.1,
  if w.2.1+w.2.2.2=0∨w.2.1+w.2.2.2=2*H∨fZ W H br (w.1+w.2.2.1) (w.2.1+w.2.2.2)=2 then -w.2.2.2 else w.2.2.2)
def zZ(w:Wk):Wk:=(w.1+w.2.2.1,w.2.1+w.2.2.2,-w.2.2.1,-w.2.2.2)
structure sj (W H:Nat) (w:Wk):Prop where
 dx:w.2.2.1=1∨w.2.2.1=-1
 dy:w.2.2.2=1∨w.2.2.2=-1
 x:0<=w.1∧w.1<=2*W
 y:0<=w.2.1∧w.2.1<=2*H
 nx:0<=w.1+w.2.2.1∧w.1+w.2.2.1<=2*W
 ny:0<=w.2.1+w.2.2.2∧w.2.1+w.2.2.2<=2*H
 p:(w.1+w.2.1)%2=1
def rW(a b:Int):Int:=if a<=b then a else b
def kY(H:Nat)(w:Wk):Nat:=(rW w.1 (w.1+w.2.2.1)*(2*H)+rW w.2.1 (w.2.1+w.2.2.2)).toNat
theorem rX{x d:Int}(h:d=1∨d=-1):rW x (x+d)=if d=1 then x else x-1:=by
 unfold rW;rcases h with rfl|rfl
 ·omega
 ·omega
theorem anm{H a b c d:Int}(h:0<H)(f:0<=b∧b<H)(g:0<=d∧d<H)(e:a*H+b=c*H+d):a=c∧b=d:=by
 have h1:(a*H+b)/H=a:=by rw[Int.add_comm,pn _ _ (by omega),oJ f.1 f.2];omega
 have i:(c*H+d)/H=c:=by rw[Int.add_comm,pn _ _ (by omega),oJ g.1 g.2];omega
 grind
theorem Hh{W H:Nat}{w:Wk}(h:sj W H w):(0<=rW w.1 (w.1+w.2.2.1)∧rW w.1 (w.1+w.2.2.1)<=2*W-1)∧(0<=rW w.2.1 (w.2.1+w.2.2.2)∧rW w.2.1 (w.2.1+w.2.2.2)<=2*H-1):=by obtain⟨dx,dy,x,y,nx,ny,p⟩:=h;rw[rX dx,rX dy];omega
theorem yy{W H:Nat}{w:Wk}(h:sj W H w):(kY H w:Int)=rW w.1 (w.1+w.2.2.1)*(2*H)+rW w.2.1 (w.2.1+w.2.2.2):=by obtain⟨⟨a,_⟩,b,_⟩:=Hh h;have:0<=rW w.1 (w.1+w.2.2.1)*(2*(H:Int)):=gq a (by omega);unfold kY;omega
theorem awh{W H:Nat}{w:Wk}(h:sj W H w):kY H w<4*W*H:=by
 obtain⟨⟨a,a'⟩,b,b'⟩:=Hh h;have c:=yy h;have h1:rW w.1 (w.1+w.2.2.1)*(2*(H:Int))<=(2*W-1)*(2*H):=lV a' (by omega)
 grind
theorem wG{W H:Nat}{br:List Int}{x y:Int}(h:gr W H x y):fZ W H br x y=0:=if_pos h
theorem xR{W H:Nat}{br:List Int}(w1:1<=W)(h1:1<=H):lH (fK W H br) zZ (kY H) (sj W H) (4*W*H) where
 vf:=by
  rintro⟨x,y,dx,dy⟩⟨i,g,hx,hy,f,j,hp⟩;simp only at*;have c1:∀k:Int,(if x+dx=0∨x+dx=2*(W:Int)∨k=1 then -dx else dx)=1∨(if x+dx=0∨x+dx=2*(W:Int)∨k=1 then -dx else dx)=-1:=by intro k;split<;>omega
  have c2:∀k:Int,(if y+dy=0∨y+dy=2*(H:Int)∨k=2 then -dy else dy)=1∨(if y+dy=0∨y+dy=2*(H:Int)∨k=2 then -dy else dy)=-1:=by intro k;split<;>omega
  refine⟨c1 _,c2 _,f,j,?_,?_,by simp only[fK];omega⟩
  ·simp only[fK];split<;>omega
  ·simp only[fK];split<;>omega
 vr:=by rintro⟨x,y,dx,dy⟩⟨i,g,hx,hy,f,j,hp⟩;simp only at*;refine⟨?_,?_,f,j,?_,?_,?_⟩<;>simp only[zZ]<;>omega
 rr:=by rintro⟨x,y,dx,dy⟩;simp only[zZ,cF];omega
 fr:=by
  rintro⟨x,y,dx,dy⟩⟨i,g,hx,hy,f,j,hp⟩;simp only at*;have l:∀a:Int,x+dx+a+-a=x+dx:=by intro a;omega
  have m:∀a:Int,y+dy+a+-a=y+dy:=by intro a;omega
  simp only[fK,zZ,l,m,cF,true_and];constructor
  ·split<;>simp
  ·split<;>simp
 ne:=by
  rintro⟨x,y,dx,dy⟩⟨i,g,hx,hy,f,j,hp⟩ e;simp only[fK,zZ,cF,true_and]at*;obtain⟨l,m⟩:=e;have z:=wG (W:=W) (H:=H) (br:=br) (x:=x+dx) (y:=y+dy);unfold gr at z;split at l
  ·split at m
   ·rename_i q1 q2;have:¬(x+dx=0∨x+dx=2*(W:Int)∨y+dy=0∨y+dy=2*(H:Int))∨fZ W H br (x+dx) (y+dy)=0:=by
     by_cases q:x+dx=0∨x+dx=2*(W:Int)∨y+dy=0∨y+dy=2*(H:Int)
     ·exact .inr (z q)
     ·exact .inl q
    omega
   ·omega
  ·omega
 nr:=by rintro⟨x,y,dx,dy⟩⟨i,g,hx,hy,f,j,hp⟩ e;simp only[zZ,cF]at*;omega
 sg:=by
  intro w v hw u;have r:=yy hw;have cv:=yy u;obtain⟨⟨a,a'⟩,b,b'⟩:=Hh hw;obtain⟨⟨c,D⟩,d,E⟩:=Hh u;constructor
  ·intro e;rw[e,cv]at r;obtain⟨l,m⟩:=anm (H:=2*(H:Int)) (by omega) ⟨d,by omega⟩ ⟨b,by omega⟩ r;obtain⟨x,y,dx,dy⟩:=w;obtain⟨x',y',s,t⟩:=v;obtain⟨i,g,hx,hy,f,j,hp⟩:=hw;obtain⟨n,o,G,C,A,B,F⟩:=u;simp only at*;rw[rX i,rX n]at l;rw[rX g,rX o]at m;simp only[zZ,cF];rcases i with rfl|rfl<;>rcases g with rfl|rfl<;>rcases n with rfl|rfl<;>rcases o with rfl|rfl<;>simp at l m ⊢<;>omega
  ·rintro(e|e)
   ·rw[e]
   ·have:(kY H w:Int)=kY H v:=by
     rw[r,cv,e];obtain⟨x',y',s,t⟩:=v;simp only[zZ];have q1:∀p d:Int,rW (p+d) (p+d+-d)=rW p (p+d):=by intro p d;unfold rW;rw[show p+d+-d=p by omega];split<;>split<;>omega
     rw[q1,q1]
    omega
 lt:=λw h=>awh h
def qw(H:Nat)(k:Nat):Wk:=if(k/(2*H)+k%(2*H))%2=1 then((k/(2*H):Nat),(k%(2*H):Nat),1,1)else((k/(2*H):Nat),(k%(2*H):Nat)+1,1,-1)
theorem Dr{W H k:Nat}(h1:1<=H)(c:k<4*W*H):sj W H (qw H k):=by
 have a:k%(2*H)<2*H:=kL _ (by omega);have b:k/(2*H)<2*W:=by
  rw[Nat.div_lt_iff_lt_mul (by omega)]
  grind
 unfold qw;generalize k/(2*H)=q at*;generalize k%(2*H)=r at*;split<;>constructor<;>simp only<;>first|omega|simp
theorem Hr{W H k:Nat}(h1:1<=H)(b:k<4*W*H):kY H (qw H k)=k:=by
 have a:=yy (Dr (W:=W) h1 b);have d:=afD k (2*H);have c:((2*H*(k/(2*H)):Nat):Int)=((k/(2*H):Nat):Int)*(2*H):=by rw[pE];simp
 have:(kY H (qw H k):Int)=k:=by
  rw[a];unfold qw rW
  grind
 omega
noncomputable def XG(X:bW):List Int×Nat:=dg (fK X.1.toNat X.2.1.toNat X.2.2) (kY X.2.1.toNat) (qw X.2.1.toNat) (4*X.1.toNat*X.2.1.toNat) (4*X.1.toNat*X.2.1.toNat)
noncomputable def bC(X:bW):Nat:=(XG X).2
def small(c:UInt8):Bool:=decide ((97:Int)<=c.toNat)&&decide ((c.toNat:Int)<=122)
def nE(X:bW):List UInt8:=bE X.1++([120]++(bE X.2.1++([58]++X.2.2.map mW)))
def tg(W:Int):UInt8:=UInt8.ofNat (48+W.toNat)
theorem Ev{W:Int}(h:1<=W∧W<=8):bE W=[tg W]:=by
 unfold bE tg;rw[if_neg (by omega),if_neg (by omega),HS (by omega),show W.natAbs/10=0 by omega,Az];simp
 congr 1
 omega
theorem uv{W:Int}(h:1<=W∧W<=8):(tg W).toNat=48+W.toNat:=by unfold tg;rw[ou];omega
theorem yP{X:bW}(ok:fg X):nE X=tg X.1::120::tg X.2.1::58::X.2.2.map mW:=by unfold nE;rw[Ev ok.w,Ev ok.h];rfl
theorem afX{b:Int}(h:0<=b∧b<=2):lT (mW b)=b:=by
 have:b=0∨b=1∨b=2:=by omega
 rcases this with rfl|rfl|rfl<;>decide
theorem Bt:∀{l:List Int},(∀x∈l,0<=x∧x<=2)->(l.map mW).map lT=l
 |[],_=>rfl
 |a::l,h=>by
  simp only[bX];rw[afX (h a (by simp)),Bt λx hx=>h x (by simp[hx])]
theorem ag0{c:UInt8}(h:oD (lT c)=true):mW (lT c)=c:=by
 unfold oD at h;rw[fM]at h;unfold lT at h ⊢;split at h
 ·rename_i e;rw[if_pos e,e];decide
 ·split at h
  ·rename_i a e;rw[if_neg a,if_pos e,e];decide
  ·split at h
   ·rename_i a b e;rw[if_neg a,if_neg b,if_pos e,e];decide
   ·omega
theorem Px:∀{l:List UInt8},(l.map lT).all oD=true->(l.map lT).map mW=l
 |[],_=>rfl
 |a::l,h=>by
  simp only[bX,sx,aH]at h ⊢;rw[ag0 h.1,Px h.2]
theorem FZ{W:Int}(h:1<=W∧W<=8):eU [tg W]=(W,true):=by
 have c:=uv h;have d:tg W≠45:=by
  intro e;have:=congrArg UInt8.toNat e
  grind
 have a:wS [tg W]=[tg W]:=by simp[wS,d]
 have b:yx [tg W]=W:=by simp[yx,a,vT,c];omega
 have f:yw [tg W]=true:=by simp[yw,a,b,Ev h,oW,c];omega
 unfold eU;rw[f,b];rfl
theorem Pq{s:List UInt8}(h:(eU s).2=true):bE (eU s).1=s:=by
 unfold eU at h ⊢;cases q:yw s
 ·rw[q]at h;simp at h
 ·simp only[yw,aH,decide_eq_true_eq]at q;simp[q.2.2.2]
theorem ajR{X:bW}(ok:fg X):idx (nE X) 120 0=1∧idx (nE X) 58 0=3:=by
 have h1:=uv ok.w;have d:=uv ok.h;have hw:=ok.w;have f:=ok.h;have a:tg X.1≠120:=by intro e;rw[e]at h1;have:(120:UInt8).toNat=120:=rfl;omega
 have b:tg X.1≠58:=by intro e;rw[e]at h1;have:(58:UInt8).toNat=58:=rfl;omega
 have c:tg X.2.1≠58:=by intro e;rw[e]at d;have:(58:UInt8).toNat=58:=rfl;omega
 rw[yP ok];simp[idx,a,b,c]
theorem ajS{X Y:bW}(a:fg X)(b:fg Y)(h:nE X=nE Y):X=Y:=by
 rw[yP a,yP b]at h;simp only[ru,true_and]at h;obtain⟨h1,f,g⟩:=h;have c:=uv a.w;have i:=uv b.w;have d:=uv a.h;have j:=uv b.h;rw[h1]at c;rw[f]at d;have q1:=a.w;have q2:=b.w;have k:=a.h;have l:=b.h;have e:=Bt a.b;rw[g,Bt b.b]at e
 grind
open Classical in
noncomputable def gU(s:List UInt8):bW×Bool:=if e:∃X,fg X∧nE X=s then(Classical.choose e,true)else((0,0,[]),false)
theorem Fj{X:bW}(ok:fg X):gU (nE X)=(X,true):=by have e:∃Y,fg Y∧nE Y=nE X:=⟨X,ok,rfl⟩;unfold gU;rw[dif_pos e];have:=Classical.choose_spec e;rw[ajS this.1 ok this.2]
theorem vO{s:List UInt8}(h:∀X,fg X->nE X≠s):gU s=((0,0,[]),false):=by
 unfold gU
 grind
theorem IT(s:List UInt8):(∃X,fg X∧nE X=s∧gU s=(X,true))∨((∀X,fg X->nE X≠s)∧gU s=((0,0,[]),false)):=by
 by_cases e:∃X,fg X∧nE X=s
 ·obtain⟨X,a,b⟩:=e;subst b;exact .inl ⟨X,a,rfl,Fj a⟩
 ·right;have:∀X,fg X->nE X≠s:=λX a b=>e ⟨X,a,b⟩;exact⟨this,vO this⟩
def Sh(s:List UInt8):Nat:=(idx s 120 0).toNat
def Wi(s:List UInt8):Nat:=(idx s 58 0).toNat
def Ti(s:List UInt8):Prop:=idx s 120 0<0∨idx s 58 0<idx s 120 0∨(129:Int)<s.length-idx s 58 0
def DS(s:List UInt8):bW:=((eU (s.take (Sh s))).1,(eU ((s.take (Wi s)).drop (Sh s+1))).1,(s.drop (Wi s+1)).map lT)
def M5(s:List UInt8):Bool:=(eU (s.take (Sh s))).2&&((eU ((s.take (Wi s)).drop (Sh s+1))).2&&(iv (DS s)&&decide (nE (DS s)=s)))
theorem ajT{X:bW}(ok:fg X):(nE X).length=4+X.2.2.length:=by rw[yP ok];simp;omega
theorem YT{X:bW}(ok:fg X):¬Ti (nE X)∧DS (nE X)=X∧M5 (nE X)=true:=by
 obtain⟨e,f⟩:=ajR ok;have hl:=ajT ok;have k:=ok.hI;have g:Sh (nE X)=1:=by unfold Sh;rw[e];rfl
 have i:Wi (nE X)=3:=by unfold Wi;rw[f];rfl
 have a:(eU ((nE X).take 1))=(X.1,true):=by rw[yP ok];exact FZ ok.w
 have c:(eU (((nE X).take 3).drop 2))=(X.2.1,true):=by rw[yP ok];exact FZ ok.h
 have j:((nE X).drop 4).map lT=X.2.2:=by rw[yP ok];exact Bt ok.b
 have d:DS (nE X)=X:=by unfold DS;rw[g,i,a,c,j]
 refine⟨?_,d,?_⟩
 ·unfold Ti;rw[e,f,hl];omega
 ·unfold M5;rw[d,g,i,a,c,dK.2 ok];simp
theorem awd{s:List UInt8}(h:Ti s):gU s=((0,0,[]),false):=vO λX ok e=>(YT ok).1 (e▸h)
theorem awe{s:List UInt8}(h:M5 s=true):gU s=(DS s,true):=by
 simp only[M5,aH,decide_eq_true_eq]at h;have:=Fj (dK.1 h.2.2.1)
 grind
theorem Tj{s:List UInt8}(h:M5 s=false):gU s=((0,0,[]),false):=vO λX ok e=>by
 have:=(YT ok).2.2;rw[e,h]at this;cases this
theorem RF(sep a b:List UInt8):du sep [a,b]=a++sep++b:=by simp[du]
theorem Gv(b:UInt8):∀(s cur:List UInt8),du [b] (iL b cur s)=cur++s
 |[],cur=>by simp[iL,du]
 |c::r,cur=>by
  simp only[iL];split
  ·rename_i e;have hl:=BH b r [];have ih:=Gv b r [];cases q:iL b [] r with
   |nil=>rw[q]at hl;simp at hl
   |cons x l=>
    rw[q]at ih;simp only[du,df]at ih ⊢;rw[<-ih,e];simp
  ·rw[Gv b r (cur++[c])];simp
theorem Mc(b:UInt8)(s:List UInt8):du [b] (fF b s)=s:=by unfold fF;rw[Gv];simp
theorem Mb{b:UInt8}:∀{s cur:List UInt8},b∉s->iL b cur s=[cur++s]
 |[],cur,_=>by simp[iL]
 |c::r,cur,h=>by
  simp only[bR,not_or]at h;simp only[iL];rw[if_neg (λe=>h.1 e.symm),Mb h.2];simp
theorem PD{b:UInt8}:∀{s cur t:List UInt8},b∉s->iL b cur (s++b::t)=(cur++s)::iL b [] t
 |[],cur,t,_=>by simp[iL]
 |c::r,cur,t,h=>by
  simp only[bR,not_or]at h;simp only[fx,iL];rw[if_neg (λe=>h.1 e.symm),PD h.2];simp
theorem Sr{b:UInt8}{s t:List UInt8}(h1:b∉s)(a:b∉t):fF b (s++b::t)=[s,t]:=by unfold fF;rw[PD h1,Mb a];simp
def nth(l:List (List UInt8))(i:Nat):List UInt8:=l.getD i []
def rP(s:List UInt8):List (List UInt8):=fF 58 s
def pQ(s:List UInt8):List (List UInt8):=fF 120 (nth (rP s) 0)
def Ga(s:List UInt8):bW:=((eU (nth (pQ s) 0)).1,(eU (nth (pQ s) 1)).1,(nth (rP s) 1).map lT)
def Fo(s:List UInt8):Bool:=(eU (nth (pQ s) 0)).2&&(eU (nth (pQ s) 1)).2
theorem aj1(x:Int):mW x≠58∧mW x≠120:=by unfold mW;split<;>(try split)<;>decide
theorem QD{X:bW}(ok:fg X):rP (nE X)=[[tg X.1,120,tg X.2.1],X.2.2.map mW]∧pQ (nE X)=[[tg X.1],[tg X.2.1]]:=by
 have h1:=uv ok.w;have g:=uv ok.h;have hw:=ok.w;have i:=ok.h;have a:tg X.1≠120:=by intro e;rw[e]at h1;have:(120:UInt8).toNat=120:=rfl;omega
 have b:tg X.1≠58:=by intro e;rw[e]at h1;have:(58:UInt8).toNat=58:=rfl;omega
 have c:tg X.2.1≠58:=by intro e;rw[e]at g;have:(58:UInt8).toNat=58:=rfl;omega
 have d:tg X.2.1≠120:=by intro e;rw[e]at g;have:(120:UInt8).toNat=120:=rfl;omega
 have f:rP (nE X)=[[tg X.1,120,tg X.2.1],X.2.2.map mW]:=by
  rw[yP ok];refine Sr (s:=[tg X.1,120,tg X.2.1]) ?_ ?_
  ·grind
  ·intro hm;obtain⟨x,_,hx⟩:=bj.1 hm;exact(aj1 x).1 hx
 refine⟨f,?_⟩;unfold pQ;rw[f];exact Sr (s:=[tg X.1]) (t:=[tg X.2.1]) (by simp[Ne.symm a]) (by simp[Ne.symm d])
theorem aFh{s:List UInt8}(h:(rP s).length≠2):gU s=((0,0,[]),false):=vO λX ok e=>h (by rw[<-e,(QD ok).1];rfl)
theorem aFg{s:List UInt8}(h:(pQ s).length≠2):gU s=((0,0,[]),false):=vO λX ok e=>h (by rw[<-e,(QD ok).2];rfl)
theorem WC{l:List (List UInt8)}(h:l.length=2):l=[nth l 0,nth l 1]:=by
 match l,h with
 |[a,b],_=>rfl
theorem awk{s:List UInt8}(hw:(rP s).length=2)(b:(pQ s).length=2)(h:Fo s=true)(ok:iv (Ga s)=true):gU s=(Ga s,true):=by
 have a:=dK.1 ok;simp only[Fo,aH]at h;have e:nE (Ga s)=s:=by
  have c:=Mc 58 s;have d:=Mc 120 (nth (rP s) 0);rw[show fF 58 s=rP s from rfl,WC hw,RF]at c;rw[show fF 120 (nth (rP s) 0)=pQ s from rfl,WC b,RF]at d;have f:=Pq h.1;have g:=Pq h.2;have i:(Ga s).2.2.map mW=nth (rP s) 1:=Px (by
   simp only[iv,aH]at ok;exact ok.2.2)
  unfold nE;rw[i,show(Ga s).1=(eU (nth (pQ s) 0)).1 from rfl,show(Ga s).2.1=(eU (nth (pQ s) 1)).1 from rfl,f,g]
  grind
 have:=Fj a
 grind
theorem amu{s:List UInt8}(h:Fo s=false∨iv (Ga s)=false):gU s=((0,0,[]),false):=vO λX ok e=>by
 obtain⟨f,a⟩:=QD ok;rw[e]at f a;have c:eU (nth (pQ s) 0)=(X.1,true):=by rw[a];exact FZ ok.w
 have d:eU (nth (pQ s) 1)=(X.2.1,true):=by rw[a];exact FZ ok.h
 have g:(nth (rP s) 1).map lT=X.2.2:=by rw[f];exact Bt ok.b
 rcases h with h|h
 ·simp[Fo,c,d]at h
 ·have:Ga s=X:=by unfold Ga;rw[c,d,g]
  rw[this,dK.2 ok]at h;cases h
end Am

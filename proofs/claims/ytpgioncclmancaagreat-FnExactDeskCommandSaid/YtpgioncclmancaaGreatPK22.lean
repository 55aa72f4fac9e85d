/- Contracts of functions. -/
import Derived.Test.YtpgioncclmancaaGreatPK21
set_option linter.unusedVariables false
set_option linter.unusedSimpArgs false
set_option maxHeartbeats 4000000
set_option maxRecDepth 40000
namespace Am
open Go
variable{h h0 h' h1 h2:a9}{b lo sb ob sr b1 o1 n1 b2 o2 n2 b3 o3 n3:Nat}{w O s:List UInt8}{X:List Int}{out Ls:List (List UInt8)}{nx:Value}{W H c:Int}
theorem O3{l:List (List UInt8)}{k:Nat}(h:k<l.length):qp (l.take (k+1))=qp (l.take k)++[(eU l[k]).1]:=by unfold qp;rw[aj h,cq];rfl
theorem Ee{k:Nat}{l:List (List UInt8)}(a:aZ h b 0 (l.length+1)=some (texts (w::l)))(c:k<l.length):cell h b (k+1)=some (S l[k]):=by have:=(fQ a (i:=k+1) (by omega)).1;rw[dt]at this;rw[this];simp[texts,ah c]
theorem Gy{l:List (List UInt8)}(a:aZ h b 0 (l.length+1)=some (texts (w::l))):cell h b 0=some (S w):=by have:=(fQ a (i:=0) (by omega)).1;rw[dt]at this;rw[this];simp[texts]
theorem ahm{v:Value}(x:bP h0 h v 1 (ints X))(hl:X.length<=100000)(hx:∀x∈X,bK x):Vi h v X:=Vi.rw x.rw (by rw[cH];omega) hx
theorem VI(l:List (List UInt8)):∀x∈qp l,bK x:=by intro x hx;obtain⟨s,_,rfl⟩:=bj.1 hx;exact Fi s
theorem c21(h:a9)(hp:0<h.length)(v:Value)(J:de)(wb:Nat)(w:List UInt8)(l:List (List UInt8))(hv:Vr h ba v J)(ok:gK J=true)(hc:aZ h wb 0 (l.length+1)=some (texts (w::l)))(hl:∀x∈l,x.length<=1048576)(hn:l.length+1=fA w):aN aE 21 [v,sl wb 0 (l.length+1) 1] h λr h'=>aBB h h' r (sC J w l):=by
 have z:=hv;have hs:=Cq ok;have l3:w=zr->l.length=3:=λe=>by rw[e,show fA zr=4 from by decide]at hn;omega
 have l2:w=zp->l.length=2:=λe=>by rw[e,show fA zp=3 from by decide]at hn;omega
 have l2b:w=jC∨w=nZ->l.length=2:=λe=>by
  have h1:fA jC=3:=by decide
  have h2:fA nZ=3:=by decide
  rcases e with e|e<;>rw[e]at hn<;>omega
 have l1:w=jg∨w=jB->l.length=1:=λe=>by
  have h1:fA jg=2:=by decide
  have h2:fA jB=2:=by decide
  rcases e with e|e<;>rw[e]at hn<;>omega
 have lr:w=xQ->l.length=1:=λe=>by rw[e,show fA xQ=2 from by decide]at hn;omega
 have l4:l.length<=3:=by
  have:fA w<=4:=by
   unfold fA
   (repeat' split)<;>omega
  omega
 obtain⟨A,eA⟩:=aC (sC J w l);rw[<-eA];obtain⟨W,H,b1,o1,n1,z1,b2,o2,n2,z2,b3,o3,n3,z3,rfl,yj⟩:=hv.jx;have c0:=Gy hc;obtain⟨ll,ell⟩:=aC l.length;refine ag8 λK d=>?_;refine d ?_;refine bg λK d=>?_;simp(disch:=omega)[c0];refine d ?_;rw[aw];generalize d:aP aE _ _=K;by_cases M:w=[114,101,97,100]
 ·have nl:=lr M;have n:=Ee hc (k:=0) (by omega);rw[dt]at n;have U:=hl _ (aD (show 0<l.length by omega));have g0:l.getD 0 []=l[0]:=by rw[aA,ah (by omega)];rfl
  have a:=eA;unfold sC at a;rw[if_pos (show w=xQ from M),g0]at a;obtain⟨s,es⟩:=aC (l[0]);rw[<-es]at a n U;have y:=λe=>@Qy s e;simp(disch:=omega)[M,nl,n];refine aO (aB6 h hp s U) ?_;rintro _ h1⟨g1,r0,rfl,o⟩;have ov:=o.vr;have u:=ov;unfold F0 at y a;obtain⟨RA,eR⟩:=aC (gU s);rw[<-eR]at y a ov u ⊢;obtain⟨W',H',T,sP,tT,tV,rfl⟩:=ov.px;cases q:RA.2 with
  |false=>
   rw[q,if_neg (by simp)]at a;subst a;simp(disch:=omega);subst d;simp(disch:=omega)[cY,cJ,cO,bD];exact⟨g1,_,_,rfl,z.grow g1,⟨_,_,_,_,rfl⟩,λe=>by simp at e⟩
  |true=>
   rw[q,if_pos rfl]at a;have y:=y q;obtain⟨RX,eX⟩:=aC RA.1;rw[<-eX]at a y u;obtain⟨RW,RH,rbr⟩:=RX;obtain⟨s',es',w1,w2,ri⟩:=u.dE;have e3:=es';injection e3 with e3;simp at e3;obtain⟨a1,a2,a3⟩:=e3;subst a1;subst a2;subst a3;have vj:Vr h1 ba (.agg #[I W',I H',sl T sP tT tV,sl 0 0 0 0,sl 0 0 0 0]) ((W',H',rbr),[],[]):=Vr.qX w1 w2 ri (Vr.rY (X:=[]) (.inr ⟨rfl,rfl⟩) (by simp) (by simp) (.inl rfl)) (Vr.rY (X:=[]) (.inr ⟨rfl,rfl⟩) (by simp) (by simp) (.inl rfl));subst a;simp(disch:=omega);refine aO (aku h1 (aL hp g1) _ _ vj y) ?_;rintro _ h2⟨g2,rfl⟩;have G:=g1.trans g2;simp(disch:=omega)[pM];subst d;simp(disch:=omega)[cY,cJ,cO,bD];exact⟨G.trans ⟨_,rfl⟩,_,_,rfl,(vj.grow g2).grow ⟨_,rfl⟩,⟨_,_,_,_,rfl⟩,λ_=>bP.single G⟩
 have a:=eA;unfold sC at a;rw[if_neg (show ¬w=xQ from M)]at a;simp(disch:=omega)[M];subst d;simp only[aq];refine akW λK d=>?_;refine d ?_;rw[aw];generalize hP:aP aE _ _=PP;have cut:∀g:a9,gS 3 g (sl wb 0 (l.length+1) 1) (some (I 1)) none none=some (sl wb 1 l.length 1,g):=λg=>by simp[gS,bound]
 simp(disch:=omega)[cut];have fin:∀(σ:Nat->Value) (h':a9),ae h h'->wL l->bP h h' (σ 11) 1 (ints (qp l))->σ 2=.agg #[I W,I H,sl b1 o1 n1 z1,sl b2 o2 n2 z2,sl b3 o3 n3 z3]->σ 7=S w->σ 4=.agg #[I 0,I 0,sl 0 0 0 0,sl 0 0 0 0,sl 0 0 0 0]->PP 0 σ h':=by
  intro σ h' b p i q2 f c;rw[if_pos p]at a;unfold nj at a;have Y:Vi h' (σ 11) (qp l):=ahm i (by unfold qp;rw[bL];omega) (VI l);have L:(qp l).length=l.length:=by simp[qp]
  obtain⟨N,eN⟩:=aC (qp l);rw[<-eN]at Y a L;clear i;obtain⟨E,env⟩:=aC (σ 11);rw[<-env]at Y;have vn0:=Y;obtain⟨nb,no,nz,aLH,_⟩:=vn0;have oL:σ 11=E:=env.symm;clear env;subst hP;simp only[aq];rw[aw];generalize hQ:aP aE _ _=Q;have tail:¬Dl w->∀τ:Nat->Value,τ 2=.agg #[I W,I H,sl b1 o1 n1 z1,sl b2 o2 n2 z2,sl b3 o3 n3 z3]->τ 7=S w->τ 11=E->τ 4=.agg #[I 0,I 0,sl 0 0 0 0,sl 0 0 0 0,sl 0 0 0 0]->Q 0 τ h':=by intro hw τ j V O m;rw[if_neg hw]at a;subst hQ;simp only[aq];have call:=c24 h' (aL hp b) _ E w N J (z.grow b) ok Y (λe=>by rw[L];exact l2b e) (λe=>by rw[L];exact l1 e);obtain⟨TA,eT⟩:=aC (lj J w N);rw[<-eT]at call a;simp(disch:=omega)[j,V,O,m];refine aO call ?_;rintro _ h2⟨g2,lv,rfl,i⟩;obtain⟨lb,rfl,_⟩:=i.Fs;simp(disch:=omega)[j,m];rw[a];simp(disch:=omega)[cY,cJ,cO,bD];exact⟨b.trans g2,_,_,rfl,(z.grow b).grow g2,⟨_,_,_,_,rfl⟩,λ_=>i.base b.le⟩
  refine bg λK d=>?_;simp(disch:=omega)[f];refine d ?_;rw[gJ];rw[aw];generalize hR:aP aE _ _=R;have yes:Dl w->∀τ:Nat->Value,τ 63=B true->τ 2=.agg #[I W,I H,sl b1 o1 n1 z1,sl b2 o2 n2 z2,sl b3 o3 n3 z3]->τ 7=S w->τ 11=E->τ 4=.agg #[I 0,I 0,sl 0 0 0 0,sl 0 0 0 0,sl 0 0 0 0]->R 0 τ h':=by
   intro hw τ t j V O m;rw[if_pos hw]at a;unfold Aa at a;have call:=c23 h' (aL hp b) _ E w N J (z.grow b) hs Y (λe=>by rw[L];exact l3 e) (λe=>by rw[L];exact l2 e);have sK:=@NP J w N ok;obtain⟨CA,eC⟩:=aC (rR J w N);rw[<-eC]at call a sK;subst hR;simp(disch:=omega)[t,j,V,O,m];refine aO call ?_;rintro _ h2⟨g2,r0,rfl,ov⟩;have u:=ov;obtain⟨W',H',T,sP,tT,tV,oR,uH,wZ,xi,wP,w9,w5,xj,rfl,_⟩:=ov.jx;have Z:=b.trans g2;by_cases F:CA.2=0
   ·rw[if_pos F]at a;have sK:=sK F;subst a;simp(disch:=omega)[F,j,m];refine aO (aku h2 (aL hp Z) _ _ u sK) ?_;rintro _ h3⟨g3,rfl⟩;have G:=Z.trans g3;subst hQ;simp(disch:=omega)[pM,j,m,cY,cJ,cO,bD];exact⟨G.trans ⟨_,rfl⟩,_,_,rfl,(u.grow g3).grow ⟨_,rfl⟩,⟨_,_,_,_,rfl⟩,λ_=>bP.single G⟩
   ·rw[if_neg F]at a;subst a;subst hQ;simp(disch:=omega)[F,j,m,cY,cJ,cO,bD];exact⟨Z,_,_,rfl,z.grow Z,⟨_,_,_,_,rfl⟩,λe=>absurd e F⟩
  have aE6:¬Dl w->∀τ:Nat->Value,τ 63=B false->τ 2=.agg #[I W,I H,sl b1 o1 n1 z1,sl b2 o2 n2 z2,sl b3 o3 n3 z3]->τ 7=S w->τ 11=E->τ 4=.agg #[I 0,I 0,sl 0 0 0 0,sl 0 0 0 0,sl 0 0 0 0]->R 0 τ h':=by intro hw τ t j V O m;subst hR;simp(disch:=omega)[t];exact tail hw _ j V O m
  clear hR hQ tail;by_cases f1:w=[110,101,119]
  ·simp(disch:=omega)[f1];exact yes (.inl f1) _ (by simp) (by simpa using q2) (by simpa [f1]using f) (by simpa using oL) (by simpa using c)
  by_cases f2:w=[115,101,116]
  ·simp(disch:=omega)[f2];exact yes (.inr (.inl f2)) _ (by simp) (by simpa using q2) (by simpa [f2]using f) (by simpa using oL) (by simpa using c)
  by_cases f3:w=[117,110,100,111]
  ·simp(disch:=omega)[f3];exact yes (.inr (.inr (.inl f3))) _ (by simp) (by simpa using q2) (by simpa [f3]using f) (by simpa using oL) (by simpa using c)
  by_cases f4:w=[114,101,100,111]
  ·simp(disch:=omega)[f4];exact yes (.inr (.inr (.inr (.inl f4)))) _ (by simp) (by simpa using q2) (by simpa [f4]using f) (by simpa using oL) (by simpa using c)
  by_cases f5:w=[115,113,117,97,115,104]
  ·simp(disch:=omega)[f5];exact yes (.inr (.inr (.inr (.inr (.inl f5))))) _ (by simp) (by simpa using q2) (by simpa [f5]using f) (by simpa using oL) (by simpa using c)
  by_cases f6:w=[115,104,111,119]
  ·simp(disch:=omega)[f6];exact yes (.inr (.inr (.inr (.inr (.inr f6))))) _ (by simp) (by simpa using q2) (by simpa [f6]using f) (by simpa using oL) (by simpa using c)
  simp(disch:=omega)[f1,f2,f3,f4,f5,f6];refine aE6 ?_ _ (by simp) (by simpa using q2) (by simpa using f) (by simpa using oL) (by simpa using c);rintro(e|e|e|e|e|e)
  ·exact f1 e
  ·exact f2 e
  ·exact f3 e
  ·exact f4 e
  ·exact f5 e
  ·exact f6 e
 have i6:∀(σ:Nat->Value) (h':a9),ae h h'->¬wL l->σ 4=.agg #[I W,I H,sl b1 o1 n1 z1,sl b2 o2 n2 z2,sl b3 o3 n3 z3]->σ 5=sl 0 0 0 0->σ 6=I 7->PP 1 σ h':=by intro σ h' b p c q5 q6;rw[if_neg p]at a;subst hP;rw[a];simp(disch:=omega)[c,q5,q6,cY,cJ,cO,bD];exact⟨b,_,_,rfl,z.grow b,⟨_,_,_,_,rfl⟩,λe=>by simp at e⟩
 clear hP;have b0:∀(σ:Nat->Value) (h':a9),PP 0 σ h'->eY 0 PP 2 σ h':=by intro σ h' x;rw[fk,if_pos rfl];exact x
 have T:∀(σ:Nat->Value) (h':a9),PP 1 σ h'->eY 0 PP 1 σ h':=by intro σ h' x;rw[fk,if_neg (by omega)];exact x
 generalize eY 0 PP=B0 at b0 T ⊢;refine aU (λk σ h'=>k<=l.length∧ae h h'∧wL (l.take k)∧bP h h' (σ 11) 1 (ints (qp (l.take k)))∧σ 2=.agg #[I W,I H,sl b1 o1 n1 z1,sl b2 o2 n2 z2,sl b3 o3 n3 z3]∧σ 7=S w∧σ 4=.agg #[I 0,I 0,sl 0 0 0 0,sl 0 0 0 0,sl 0 0 0 0]∧σ 43=sl wb 1 l.length 1∧σ 44=I l.length∧σ 45=I k) (λk=>l.length-k) 0 ?_ ?_
 ·exact⟨by omega,ae.refl _,by simp[wL],by simpa [qp,ints]using bP.nil,by simp,by simp,by simp,by simp,by simp,by simp⟩
 rintro k σ h'⟨hk,b,p,i,q2,f,c,q43,q44,YM⟩;simp(disch:=omega)[q44,YM];refine aG (λbB=>?_) (λdG=>?_)
 ·have C:k<l.length:=by omega
  have n:=(b.cell (Ee hc C));rw[pC]at n;have Ov:=hl _ (aD C);have nt:=O3 C;have VH:(eU l[k]).2=true->wL (l.take (k+1)):=by
   intro e x hx;rw[aj C]at hx;rcases cS.1 hx with hx|hx
   ·exact p x hx
   ·rw[fS.1 hx];exact e
  have P:(eU l[k]).2=false->¬wL l:=by intro e q;have:=q _ (aD C);rw[e]at this;cases this
  have Zr:=ahP l[k] Ov h' (aL hp b);obtain⟨D,eD⟩:=aC (eU l[k]);rw[<-eD]at Zr nt VH P;obtain⟨x,ex⟩:=aC (l[k]);rw[<-ex]at n Zr;simp(disch:=omega)[q43,YM,C,n];refine aO Zr ?_;rintro _ h2⟨g2,rfl⟩;have G:=b.trans g2;cases qd:D.2 with
  |false=>
   simp(disch:=omega)[q2,c,qd];exact T _ _ (i6 _ h2 G (P qd) (by simp) (by simp) (by simp))
  |true=>
   have VH:=VH qd;have wk:=cQ ((k:Int)+1) (((k+1:Nat):Int));simp(disch:=omega)[qd];refine oa hp G (by unfold qp;rw[bL,bu];omega) (i.grow g2) λv3 h3 g3 b3=>?_;rw[<-nt]at b3
   try simp(disch:=omega)[YM,wk]
   refine⟨k+1,?_,by omega⟩;and_intros<;>first|assumption|omega|rfl
 ·have:k=l.length:=by omega
  subst this;rw[aK]at p i
  try simp(disch:=omega)
  refine b0 _ _ (fin _ h' b p (by simpa using i) (by simpa using q2) (by simpa using f) (by simpa using c))
theorem Tt.vo{r:Value}{X:de}(x:Tt h h' r X)(wf:Xw X):Vo h' h.length h'.length ba r X:=by obtain⟨⟨W,H,br⟩,p,f⟩:=X;obtain⟨g,s,sp,i,d,e,rfl,l1,l2,l3,a,b,c⟩:=x;exact Vo.three wf.w wf.h a (b.cW (by rw[cH];have:=wf.lp;omega) wf.p) (c.cW (by rw[cH];have:=wf.lf;omega) wf.f) l1 l2 l3
def xB(c:Int):List UInt8:=[101,114,114,111,114,32]++mK c
def pV(s:List UInt8):List UInt8:=(fF 32 s).getD 0 []
noncomputable def fW(J:de)(s:List UInt8):de×List (List UInt8)×Int:=
 if gK J=true then(if fA (pV s)=(fF 32 s).length then(if(sC J (pV s) (fF 32 s).tail).2.2=0 then((sC J (pV s) (fF 32 s).tail).1,(sC J (pV s) (fF 32 s).tail).2.1,0)
  else(J,[xB (sC J (pV s) (fF 32 s).tail).2.2],0))else(oC,[],7))else(oC,[],1)
def axd(h h':a9)(r:Value)(A:de×List (List UInt8)×Int):Prop:=ae h h'∧∃c d l1 l2 a b,r=.tuple #[c,d,I A.2.2]∧Vo h' l1 l2 ba c A.1∧Vo h' a b lD d A.2.1∧(h.length<=l1∧l2<=h'.length)∧(h.length<=a∧b<=h'.length)∧(l2<=a∨b<=l1)
theorem HT(c:Int):(xB c).length<=20:=by
 unfold xB mK;split
 ·rename_i h;have:c=0∨c=1∨c=2∨c=3∨c=4∨c=5∨c=6∨c=7∨c=8∨c=9∨c=10:=by omega
  rcases this with rfl|rfl|rfl|rfl|rfl|rfl|rfl|rfl|rfl|rfl|rfl<;>decide
 ·simp
theorem afe{J:de}{w:List UInt8}{l:List (List UInt8)}(ok:gK J=true)(h:(sC J w l).2.2=0):zt (sC J w l).2.1:=by
 have a:=UB (w:=w) (l:=l) ok;unfold sC at h a ⊢;split at h
 ·rename_i e;rw[if_pos e]at a ⊢;split at h
  ·rename_i b;rw[if_pos b]at a ⊢;exact zt.one (a7 (Ul a) (by omega))
  ·simp at h
 ·rename_i e;rw[if_neg e]at a ⊢;split at h
  ·rename_i b;rw[if_pos b]at a ⊢;unfold nj at h a ⊢;split at h
   ·rename_i c;rw[if_pos c]at a ⊢;unfold Aa at h a ⊢;split at h
    ·rename_i d;rw[if_pos d]at a ⊢;exact zt.one (a7 (Ul a) (by omega))
    ·rename_i d;exact absurd h d
   ·rename_i c;rw[if_neg c];exact anG w _ ok
  ·simp at h
theorem GJ{J:de}{s:List UInt8}(h:(fW J s).2.2=0):zt (fW J s).2.1∧gK (fW J s).1=true:=by
 unfold fW at h ⊢;split at h
 ·rename_i e;rw[if_pos e];split at h
  ·rename_i b;rw[if_pos b];split at h
   ·rename_i a;rw[if_pos a];exact⟨afe e a,UB e⟩
   ·rename_i a;rw[if_neg a];exact⟨zt.one (by have:=HT (sC J (pV s) (fF 32 s).tail).2.2;omega),e⟩
  ·simp at h
 ·simp at h
theorem zt.vo{v:Value}{L:List (List UInt8)}(x:zt L)(b:bP h0 h v 1 (texts L)):Vo h h0.length h.length lD v L:=b.aka (by rw[cH];have:=x.2.1;omega) (λl hl=>by rw[cH];have:=x.2.2 l hl;omega)
theorem PE(s:List UInt8):fF 32 s=pV s::(fF 32 s).tail:=by
 have:=(BH 32 s []).1;unfold pV;unfold fF;cases h:iL 32 [] s with
 |nil=>rw[h]at this;simp at this
 |cons a r=>rfl
theorem c76(h:a9)(hp:0<h.length)(v:Value)(J:de)(s:List UInt8)(o:Vr h ba v J)(O:hI ba J<=1048576)(hl:s.length<=1048576):aN aE 76 [v,S s] h λr h'=>axd h h' r (fW J s):=by
 have G:=o;have wf:=Ge o O;have d:=λe=>@afe J (pV s) (fF 32 s).tail e;obtain⟨A,I⟩:=aC (fW J s);have a:=I;unfold fW at a;rw[<-I];have F:=PE s;have Gs:=uK 32 s [];have B:=λh hp v wb o ok hc hl hn=>c21 h hp v J wb (pV s) (fF 32 s).tail o ok hc hl hn;have V:=CB (.inl rfl) s 32 hl;have n:gK J=true->gK (sC J (pV s) (fF 32 s).tail).1=true:=UB;obtain⟨E,Y⟩:=aC (sC J (pV s) (fF 32 s).tail);rw[<-Y]at a d B n;obtain⟨w,L⟩:=aC (pV s);obtain⟨l,el⟩:=aC ((fF 32 s).tail);have yi:∀x∈l,x.length<=1048576:=by
  intro x hx;have h1:x∈iL 32 [] s:=by
   show x∈fF 32 s
   rw[F,<-el];exact j5 _ hx
  have:=Gs x h1;simp at this;omega
 rw[<-L,<-el]at F B;rw[F]at V;rw[F,<-L]at a;clear L el I Y;obtain⟨W,H,b1,o1,n1,z1,b2,o2,n2,z2,b3,o3,n3,z3,rfl,yj⟩:=o.jx;refine ag8 λK b=>?_;refine b ?_;rw[aw];generalize b:aP aE _ _=K;simp(disch:=omega);refine aO (PV h hp _ _ G O) ?_;rintro _ h1⟨g1,rfl⟩;cases q:gK J with
 |false=>
  rw[q,if_neg (by simp)]at a;subst a;simp(disch:=omega);subst b;simp(disch:=omega)[cY,cJ,cO,bD];exact⟨g1,_,_,h.length,h.length,h.length,h.length,rfl,Vo.j6,Vo.E8,⟨aa _,g1.le⟩,⟨aa _,g1.le⟩,.inl (aa _)⟩
 |true=>
 rw[q,if_pos rfl]at a;simp(disch:=omega);subst b;simp only[aq];refine akW λK b=>?_;refine aO (V h1 (aL hp g1)) ?_;rintro wv h2⟨g2,Nj⟩;have gT:=g1.trans g2;obtain⟨wb,rfl,u⟩:=Nj.Fs;have u:=u.resolve_left (by simp);simp only[az]at u a ⊢;have cw:=Gy u
 try simp(disch:=omega)
 refine b ?_;rw[aw];generalize g:aP aE _ _=K0;refine bg λK b=>?_;simp(disch:=omega)[cw];refine aO (aCr w h2) ?_;rintro _ h2⟨rfl,rfl⟩
 try simp(disch:=omega)
 refine b ?_;obtain⟨z,ez⟩:=aC (fA w);rw[<-ez]at a B ⊢;by_cases qz:z=l.length+1
 case neg=>
  rw[if_neg qz]at a;subst a;have Q:¬(z:Int)=(l.length:Int)+1:=by omega
  by_cases D:z=0
  ·simp(disch:=omega)[D];subst g;simp(disch:=omega)[cY,cJ,cO,bD];exact⟨gT,_,_,h.length,h.length,h.length,h.length,rfl,Vo.j6,Vo.E8,⟨aa _,gT.le⟩,⟨aa _,gT.le⟩,.inl (aa _)⟩
  ·simp(disch:=omega)[D,qz,Q];subst g;simp(disch:=omega)[cY,cJ,cO,bD];exact⟨gT,_,_,h.length,h.length,h.length,h.length,rfl,Vo.j6,Vo.E8,⟨aa _,gT.le⟩,⟨aa _,gT.le⟩,.inl (aa _)⟩
 rw[if_pos qz]at a;have D:¬z=0:=by omega
 have P:¬(l.length:Int)+1=0:=by omega
 have call:=B h2 (aL hp gT) _ wb (G.grow gT) q u yi qz.symm;have d:=d q;simp(disch:=omega)[qz,D,P];subst g;simp only[aq];refine akW λK b=>?_;refine aO call ?_;rintro _ h3⟨g3,nv,lv,rfl,vn,⟨lb,lo,ln,lz,rfl⟩,M⟩;have tO:=gT.trans g3;have p:=vn;obtain⟨X,T,pd,sP,tT,tV,oR,uH,wZ,xi,wP,w9,w5,xj,rfl,_⟩:=vn.jx;simp(disch:=omega);refine b ?_;rw[aw];generalize b:aP aE _ _=K;by_cases i:E.2.2=0
 ·rw[if_pos i]at a;have M:=M i;have bd:=d i;have kK:hI ba E.1<=1048576:=Cq (n q);have R:=Ge p kK;subst a;simp(disch:=omega)[i];subst b;simp(disch:=omega);refine aQ (TW h3 (aL hp tO) _ _ p kK) ?_;rintro r0 C y;have f:=y.1
  try refine⟨λe=>(by first|exact f|cases e),?_⟩
  have vo:=y.vo R;have j:=(bd.vo (M.base gT.le)).grow f;have k:=vo.vr;obtain⟨X,T,pd,sP,tT,tV,oR,uH,wZ,xi,wP,w9,w5,xj,rfl,_⟩:=k.jx;simp(disch:=omega)[cY,cJ,cO,bD];exact⟨tO.trans f,_,_,_,_,_,_,rfl,vo,j,⟨tO.le,aa _⟩,⟨aa _,f.le⟩,.inr (aa _)⟩
 ·rw[if_neg i]at a;obtain⟨c,ec⟩:=aC E.2.2;have m:=λh=>c67 c h;have U:=HT c;rw[<-ec]at a i ⊢;have Z:xB c=[101,114,114,111,114,32]++mK c:=rfl;obtain⟨N,eN⟩:=aC (mK c);rw[<-eN]at m Z;rw[Z]at a U;subst a;simp only[af,az,aF]at U;have f1:N.length+6<=4611686018427387904:=by omega
  have f2:6+N.length<=4611686018427387904:=by omega
  have f3:N.length<=4611686018427387898:=by omega
  simp(disch:=omega)[i];refine aQ (TW h3 (aL hp tO) _ _ (G.grow tO) O) ?_;rintro r0 C y;have f:=y.1
  try refine⟨λe=>(by first|exact f|cases e),?_⟩
  have DJ:=tO.trans f;have vo:=y.vo wf;have k:=vo.vr;obtain⟨X,T,pd,sP,tT,tV,oR,uH,wZ,xi,wP,w9,w5,xj,rfl,_⟩:=k.jx;simp(disch:=omega);refine aO (m C) ?_;rintro _ C⟨rfl,rfl⟩;simp(disch:=omega)[f1,f2,f3,pM];subst b;simp(disch:=omega)[cY,cJ,cO,bD];have bs:=bP.single (t:=[101,114,114,111,114,32]++N) (ae.refl C);have j:=(zt.one (l:=[101,114,114,111,114,32]++N) (by simp;omega)).vo bs;refine⟨DJ.trans ⟨_,rfl⟩,_,_,_,_,_,_,rfl,vo.grow ⟨_,rfl⟩,?_,⟨tO.le,by simp⟩,⟨DJ.le,aa _⟩,.inl (aa _)⟩;simpa using j
def ja(L:List (List UInt8)):List UInt8:=(L.map λl=>l++[10]).flatten
noncomputable def Kv:Nat->de->List (List UInt8)->List UInt8
 |_,_,[]=>[]
 |0,_,_::_=>xB 5++[10]
 |n+1,J,s::r=>if(fW J s).2.2=0 then ja (fW J s).2.1++Kv n (fW J s).1 r else[63,10]++Kv n J r
def HO(s:List UInt8):List UInt8:=if s.getLast?=some 10 then s.dropLast else s
def OP(s:List UInt8):List (List UInt8):=if s=[]then[]else fF 10 (HO s)
noncomputable def Hc(s:List UInt8):List UInt8:=Kv 60 qB (OP s)
theorem agV(L:List (List UInt8))(l:List UInt8):ja (L++[l])=ja L++(l++[10]):=by simp[ja]
theorem M6{L:List (List UInt8)}(h:∀l∈L,l.length<=300000):(ja L).length<=300001*L.length:=by
 induction L with
 |nil=>simp[ja]
 |cons a r ih=>
  have h1:=h a (by simp);have h2:=ih λl hl=>h l (by simp[hl]);have e:ja (a::r)=(a++[10])++ja r:=by simp[ja]
  rw[e];simp only[af,az,aF];omega
theorem ah8(s:List UInt8):(HO s).length<=s.length:=by unfold HO;split<;>simp
def qS(O:List UInt8)(n:Nat)(J:de)(L:List (List UInt8))(R:List UInt8):Prop:=O++Kv n J L=R
theorem qS.done{n:Nat}{J:de}{R:List UInt8}(x:qS O n J [] R):O=R:=by unfold qS at x;cases n<;>simpa [Kv]using x
theorem qS.full{J:de}{r:List (List UInt8)}{R:List UInt8}(x:qS O 0 J (s::r) R):O++(xB 5++[10])=R:=x
theorem qS.step{n:Nat}{J:de}{r:List (List UInt8)}{R:List UInt8}(x:qS O (n+1) J (s::r) R)(e:(fW J s).2.2=0):qS (O++ja (fW J s).2.1) n (fW J s).1 r R:=by unfold qS at x ⊢;rw[Kv,if_pos e]at x;rw[cC];exact x
theorem qS.skip{n:Nat}{J:de}{r:List (List UInt8)}{R:List UInt8}(x:qS O (n+1) J (s::r) R)(e:¬(fW J s).2.2=0):qS (O++[63,10]) n J r R:=by unfold qS at x ⊢;rw[Kv,if_neg e]at x;rw[cC];exact x
theorem O0:gK qB=true:=oT.2 ⟨dK.2 (Yy (by omega) (by omega)),by simp[qB],⟨_,rfl⟩,_,rfl⟩
def aBF(h:a9)(v w:Value)(i:Nat)(L:List (List UInt8))(A:List UInt8):Prop:=∃J O,Vr h ba v J∧gK J=true∧w=S O∧O.length<=i*20000000∧qS O (60-i) J (L.drop i) A
def PO(w:Value)(O:List UInt8)(Ls:List (List UInt8))(m:Nat):Prop:=w=S (O++ja (Ls.take m))
theorem Xq{hi:Nat}{v:Value}{X:List (List UInt8)}(x:Vo h lo hi lD v X):∃b z,v=sl b 0 X.length z∧∀k (c:k<X.length),cell h b k=some (S X[k]):=by
 obtain⟨b,z,e,_,_,_,a⟩:=x.texts;refine⟨b,z,e,λk c=>?_⟩;rcases a with a|a
 ·subst a;simp at c
 ·exact i9 a.1 (by simp[Am.texts,ah c])
theorem aB8(h:a9)(hp:0<h.length)(s:List UInt8)(hl:s.length<=1048576):aN aE 126 [S s] h λr h'=>ae h h'∧r=S (Hc s):=by
 obtain⟨A,eA⟩:=aC (Hc s);have g:=eA;unfold Hc OP at g;rw[<-eA];refine afq ?_;rw[aw,cy];generalize a:aP aE _ _ 0=K;simp(disch:=omega);subst a;simp only[aq];rw[aw];generalize a:aP aE _ _=K;by_cases y:s=[]
 ·rw[if_pos y]at g;have:A=[]:=by rw[g];rfl
  subst this;simp(disch:=omega)[y];subst a;simp(disch:=omega);exact ae.refl _
 rw[if_neg y]at g;simp(disch:=omega)[y];subst a;simp only[aq];rw[aw];generalize a:aP aE _ _=K;have P:=ah8 s;obtain⟨p,f⟩:=aC (HO s);rw[<-f]at g P;have post:∀σ:Nat->Value,σ 0=S p->K 0 σ h:=by
  intro σ q0;subst a;simp only[aq];rw[aw,cy];generalize a:aP aE _ _ 0=K;simp(disch:=omega)[q0];refine aO (aBY h hp) ?_;rintro dv h1⟨g1,od,sd⟩;have vd:=od.vr;have vd0:=vd;obtain⟨W',H',pd,sP,tT,tV,oR,uH,wZ,xi,wP,w9,w5,xj,rfl,_⟩:=vd.jx;simp(disch:=omega);subst a;simp only[aq];rw[aw];generalize Y:aP aE _ _=PP;rw[aw,cy];generalize a:aP aE _ _ 0=K;simp(disch:=omega)[q0];refine aO (CB (.inl rfl) p 10 (by omega) h1 (aL hp g1)) ?_;rintro wv h2⟨g2,Nj⟩;have gT:=g1.trans g2;obtain⟨wb,rfl,H⟩:=Nj.Fs;have Gs:=uK 10 p [];obtain⟨L,W⟩:=aC (fF 10 p);have yi:∀x∈L,x.length<=1048576:=by intro x hx;rw[W]at hx;have:=Gs x hx;simp at this;omega
  rw[<-W]at H g ⊢;have N:qS [] 60 qB L A:=by unfold qS;rw[g];rfl
  clear g W Gs;simp(disch:=omega);subst a;simp only[aq];have full:∀(τ:Nat->Value) (h':a9),ae h h'->τ 2=S A->PP 1 τ h':=by intro τ h' j t2;subst Y;simp(disch:=omega)[t2];exact j
  have fin:∀(τ:Nat->Value) (h':a9),ae h h'->τ 4=S A->PP 0 τ h':=by intro τ h' j n;subst Y;simp(disch:=omega)[n];exact j
  clear Y;simp(disch:=omega);have b0:∀(σ:Nat->Value) (h':a9),PP 0 σ h'->eY 0 PP 2 σ h':=by intro σ h' x;rw[fk,if_pos rfl];exact x
  have b1:∀(σ:Nat->Value) (h':a9),PP 1 σ h'->eY 0 PP 1 σ h':=by intro σ h' x;rw[fk,if_neg (by omega)];exact x
  generalize eY 0 PP=B0 at b0 b1 ⊢;refine aU (λi τ h'=>i<=L.length∧i<=60∧ae h2 h'∧aBF h' (τ 3) (τ 4) i L A∧τ 27=sl wb 0 L.length 1∧τ 28=I L.length∧τ 29=I i) (λi=>L.length-i) 0 ?_ ?_
  ·exact⟨by omega,by omega,ae.refl _,⟨qB,[],by simpa using vd0.grow g2,O0,by simp,by simp,by simpa using N⟩,by simp,by simp,by simp⟩
  rintro i τ h'⟨hi,hi6,E,⟨J,O,vJ,M,n,lO,d⟩,oj,k,b⟩;have j:=gT.trans E;simp(disch:=omega)[k,b];refine aG (λbB=>?_) (λdG=>?_)
  ·have c:i<L.length:=by omega
   have V:cell h' wb i=some (S L[i]):=by have H:=H.resolve_left (by intro e;rw[e]at c;simp at c);have:=(fQ (E.aZ H) (i:=i) (by omega)).1;rw[dt]at this;rw[this];simp[texts,ah c]
   have ml:=yi _ (aD c);rw[bt c]at d;obtain⟨s1,NY⟩:=aC (L[i]);rw[<-NY]at V ml d;have o:=vJ;obtain⟨W2,H2,y1,y2,y3,y4,y5,y6,y7,y8,y9,y10,y11,y12,G,_⟩:=vJ.jx;rw[G]at o;by_cases YN:i=60
   ·subst YN;have e5:xB 5++[10]=[101,114,114,111,114,32,102,117,108,108,10]:=by decide
    have ef:=qS.full d;rw[e5]at ef;have f1:O.length<=4611686018427387893:=by omega
    have Z:(60:Int)<L.length:=by omega
    have toN:((60:Nat):Int)=60:=rfl;simp(disch:=omega)[oj,b,c,Z,V,n,f1];refine b1 _ _ (full _ h' j ?_);rw[<-ef]
    try simp
   have R:¬(i:Int)=60:=by omega
   rw[show 60-i=(60-(i+1))+1 by omega]at d;have call:=c76 h' (aL hp j) _ J s1 o (Cq M) ml;have Uj:=@GJ J s1;have u:=d.step;have v:=d.skip;obtain⟨D,eD⟩:=aC (fW J s1);rw[<-eD]at call Uj u v;have wk:=cQ ((i:Int)+1) (((i+1:Nat):Int));simp(disch:=omega)[G,oj,b,c,V,YN,R];refine aO call ?_;rintro _ h3⟨z,r0,r1,l1,l2,k1,k2,rfl,vo0,vo1,_⟩;have G3:=j.trans z;have Za:=vo0.vr;have Q:=Za;obtain⟨W',H',pd,sP,tT,tV,oR,uH,wZ,xi,wP,w9,w5,xj,rfl,_⟩:=Za.jx;obtain⟨tb,tz,rfl,tc⟩:=Xq vo1;by_cases C:D.2.2=0
   ·obtain⟨bd,okD⟩:=Uj C;have u:=u C;have bl:=bd.2.1;have b3:=bd.2.2;simp(disch:=omega)[C,n,G];obtain⟨Ls,X⟩:=aC D.2.1;rw[<-X]at u bl b3 tc ⊢;refine aU (λm ρ hh=>hh=h3∧m<=Ls.length∧PO (ρ 4) O Ls m∧ρ 3=.agg #[I W',I H',sl pd sP tT tV,sl oR uH wZ xi,sl wP w9 w5 xj]∧ρ 27=sl wb 0 L.length 1∧ρ 28=I L.length∧ρ 29=I i∧ρ 50=sl tb 0 Ls.length tz∧ρ 51=I Ls.length∧ρ 52=I m) (λm=>Ls.length-m) 0 ?_ ?_
    ·exact⟨rfl,by omega,by simpa [PO,ja]using n,by simp,by simpa using oj,by simpa using k,by simpa using b,by simp,by simp,by simp⟩
    rintro m ρ hh⟨rfl,hm,q,p3,YF,YG,p29,p50,p51,B⟩;simp(disch:=omega)[p51,B];refine aG (λbB=>?_) (λdG=>?_)
    ·have F:m<Ls.length:=by omega
     have w:=tc m F;have lm:=b3 _ (aD F);have ls:=M6 (L:=Ls.take m) (λl hl=>b3 l (gL hl));rw[bu]at ls;have sn:=agV (Ls.take m) Ls[m];have tk:Ls.take (m+1)=Ls.take m++[Ls[m]]:=aj F;unfold PO at q;obtain⟨T,eT⟩:=aC (ja (Ls.take m));obtain⟨x,ex⟩:=aC (Ls[m]);rw[<-eT]at q ls sn;rw[<-ex]at w lm sn tk;have wm:=cQ ((m:Int)+1) (((m+1:Nat):Int));have f1:x.length<=4611686018427387903:=by omega
     have f2:O.length+T.length+(x.length+1)<=4611686018427387904:=by omega
     have f3:O.length+(T.length+(x.length+1))<=4611686018427387904:=by omega
     have aLI:PO (S (O++(T++(x++[10])))) O Ls (m+1):=by unfold PO;rw[tk,sn]
     simp(disch:=omega)[q,p50,B,F,w,f1,f2,f3]
     try simp(disch:=omega)[wm]
     refine⟨m+1,?_,by omega⟩;and_intros<;>first|assumption|omega|rfl
    ·have:m=Ls.length:=by omega
     subst this;have ls:=M6 (L:=Ls) b3;unfold PO at q;rw[aK]at q;simp(disch:=omega)[p29,wk];refine⟨i+1,⟨by omega,by omega,E.trans z,?_,YF,YG,by omega⟩,by omega⟩;rw[p3];exact⟨D.1,_,Q,okD,q,by rw[af];omega,u⟩
   ·have v:=v C;have f1:O.length<=4611686018427387902:=by omega
    simp(disch:=omega)[C,n,f1,b]
    try simp(disch:=omega)[wk]
    refine⟨i+1,⟨by omega,by omega,E.trans z,?_,oj,k,by omega⟩,by omega⟩
    first
     |exact⟨J,_,vJ.grow z,M,by simp,by rw[af];simp;omega,v⟩
     |(rw[G];exact⟨J,_,o.grow z,M,by simp,by rw[af];simp;omega,v⟩)
  ·have:i=L.length:=by omega
   subst this;rw[nA]at d;have:=d.done;subst this;simp(disch:=omega);refine b0 _ _ (fin _ h' j (by simpa using n))
 clear a;rcases mn s with rfl|⟨t,x,e⟩
 ·exact absurd rfl y
 have e:s=t++[x]:=by rw[e];simp
 subst e;have xH:(t++[x]).length=t.length+1:=by simp
 rw[xH]at hl;have e2:((t.length:Int)+1)-1=(t.length:Nat):=by omega
 have c:(t.length:Int)<t.length+1:=by omega
 unfold HO at f;by_cases hx:x=10
 ·subst hx;have es:gS 0 h (S (t++[10])) none (some (I (t.length:Nat))) none=some (S t,h):=by rw[Wv (by simp)];simp
  have f:p=t:=by rw[f];simp
  simp(disch:=omega)[wrap64,e2,c,es];exact post _ (by simp[f])
 ·have rL:¬((x.toNat:Int)=10):=by intro e;exact hx (rA.1 (by have:(10:UInt8).toNat=10:=rfl;omega))
  have U:¬(x.toNat=10):=by omega
  have f:p=t++[x]:=by rw[f,if_neg (by simpa using hx)]
  simp(disch:=omega)[wrap64,e2,c,rL,U];exact post _ (by simp[f])
def ss(sb ob:Nat)(h h':a9):Prop:=h.length<=h'.length∧∀b,b<h.length->b≠sb->(b≠ob∨ob=0)->h'[b]?=h[b]?
theorem ss.refl:ss sb ob h h:=⟨aa _,λ_ _ _ _=>rfl⟩
theorem ss.of(g:ae h h'):ss sb ob h h':=⟨g.le,λb a _ _=>g.look a⟩
theorem ss.trans(x:ss sb ob h h1)(y:ss sb sr h1 h2)(e:sr=ob∨h.length<=sr):ss sb ob h h2:=by
 refine⟨a7 x.1 y.1,λb a h1 h2=>?_⟩;rw[y.2 b (bQ a x.1) h1 ?_,x.2 b a h1 h2];rcases e with e|e
 ·rw[e];exact h2
 ·exact .inl (by omega)
def JS(h:a9)(sb ob:Nat)(v:Value)(J:de):Prop:=∀h',ss sb ob h h'->Vr h' ba v J
theorem JS.vr{v:Value}{J:de}(x:JS h sb ob v J):Vr h ba v J:=x h ss.refl
theorem JS.mod{v:Value}{J:de}(x:JS h sb ob v J)(m:ss sb ob h h')(e:sr=ob∨h.length<=sr):JS h' sb sr v J:=λh2 a=>x h2 (m.trans a e)
theorem JS.voj{hi:Nat}{v:Value}{J:de}(x:xF h lo hi v J)(h1:sb<lo)(h2:ob<lo):JS h sb ob v J:=λh' m=>(x.mod (tu:=0) (iY:=lo) ⟨m.1,λb a c=>m.2 b a (by omega) (.inl (by omega))⟩ (.inr (aa _))).vr
theorem JS.vo{hi:Nat}{v:Value}{J:de}(x:Vo h lo hi ba v J)(h1:sb<lo)(h2:ob<lo):JS h sb ob v J:=λh' m=>(x.mod (tu:=0) (iY:=lo) ⟨m.1,λb a c=>m.2 b a (by omega) (.inl (by omega))⟩ (.inr (aa _))).vr
structure tL (sb ob:Nat) (h:a9) (J:de) (out:List (List UInt8)):Prop where
 box:∃W H b1 o1 n1 z1 b2 o2 n2 z2 b3 o3 n3 z3 oy,h[sb]?=some ⟨[I W,I H,sl b1 o1 n1 z1,sl b2 o2 n2 z2,sl b3 o3 n3 z3,sl ob 0 out.length oy],true⟩∧JS h sb ob (.agg #[I W,I H,sl b1 o1 n1 z1,sl b2 o2 n2 z2,sl b3 o3 n3 z3]) J∧(out=[]∨oy=1)
 out:(out=[]∧ob=0)∨(ob≠0∧out≠[]∧h[ob]?=some ⟨texts out,true⟩)
 ne:sb≠0∧ob≠sb
def yX(sb ob:Nat)(h h':a9)(J:de)(out:List (List UInt8)):Prop:=ss sb ob h h'∧∃sr,(sr=ob∨h.length<=sr)∧tL sb sr h' J out
theorem tL.grow{J:de}(x:tL sb ob h J out)(g:ae h h'):tL sb ob h' J out:=by obtain⟨⟨W,H,b1,o1,n1,z1,b2,o2,n2,z2,b3,o3,n3,z3,oy,a,b,c⟩,d,e⟩:=x;exact⟨⟨W,H,b1,o1,n1,z1,b2,o2,n2,z2,b3,o3,n3,z3,oy,g.at a,b.mod (ss.of g) (.inl rfl),c⟩,d.imp id λq=>⟨q.1,q.2.1,g.at q.2.2⟩,e⟩
theorem tL.st{J:de}(x:tL sb ob h J out)(g:ae h h'):yX sb ob h h' J out:=⟨ss.of g,ob,.inl rfl,x.grow g⟩
theorem yX.after{J:de}(g:ae h h1)(y:yX sb ob h1 h2 J out):yX sb ob h h2 J out:=by obtain⟨m,sr,e,s⟩:=y;exact⟨(ss.of g).trans m (.inl rfl),sr,e.imp id λq=>a7 g.le q,s⟩
theorem yX.then{J:de}(m:ss sb ob h h1)(e:sr=ob∨h.length<=sr)(y:yX sb sr h1 h2 J out):yX sb ob h h2 J out:=by
 obtain⟨c,b,a,s⟩:=y;refine⟨m.trans c e,b,?_,s⟩;rcases a with a|a
 ·rw[a];exact e
 ·exact .inr (a7 m.1 a)
theorem tL.lt{J:de}(x:tL sb ob h J out):sb<h.length∧ob<h.length:=by
 obtain⟨⟨W,H,b1,o1,n1,z1,b2,o2,n2,z2,b3,o3,n3,z3,oy,a,_⟩,d,e⟩:=x;have:=bZ a;refine⟨this,?_⟩;rcases d with⟨_,d⟩|⟨_,_,d⟩
 ·omega
 ·exact bZ d
theorem tL.push{J:de}(x:tL sb ob h J out)(hn:cR 1 h nx=some (texts Ls))(o:Ls≠[])(hl:out.length+Ls.length<=1000000):∃ov h2 sr r,cell h sb 5=some ov∧cu 1 h nx ov=some (sl sr 0 (out.length+Ls.length) 1,h2)∧storeAt h2 sb 5 [sl sr 0 (out.length+Ls.length) 1]=some r∧yX sb ob h r J (out++Ls):=by
 have lt:=x.lt;obtain⟨⟨W,H,b1,o1,n1,z1,b2,o2,n2,z2,b3,o3,n3,z3,oy,a,j,c⟩,d,u,v⟩:=x;have tl:(texts Ls).length=Ls.length:=by simp[texts]
 have l:texts Ls≠[]:=by intro q;have:=congrArg List.length q;rw[tl]at this;simp at this;exact o this
 have key:∃h2 sr,cu 1 h nx (sl ob 0 out.length oy)=some (sl sr 0 (out.length+Ls.length) 1,h2)∧h.length<=h2.length∧(∀b,b<h.length->(b≠ob∨ob=0)->h2[b]?=h[b]?)∧h.length<=sr∧h2[sr]?=some ⟨texts (out++Ls),true⟩:=by
  rcases d with⟨g,i⟩|⟨g,i,p⟩
  ·subst g;subst i;refine⟨h++[⟨texts Ls,true⟩],h.length,?_,by simp,λb f _=>ai f,aa _,by simp⟩;simp only[cu,hn];rw[if_neg (by omega),if_neg l,if_neg (by simp[maxSize];omega),if_pos trivial];rw[tl];simp
  ·have c1:=c.resolve_left i;subst c1;have w:=cI (n:=out.length*1) p (by simp[texts]);refine⟨List.set h ob (⟨[],false⟩:mm)++[⟨texts out++texts Ls,true⟩],h.length,?_,by simp,?_,aa _,?_⟩
   ·simp only[cu,hn];rw[if_neg (by omega),if_neg l,if_neg (by simp[maxSize,tl];omega),if_neg g];simp only[p];rw[if_pos ⟨trivial,trivial⟩,w];simp[tl]
   ·intro b f q;have:=q.resolve_right g;rw[ai (by simpa using f),ag (λe=>this e.symm)]
   ·rw[aX (by simp)];simp[texts]
 obtain⟨h2,sr,y,z,s,t,A⟩:=key;have k:h2[sb]?=some ⟨[I W,I H,sl b1 o1 n1 z1,sl b2 o2 n2 z2,sl b3 o3 n3 z3,sl ob 0 out.length oy],true⟩:=by rw[s sb lt.1 (.inl v.symm)];exact a
 have m:ss sb ob h (h2.set sb ⟨[I W,I H,sl b1 o1 n1 z1,sl b2 o2 n2 z2,sl b3 o3 n3 z3,sl sr 0 (out.length+Ls.length) 1],true⟩):=by refine⟨by simpa using z,λb f h1 h2=>?_⟩;rw[ag (λq=>h1 q.symm),s b f h2]
 refine⟨sl ob 0 out.length oy,h2,sr,_,i9 a (by simp),y,yE k (by simp),m,sr,.inr t,⟨⟨W,H,b1,o1,n1,z1,b2,o2,n2,z2,b3,o3,n3,z3,1,?_,j.mod m (.inr t),.inr rfl⟩,.inr ⟨by omega,by simp[o],?_⟩,u,by omega⟩⟩
 ·rw[jy k];simp
 ·show(List.set h2 sb _)[sr]?=_
  rw[ag (by omega)];exact A
theorem tL.aFf{J e:de}{z1 z2 z3:Nat}(x:tL sb ob h J out)(j:JS h sb ob (.agg #[I W,I H,sl b1 o1 n1 z1,sl b2 o2 n2 z2,sl b3 o3 n3 z3]) e):∃h1,storeAt h sb 0 [I W,I H,sl b1 o1 n1 z1,sl b2 o2 n2 z2,sl b3 o3 n3 z3]=some h1∧yX sb ob h h1 e out∧tL sb ob h1 e out∧(∀b,b≠sb->h1[b]?=h[b]?)∧h1.length=h.length:=by
 have lt:=x.lt;obtain⟨⟨l,k,c1,u,p,y1,c2,v,r,y2,n,w,t,y,oy,a,o,c⟩,d,i,f⟩:=x;have m:ss sb ob h (h.set sb ⟨[I W,I H,sl b1 o1 n1 z1,sl b2 o2 n2 z2,sl b3 o3 n3 z3,sl ob 0 out.length oy],true⟩):=by refine⟨by simp,λb g h1 h2=>?_⟩;rw[ag (λq=>h1 q.symm)]
 have s:tL sb ob (h.set sb ⟨[I W,I H,sl b1 o1 n1 z1,sl b2 o2 n2 z2,sl b3 o3 n3 z3,sl ob 0 out.length oy],true⟩) e out:=by refine⟨⟨W,H,b1,o1,n1,z1,b2,o2,n2,z2,b3,o3,n3,z3,oy,jy a,j.mod m (.inl rfl),c⟩,d.imp id λq=>⟨q.1,q.2.1,?_⟩,i,f⟩;rw[ag (λq=>f q.symm)];exact q.2.2
 refine⟨_,?_,⟨m,ob,.inl rfl,s⟩,s,λb g=>ag (λq=>g q.symm),by simp⟩;unfold storeAt;rw[a];simp[iK]
def qh(J:de)(A:de×List (List UInt8)×Int):de:=if A.2.2=0 then A.1 else J
def nF(A:de×List (List UInt8)×Int):List (List UInt8):=if A.2.2=0 then A.2.1 else[xB A.2.2]
theorem NJ(sb ob:Nat)(h:a9)(J:de)(out:List (List UInt8))(t:List UInt8)(x:tL sb ob h J out)(hl:out.length<=900000):aN aE 17 [pt sb 0,S t] h λr h'=>r=.tuple #[]∧yX sb ob h h' J (out++[t]):=by
 have d:=x.grow (⟨[⟨[S t],true⟩],rfl⟩:ae h (h++[⟨[S t],true⟩]));have hn:cR 1 (h++[⟨[S t],true⟩]) (sl h.length 0 1 1)=some (texts [t]):=by simp[cR];rw[fB (k:=⟨[S t],true⟩) (by simp) (by simp)];simp[texts]
 obtain⟨ov,h2,sr,e,a,b,c,st⟩:=d.push hn (by simp) (by simp;omega);have k0:cell h sb 5=some ov:=by have:=x.lt.1;unfold cell at a ⊢;rw[ai this]at a;exact a
 refine afq ?_;simp(disch:=omega)[k0,pM];simp only[dH]at b c;simp(disch:=omega)[b,c];exact st.after ⟨_,rfl⟩
theorem QR(sb ob:Nat)(h:a9)(hp:0<h.length)(J:de)(out:List (List UInt8))(c:Int)(x:tL sb ob h J out)(hl:out.length<=900000):aN aE 16 [pt sb 0,I c] h λr h'=>r=B (!decide (c=0))∧(c=0->h'=h)∧(c≠0->yX sb ob h h' J (out++[xB c])):=by
 refine afq ?_;by_cases e:c=0
 ·simp(disch:=omega)[e]
 have a:=aCD c h;have f:xB c=[101,114,114,111,114,32]++mK c:=rfl;have b:=HT c;rw[f]at b ⊢;simp only[af,az,aF]at b;obtain⟨N,d⟩:=aC (mK c);rw[<-d]at a b ⊢;have f1:N.length+6<=4611686018427387904:=by omega
 have f2:6+N.length<=4611686018427387904:=by omega
 have f3:N.length<=4611686018427387898:=by omega
 simp(disch:=omega)[e];refine aO a ?_;rintro _ h1⟨rfl,g1⟩;have call:=NJ sb ob h1 J out ([101,114,114,111,114,32]++N) (x.grow g1) hl;simp(disch:=omega)[f1,f2,f3];simp only[fx,df]at call;refine aO call ?_;rintro _ h2⟨rfl,st⟩
 try simp(disch:=omega)
 exact st.after g1
theorem T3(sb ob:Nat)(h:a9)(hp:0<h.length)(J:de)(out:List (List UInt8))(t:List UInt8)(c:Int)(x:tL sb ob h J out)(hl:out.length<=900000):aN aE 19 [pt sb 0,S t,I c] h λr h'=>r=.tuple #[]∧yX sb ob h h' J (out++nF (J,[t],c)):=by
 have call:=QR sb ob h hp J out c x hl;refine ag8 λK a=>?_;refine aO call ?_;rintro _ h1⟨rfl,b,d⟩;refine a ?_;by_cases e:c=0
 ·have:=b e;subst this;have rl:nF (J,[t],c)=[t]:=by unfold nF;rw[if_pos e]
  rw[rl];simp(disch:=omega)[e];refine aO (NJ sb ob h1 J out t x hl) ?_;rintro _ h2⟨rfl,st⟩
  try simp(disch:=omega)
  exact st
 ·have st:=d e;have rl:nF (J,[t],c)=[xB c]:=by unfold nF;rw[if_neg e]
  rw[rl];simp(disch:=omega)[e];exact st
theorem akT(h:a9)(hp:0<h.length)(v:Value)(J:de)(a:BP h v J)(ok:gK J=true):aN aE 580 [v] h λr h'=>ae h h'∧r=S (rK J):=by obtain⟨⟨W,H,br⟩,p,f⟩:=J;obtain⟨b,hle,_⟩:=nh ok;exact aDL h hp v W H br p f a (dK.2 b) (by omega) (by omega)
theorem V7{z1 z2 z3:Nat}{J:de}(j:aZ h b 0 5=some [I W,I H,sl b1 o1 n1 z1,sl b2 o2 n2 z2,sl b3 o3 n3 z3])(v:Vr h ba (.agg #[I W,I H,sl b1 o1 n1 z1,sl b2 o2 n2 z2,sl b3 o3 n3 z3]) J):BP h (pt b 0) J:=by obtain⟨⟨o,n,br⟩,p,f⟩:=J;obtain⟨s,sp,q,e,w1,w2,k,l,m⟩:=v.og;simp at e;obtain⟨a,c,d,g,i⟩:=e;subst a;subst c;subst d;subst g;subst i;exact⟨b,0,_,_,_,rfl,j,k,l,m,w1,w2⟩
theorem c12(sb ob:Nat)(h:a9)(hp:0<h.length)(J a:de)(out:List (List UInt8))(v:Value)(c:Int)(x:tL sb ob h J out)(hl:out.length<=900000)(j:JS h sb ob v a)(ok:c=0->gK a=true):aN aE 12 [pt sb 0,v,I c] h λr h'=>r=.tuple #[]∧yX sb ob h h' (qh J (a,[rK a],c)) (out++nF (a,[rK a],c)):=by
 obtain⟨W,H,b1,o1,n1,z1,b2,o2,n2,z2,b3,o3,n3,z3,rfl,_⟩:=j.vr.jx;have lt:=x.lt;refine ag8 λK b=>?_;obtain⟨h1,d⟩:=aC (h++[⟨[I W,I H,sl b1 o1 n1 z1,sl b2 o2 n2 z2,sl b3 o3 n3 z3],true⟩]);have g1:ae h h1:=⟨_,d⟩;have m:h1[h.length]?=some ⟨[I W,I H,sl b1 o1 n1 z1,sl b2 o2 n2 z2,sl b3 o3 n3 z3],true⟩:=by rw[d];simp
 rw[<-d];have o:=x.grow g1;have l:=j.mod (ss.of g1) (.inl rfl);have call:=QR sb ob h1 (aL hp g1) J out c o hl;refine b ?_;rw[aw];generalize b:aP aE _ _=K;simp(disch:=omega);refine aO call ?_;rintro _ h2⟨rfl,y,z⟩;by_cases e:c=0
 ·have:=y e;subst this;have f:qh J (a,[rK a],c)=a:=by unfold qh;rw[if_pos e]
  have rl:nF (a,[rK a],c)=[rK a]:=by unfold nF;rw[if_pos e]
  obtain⟨k,p,jt,A,s,l3⟩:=o.aFf l;have u:=cI (n:=5) m rfl;have q:k[h.length]?=some ⟨[I W,I H,sl b1 o1 n1 z1,sl b2 o2 n2 z2,sl b3 o3 n3 z3],true⟩:=by rw[s _ (by omega)];exact m
  have w:=V7 (cI (n:=5) q rfl) (l.mod jt.1 (.inl rfl)).vr;simp(disch:=omega)[e];subst b;rw[f,rl];simp only[aq];refine bg λK b=>?_;simp(disch:=omega)[u,p];refine b ?_;simp(disch:=omega);refine aO (akT k (by have:=aL hp g1;omega) _ a w (ok e)) ?_;rintro _ t⟨i,rfl⟩
  try simp(disch:=omega)
  refine aO (NJ sb ob t a out _ (A.grow i) hl) ?_;rintro _ B⟨rfl,g⟩
  try simp(disch:=omega)
  exact((g.after i).then jt.1 (.inl rfl)).after g1
 ·have st:=z e;have f:qh J (a,[rK a],c)=J:=by unfold qh;rw[if_neg e]
  have rl:nF (a,[rK a],c)=[xB c]:=by unfold nF;rw[if_neg e]
  simp(disch:=omega)[e];subst b;rw[f,rl];simp(disch:=omega);exact st.after g1
theorem tL.view{J:de}(x:tL sb ob h J out):∃W H b1 o1 n1 z1 b2 o2 n2 z2 b3 o3 n3 z3,aZ h sb 0 3=some [I W,I H,sl b1 o1 n1 z1]∧aZ h sb 0 5=some [I W,I H,sl b1 o1 n1 z1,sl b2 o2 n2 z2,sl b3 o3 n3 z3]∧Vr h bU (.agg #[I W,I H,sl b1 o1 n1 z1]) J.1∧Vr h ba (.agg #[I W,I H,sl b1 o1 n1 z1,sl b2 o2 n2 z2,sl b3 o3 n3 z3]) J:=by
 obtain⟨⟨W,H,b1,o1,n1,z1,b2,o2,n2,z2,b3,o3,n3,z3,oy,a,j,c⟩,d,i,k⟩:=x;have b:=j.vr;refine⟨W,H,b1,o1,n1,z1,b2,o2,n2,z2,b3,o3,n3,z3,?_,?_,?_,b⟩
 ·rw[fB a (by simp)];rfl
 ·rw[fB a (by simp)];rfl
 ·obtain⟨g,f,m,n,o,q,l,r,v,w,u,t,s,y,e,p⟩:=b.jx;simp at e;obtain⟨rfl,rfl,⟨⟨rfl,rfl⟩,rfl,rfl⟩,_⟩:=e;exact p
def vu(A:de×Int):de×List (List UInt8)×Int:=(A.1,[rK A.1],A.2)
theorem NM{J:de}(A:de×Int):qh J (Aa J A)=qh J (vu A):=by unfold qh Aa vu;by_cases e:A.2=0<;>simp[e]
theorem NN{J:de}(A:de×Int):nF (Aa J A)=nF (vu A):=by unfold nF Aa vu;by_cases e:A.2=0<;>simp[e]
theorem se{J:de}{L:List (List UInt8)}:qh J (J,L,c)=J:=by unfold qh;split<;>rfl
def Mq(P:bW)(c:Int):de×Int:=if c=0 then oX P else(oC,c)
theorem ayb{P:bW}(h:(oX P).2=0):gK (oX P).1=true:=by
 unfold oX at h ⊢;split at h
 ·rename_i q;rw[if_pos q];exact oT.2 ⟨q,by simp,⟨_,rfl⟩,_,rfl⟩
 ·simp at h
theorem c11(sb ob:Nat)(h:a9)(hp:0<h.length)(J:de)(out:List (List UInt8))(v:Value)(P:bW)(c:Int)(x:tL sb ob h J out)(hl:out.length<=900000)(j:Vr h bU v P)(n:hI bU P<=1048576):aN aE 11 [pt sb 0,v,I c] h λr h'=>r=.tuple #[]∧yX sb ob h h' (qh J (vu (Mq P c))) (out++nF (vu (Mq P c))):=by
 have lt:=x.lt;have k:=j;obtain⟨A,i⟩:=aC (Mq P c);have a:=i;unfold Mq at a;rw[<-i];obtain⟨W,H,b1,o1,n1,z1,rfl⟩:=j.px;have call:=QR sb ob h hp J out c x hl;refine ag8 λK b=>?_;refine b ?_;rw[aw];generalize b:aP aE _ _=K;simp(disch:=omega);refine aO call ?_;rintro _ h2⟨rfl,q,s⟩;by_cases e:c=0
 ·have:=q e;subst this;rw[if_pos e]at a;have g:=@ayb P;have d:=aCP h2 hp _ P k n;obtain⟨w,l⟩:=aC (oX P);rw[<-l]at d g a;subst a;simp(disch:=omega)[e];subst b;simp only[aq];refine akW λK b=>?_;refine aO d ?_;rintro _ m⟨f,D,rfl,o,_⟩;have p:=JS.vo (sb:=sb) (ob:=ob) o lt.1 lt.2;obtain⟨y,u,C,E,F,G,B,L,Q,R,O,N,M,S,rfl,_⟩:=o.vr.jx;simp(disch:=omega);refine b ?_;simp(disch:=omega);refine aO (c12 sb ob m (aL hp f) J A.1 out _ A.2 (x.grow f) hl p g) ?_;rintro _ z⟨rfl,st⟩
  try simp(disch:=omega)
  exact st.after f
 ·have st:=s e;rw[if_neg e]at a;subst a;simp(disch:=omega)[e];subst b;have t:qh J (vu (oC,c))=J:=by unfold qh vu;rw[if_neg e]
  have rl:nF (vu (oC,c))=[xB c]:=by unfold nF vu;rw[if_neg e]
  rw[t,rl];simp(disch:=omega);exact st
theorem c18(sb ob:Nat)(h:a9)(hp:0<h.length)(J:de)(out:List (List UInt8))(a b k:Int)(x:tL sb ob h J out)(ok:gK J=true)(hl:out.length<=900000)(E:bK k):aN aE 18 [pt sb 0,I a,I b,I k] h λr h'=>r=.tuple #[]∧yX sb ob h h' (qh J (vu (Fm J a b k))) (out++nF (vu (Fm J a b k))):=by
 have lt:=x.lt;have F:=Cq ok;obtain⟨W,H,b1,o1,n1,z1,b2,o2,n2,z2,b3,o3,n3,z3,O,P,R,Q⟩:=x.view;have m:=agd J.1 a b;have l:=aCR h hp _ J.1 a b R;have s:∀i,(lR J i k).2=0->gK (lR J i k).1=true:=by
  intro i q;have:=NP (w:=zr) (n:=[a,b,k]) ok;unfold lR at q ⊢;rw[if_pos ok]at q ⊢;split at q
  ·rename_i q2;rw[if_pos q2];obtain⟨⟨W,H,br⟩,p,f⟩:=J;exact(ae0 ok q2).1
  ·rename_i q2;exact absurd q q2
 obtain⟨A,z⟩:=aC (Fm J a b k);have d:=z;unfold Fm at d;rw[<-z];obtain⟨c,C⟩:=aC (As J.1 a b);rw[<-C]at m l d;refine afq ?_;refine bg λK g=>?_;simp(disch:=omega)[O];refine aO l ?_;rintro _ h1⟨rfl,g1⟩
 try simp(disch:=omega)
 have v:=x.grow g1;have call:=QR sb ob h1 (aL hp g1) J out c.2 v hl;refine g ?_;rw[aw];generalize g:aP aE _ _=K;simp(disch:=omega);refine aO call ?_;rintro _ h2⟨rfl,L,M⟩;by_cases e:c.2=0
 ·have:=L e;subst this;rw[if_pos e]at d;have s:=s c.1;have u:=g1.aZ P;have j:=aCK h2 (aL hp g1) _ J (Q.grow g1) F c.1 m k E;obtain⟨S,B⟩:=aC (lR J c.1 k);rw[<-B]at j s d;subst d;simp(disch:=omega)[e];subst g;simp only[aq];refine bg λK g=>?_;simp(disch:=omega)[u];refine aO j ?_;rintro _ D⟨t,Z,rfl,o,_⟩;have y:=v.lt;have G:=JS.vo (sb:=sb) (ob:=ob) o y.1 y.2;obtain⟨U,T,Y,sP,tT,tV,X,uH,wZ,xi,wP,w9,w5,xj,rfl,_⟩:=o.vr.jx;simp(disch:=omega);refine g ?_;simp(disch:=omega);refine aO (c12 sb ob D (aL (aL hp g1) t) J A.1 out _ A.2 (v.grow t) hl G s) ?_;rintro _ V⟨rfl,st⟩
  try simp(disch:=omega)
  exact(st.after t).after g1
 ·have st:=M e;rw[if_neg e]at d;subst d;simp(disch:=omega)[e];subst g;have N:qh J (vu (oC,c.2))=J:=by unfold qh vu;rw[if_neg e]
  have rl:nF (vu (oC,c.2))=[xB c.2]:=by unfold nF vu;rw[if_neg e]
  rw[N,rl];simp(disch:=omega);exact st.after g1
end Am

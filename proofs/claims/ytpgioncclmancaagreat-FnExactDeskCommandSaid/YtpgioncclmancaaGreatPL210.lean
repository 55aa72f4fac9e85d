/- The contract of the law FnExactDeskCommand; written by a program (lawgen.py), then changed by hand: the reference's results are read, the program's two results lie in two ranges. -/
import Derived.Test.YtpgioncclmancaaGreatPK24
set_option linter.unusedVariables false
set_option linter.unusedSimpArgs false
set_option maxRecDepth 20000
set_option maxHeartbeats 4000000
namespace Am
open Go
theorem aHM:aE 261=some axC:=rfl
theorem aHN:aE 262=some axD:=rfl
theorem aHO:aE 277=some axF:=rfl
theorem aHP:aE 284=some axH:=rfl
theorem aHQ:aE 292=some axJ:=rfl
theorem asw:aE 299=some axL:=rfl
theorem aHR:aE 300=some axM:=rfl
theorem aeI{g:Nat}(a:aE g=some axL):Zh g Dk:=by rintro h v⟨(x:Int),(y:Int),(z:Int)⟩ hp b c;obtain⟨rfl,w⟩:=b.zo;refine CF a rfl ?_;unfold axL;simp(disch:=omega)[gV,bD];exact⟨ae.refl _,_,[],YD.2 ⟨rfl,w,rfl⟩,rfl,by simp,by simp⟩
theorem agh{g:Nat}(a:aE g=some axC):IZ g Dk:=by rintro h v w⟨(x:Int),(y:Int),(z:Int)⟩ b hw;obtain⟨rfl,_⟩:=b.zo;obtain⟨rfl,_⟩:=hw.zo;refine CF a rfl ?_;unfold axC;simp(disch:=omega)
theorem ae5{g:Nat}(a:aE g=some axJ):aoe g gC:=by
 intro h v (X:List dF) left c hl;obtain⟨b,o,f,rfl,d,hm,hx,e⟩:=c.cW;rw[cH]at hm;refine CF a rfl ?_;unfold axJ;simp(disch:=omega)[wrap64];rw[So];refine aG (λh1=>?_) (λh1=>?_)
 ·rw[if_neg (by omega)];simp
 ·rw[if_pos (by omega)];simp;omega
theorem aeN{g:Nat}(z:aE g=some axH):Tr g gC:=by
 intro h lo hi v (X:List dF) k A s;obtain⟨d,C,rfl,t,hm,hx,c⟩:=A.cW;rw[Jm]at s;rw[Jm,Kd];refine CF z rfl ?_;unfold axH;simp(disch:=omega);refine aU (λi σ h'=>i<=X.length∧Mod lo hi h h'∧σ 0=sl d 0 X.length C∧σ 1=I ((k+3*i:Nat):Int)∧σ 5=I i∧(X=[]∨h'[d]?=some ⟨cW (yV k i++X.drop i),true⟩)) (λi=>X.length-i) 0 ?_ ?_
 ·exact⟨by omega,Mod.refl _ _ _,by simp,by simp,by simp,by
   rcases c with c|c
   ·exact .inl c
   ·exact .inr (by simpa [yV]using c.1)⟩
 ·rintro i σ h'⟨iY,n,h0,h1,j,a⟩;simp(disch:=omega)[h0,j];refine aG (λf=>?_) (λF=>?_)
  ·have f:i<X.length:=by omega
   have p:X≠[]:=by intro e;subst e;simp at f
   have a:=a.resolve_left p;have c:=c.resolve_left p;have q:(cW (yV k i)).length=3*i:=by rw[gD,aBk]
   have l:=bZ a;rw[bt f,rJ,iX]at a;have s1:=ld (v:=I ((k:Int)+3*i)) (o:=i*3) a (by rw[af,q];simp;omega);rw[QC (by omega)]at s1;have w:(h'.set d ⟨cW (yV k i)++I ((k:Int)+3*i)::I X[i].2.1::I X[i].2.2::cW (X.drop (i+1)),true⟩)[d]?=some ⟨cW (yV k i)++I ((k:Int)+3*i)::I X[i].2.1::I X[i].2.2::cW (X.drop (i+1)),true⟩:=by simp[l]
   have s2:=ld (v:=I ((k:Int)+3*i+1)) (o:=i*3+1) w (by rw[af,q];simp;omega);rw[show cW (yV k i)++I ((k:Int)+3*i)::I X[i].2.1::I X[i].2.2::cW (X.drop (i+1))=(cW (yV k i)++[I ((k:Int)+3*i)])++I X[i].2.1::I X[i].2.2::cW (X.drop (i+1))by simp,QC (by simp;omega),iZ]at s2;have B:(h'.set d ⟨(cW (yV k i)++[I ((k:Int)+3*i)])++I ((k:Int)+3*i+1)::I X[i].2.2::cW (X.drop (i+1)),true⟩)[d]?=some ⟨(cW (yV k i)++[I ((k:Int)+3*i)])++I ((k:Int)+3*i+1)::I X[i].2.2::cW (X.drop (i+1)),true⟩:=by simp[l]
   have m:=ld (v:=I ((k:Int)+3*i+2)) (o:=i*3+2) B (by simp;omega);rw[show(cW (yV k i)++[I ((k:Int)+3*i)])++I ((k:Int)+3*i+1)::I X[i].2.2::cW (X.drop (i+1))=(cW (yV k i)++[I ((k:Int)+3*i),I ((k:Int)+3*i+1)])++I X[i].2.2::cW (X.drop (i+1))by simp,QC (by simp;omega),iZ]at m;rw[show cW (yV k i)++I ((k:Int)+3*i)::I X[i].2.1::I X[i].2.2::cW (X.drop (i+1))=(cW (yV k i)++[I ((k:Int)+3*i)])++I X[i].2.1::I X[i].2.2::cW (X.drop (i+1))by simp]at s1;rw[show(cW (yV k i)++[I ((k:Int)+3*i)])++I ((k:Int)+3*i+1)::I X[i].2.2::cW (X.drop (i+1))=(cW (yV k i)++[I ((k:Int)+3*i),I ((k:Int)+3*i+1)])++I X[i].2.2::cW (X.drop (i+1))by simp]at s2;generalize x:(cW (yV k i)++[I ((k:Int)+3*i)])++I X[i].2.1::I X[i].2.2::cW (X.drop (i+1))=D at s1 s2;generalize y:(cW (yV k i)++[I ((k:Int)+3*i),I ((k:Int)+3*i+1)])++I X[i].2.2::cW (X.drop (i+1))=E at s2 m;have u:(k:Int)+3*i+1+1=(k:Int)+3*i+2:=by omega
   simp(disch:=omega)[h0,h1,j,f,s1,wrap64];simp(disch:=omega)[h0,h1,j,f,s2,wrap64,u];simp(disch:=omega)[h0,h1,j,f,m,wrap64];refine⟨i+1,⟨by omega,n.put c.2 _,by omega,by omega,.inr ?_⟩,by omega⟩;rw[ayn];simp[rJ,iX,qe,l]
  ·have e:i=X.length:=by omega
   subst e;simp(disch:=omega)[h0,h1,j];refine⟨n,?_⟩;have:=Vo.rY (h:=h') (b:=d) (lo:=lo) (hi:=hi) (X:=yV k X.length) (t.imp id λe=>⟨e.1,by rw[e.2];rfl⟩) (by rw[aBk];exact hm) (aFi s) (by
    rcases a with a|a
    ·subst a;exact .inl rfl
    ·by_cases r:X=[]
     ·subst r;exact .inl rfl
     ·exact .inr ⟨by simpa using a,(c.resolve_left r).2⟩)
   rw[aBk]at this;exact this
theorem aeJ{g:Nat}(m:aE g=some axF):To g gC:=by
 intro h v (X:List dF) k d n;rw[Jm]at n ⊢;rw[Kd]at d;obtain⟨f,o,q,rfl,r,hm,hx,l⟩:=d.cW;rw[aBk];refine CF m rfl ?_;unfold axF;simp(disch:=omega);refine aU (λi σ h'=>h'=h∧i<=X.length∧σ 0=sl f o X.length q∧σ 1=I ((k+3*i:Nat):Int)∧σ 5=I i) (λi=>X.length-i) 0 ?_ ?_
 ·simp
 ·rintro i σ h'⟨rfl,iY,h0,h1,b⟩;simp(disch:=omega)[h0,b];refine aG (λa=>?_) (λs=>?_)
  ·have a:i<X.length:=by omega
   have c:=Ed l (k:=i) (by rw[aBk];exact a);rw[aBj]at c;obtain⟨q1,q2,p⟩:=c;have j:(k:Int)+3*i+1+1=(k:Int)+3*i+2:=by omega
   simp(disch:=omega)[h0,h1,b,a,q1,q2,p,wrap64,j];exact⟨i+1,⟨by omega,by omega,by omega⟩,by omega⟩
  ·have e:i=X.length:=by omega
   subst e;simp(disch:=omega)[h0,h1,b,ae.refl]
theorem ae6{f g:Nat}(a:aE f=some axL)(b:aE g=some (awq 3 7 #[I 0,I 0,I 0] f)):Zh g gC:=aKC b rfl ⟨by decide,rfl⟩ rfl (aeI a)
theorem ae4{f g:Nat}(a:aE f=some axC)(b:aE g=some (ap1 3 7 f)):IZ g gC:=aHC b rfl ⟨by decide,rfl⟩ (agh a)
theorem afI:aoe 292 gC:=ae5 (show aE 292=some axJ from aHQ)
theorem aIq:Zh 299 Dk:=aeI (show aE 299=some axL from asw)
theorem afK:Zh 300 gC:=ae6 (show aE 299=some axL from asw) aHR
theorem afv:IZ 262 gC:=ae4 (show aE 261=some axC from aHM) aHN
theorem afG:Tr 284 gC:=aeN (show aE 284=some axH from aHP)
theorem afC:To 277 gC:=aeJ (show aE 277=some axF from aHO)
theorem aq6:aoe 291 ba:=by
 rintro h v⟨⟨(W:Int),(H:Int),(br:List Int)⟩,(p:List dF),(f:List dF)⟩ left i hl;obtain⟨s,sp,o,rfl,w1,w2,j,l,m⟩:=i.og;rw[mz];have n:Vr h bU (.agg #[I W,I H,s]) (W,H,br):=Vr.jF w1 w2 j;refine akV ?_;refine aQ (aLC _ _ (W,H,br) left n hl) ?_;rintro v h'⟨rfl,rfl⟩;rw[sQ];by_cases h1:br.length<=left
 rotate_left
 ·rw[if_neg h1,if_neg (by omega)];simp
 rw[if_pos h1];obtain⟨l1,c⟩:∃k,k=left-br.length:=⟨_,rfl⟩;rw[<-c];simp(disch:=omega);refine aQ (afI _ _ p l1 l (by omega)) ?_;rintro v h'⟨rfl,rfl⟩;rw[So];by_cases a:p.length<=l1
 rotate_left
 ·rw[if_neg a,if_neg (by omega)];simp
 rw[if_pos a];obtain⟨l2,d⟩:∃k,k=l1-p.length:=⟨_,rfl⟩;rw[<-d];simp(disch:=omega);refine aQ (afI _ _ f l2 m (by omega)) ?_;rintro v h'⟨rfl,rfl⟩;rw[So];by_cases b:f.length<=l2
 rotate_left
 ·rw[if_neg b,if_neg (by omega)];simp
 rw[if_pos b,if_pos (by omega)];have e:l2-f.length=left-(br.length+(p.length+f.length)):=by omega
 rw[e];obtain⟨l3,g⟩:∃k,k=left-(br.length+(p.length+f.length)):=⟨_,rfl⟩;rw[<-g];simp(disch:=omega)
theorem aeH:Zh 298 ba:=by rintro h v⟨⟨(W:Int),(H:Int),(br:List Int)⟩,(p:List dF),(f:List dF)⟩ hp i g;obtain⟨s,sp,r,rfl,w1,w2,j,k,l⟩:=i.og;rw[mz]at g;have m:Vr h bU (.agg #[I W,I H,s]) (W,H,br):=Vr.jF w1 w2 j;refine akV ?_;refine aQ (aLD _ _ (W,H,br) hp m (by rw[sQ];omega)) ?_;rintro v h1⟨a,o1⟩;obtain⟨q,rfl,_,_,o1⟩:=o1.dE;simp(disch:=omega);refine aQ (afK _ _ p (aL hp a) (k.grow a) (by rw[So];omega)) ?_;rintro v n⟨b,o2⟩;obtain⟨b2,z2,d,_⟩:=o2.cW;subst d;simp(disch:=omega);refine aQ (afK _ _ f (aL hp (a.trans b)) ((l.grow a).grow b) (by rw[So];omega)) ?_;rintro v o⟨c,o3⟩;obtain⟨b3,z3,e,_⟩:=o3.cW;subst e;have:=a.le;have:=b.le;have:=c.le;simp(disch:=omega)[gV,bD];refine⟨(a.trans b).trans c,Vo.qX w1 w2 ((o1.grow b).grow c) (o2.grow c) o3 ?_ ?_ ?_ ?_ ?_ ?_⟩<;>((first|unfold xz|unfold BO)<;>omega)
theorem aeG:IZ 260 ba:=by rintro h v w⟨⟨(W:Int),(H:Int),(br:List Int)⟩,(p:List dF),(f:List dF)⟩ d hw;obtain⟨s,sp,m,rfl,w1,w2,e,g,i⟩:=d.og;obtain⟨l,k,j,rfl,_,_,a,c,b⟩:=hw.og;refine akV ?_;refine aQ (aLy _ _ _ (W,H,br) (Vr.jF w1 w2 e) (Vr.jF w1 w2 a)) ?_;rintro v h'⟨rfl,rfl⟩;simp(disch:=omega);refine aQ (afv _ _ _ p g c) ?_;rintro v h'⟨rfl,rfl⟩;simp(disch:=omega);refine aQ (afv _ _ _ f i b) ?_;rintro v h'⟨rfl,rfl⟩;simp(disch:=omega)
theorem afE:Tr 283 ba:=by
 rintro h lo hi v⟨⟨(W:Int),(H:Int),(br:List Int)⟩,(p:List dF),(f:List dF)⟩ k x w;obtain⟨s,sp,C,l1,u1,l2,u2,l3,u3,rfl,w1,w2,o1,o2,o3,s1,s2,o,a,b,c⟩:=x.og;rw[W3]at w ⊢;rw[aw4];refine akV ?_;refine aQ (aLA _ l1 u1 _ (W,H,br) k (Vo.jF w1 w2 o1) (by rw[Fz];omega)) ?_;rintro v h1⟨rfl,d,q1⟩;rw[Kb]at q1;rw[Fz];obtain⟨y,e,_,_,q1⟩:=q1.dE;obtain rfl:s=y:=by simpa using e
 obtain⟨l,q⟩:∃j,j=k+br.length:=⟨_,rfl⟩;rw[<-q];simp(disch:=omega);refine aQ (afG _ l2 u2 _ p l (o2.mod d (by unfold BO at a;omega)) (by rw[Jm];omega)) ?_;rintro v z⟨rfl,g,q2⟩;rw[Kd]at q2;rw[Jm];obtain⟨m,r⟩:∃j,j=l+3*p.length:=⟨_,rfl⟩;rw[<-r];simp(disch:=omega);refine aQ (afG _ l3 u3 _ f m ((o3.mod d (by unfold BO at b;omega)).mod g (by unfold BO at c;omega)) (by rw[Jm];omega)) ?_;rintro v A⟨rfl,i,n⟩;rw[Kd]at n;rw[Jm];have t:m+3*f.length=k+(br.length+(3*p.length+3*f.length)):=by omega
 rw[t];obtain⟨B,u⟩:∃j,j=k+(br.length+(3*p.length+3*f.length)):=⟨_,rfl⟩;rw[<-u];simp(disch:=omega);refine⟨by omega,((d.sub s1).trans (g.sub s2)).trans (i.sub o),Vo.qX w1 w2 ((q1.mod g (by unfold BO at a;omega)).mod i (by unfold BO at b;omega)) (q2.mod i (by unfold BO at c;omega)) n s1 s2 o a b c⟩
theorem afB:To 276 ba:=by
 rintro h v⟨⟨(W:Int),(H:Int),(br:List Int)⟩,(p:List dF),(f:List dF)⟩ k c q;rw[aw4]at c;rw[W3]at q ⊢;obtain⟨s,sp,y,rfl,w1,w2,t,i,b⟩:=c.og;refine akV ?_;refine aQ (aLz _ _ (W,H,br) k (by rw[Kb];exact Vr.jF w1 w2 t) (by rw[Fz];omega)) ?_;rintro v h1⟨rfl,a⟩;rw[Fz];obtain⟨d,l⟩:∃j,j=k+br.length:=⟨_,rfl⟩;rw[<-l]at i b ⊢;simp(disch:=omega);refine aQ (afC _ _ p d (by rw[Kd];exact i.grow a) (by rw[Jm];omega)) ?_;rintro v u⟨rfl,g⟩;rw[Jm];obtain⟨e,m⟩:∃j,j=d+3*p.length:=⟨_,rfl⟩;rw[<-m]at b ⊢;simp(disch:=omega);refine aQ (afC _ _ f e (by rw[Kd];exact(b.grow a).grow g) (by rw[Jm];omega)) ?_;rintro v w⟨rfl,r⟩;rw[Jm];have n:e+3*f.length=k+(br.length+(3*p.length+3*f.length)):=by omega
 rw[n];obtain⟨x,o⟩:∃j,j=k+(br.length+(3*p.length+3*f.length)):=⟨_,rfl⟩;rw[<-o];simp(disch:=omega);exact⟨by omega,(a.trans g).trans r⟩
theorem ar0(h:a9)(vs:List Value)(hp:0<h.length)(x:cM (Dx h) [ba,.str] vs):aN aE 210 vs h λv _=>v=.bool true:=by
 obtain⟨v0,Zb,rfl,b0,x⟩:=I6 x;obtain⟨v1,vs1,rfl,b1,x⟩:=I6 x;obtain rfl:=Tw x;obtain⟨a,q⟩:=b0.vr;obtain⟨aLt,aLu,aLv,aLw,aLx,rfl⟩:=q.yl;obtain⟨d,rfl,wf1⟩:=b1.str;have G:ae h h:=ae.refl h;refine afq ?_
 try simp(maxSteps:=10000000) (disch:=omega)
 refine aG (λhb=>?_) (λhb=>?_)
 ·simp(maxSteps:=10000000)
 have F:d.length<=1048576:=by omega
 try simp(maxSteps:=10000000) (disch:=omega)
 refine aQ (aq6 _ _ a (1048576) q (by omega)) ?_;rintro v0 h0⟨e0,rfl⟩;refine⟨λ_=>ae.refl _,?_⟩;subst e0;by_cases i:hI ba a<=1048576
 rotate_left
 ·rw[if_neg i];simp(maxSteps:=10000000) (disch:=omega)
 rw[if_pos i];obtain⟨aLp,K⟩:∃k,k=1048576-hI ba a:=⟨_,rfl⟩;rw[<-K];have i:hI ba a<=1048576:=by omega
 try simp(maxSteps:=10000000) (disch:=omega)
 refine aQ (aeH _ _ a (aL hp G) (q.grow G) i) ?_;rintro t0 h1⟨g1,A⟩;have l1:=g1.le;refine⟨λ_=>g1,?_⟩;obtain⟨aKv,aKw,aKx,aKy,aKz,rfl⟩:=A.vr.yl;have G:=G.trans g1
 try simp(maxSteps:=10000000) (disch:=omega)
 refine aQ (aCJ _ (aL hp G) _ a d A.vr i F) ?_;rintro _ D⟨g2,w0,w1,rfl,l,p⟩;have l2:=g2.le;refine⟨λ_=>g2,?_⟩;have G:=G.trans g2;obtain⟨X,Y,Z,aFV,aFW,rfl⟩:=l.yl;have b:ae D D:=ae.refl _;have c:ae D D:=ae.refl _
 try simp(maxSteps:=10000000) (disch:=omega)
 refine aQ (aeH _ _ a (aL hp G) (q.grow G) i) ?_;rintro x0 h3⟨w,j⟩;have l3:=w.le;refine⟨λ_=>w,?_⟩;obtain⟨aK6,aK7,aK8,aK9,aLa,rfl⟩:=j.vr.yl;have G:=G.trans w;have b:=b.trans w;have c:=c.trans w
 try simp(maxSteps:=10000000) (disch:=omega)
 refine aQ (c76 _ (aL hp G) _ a d j.vr i F) ?_;rintro _ h4⟨s,gg0,gg1,lo4,hi4,ko4,kh4,rfl,f,g,bl4,bk4,dd4⟩;obtain⟨H,I⟩:=aia a d;have l4:=s.le;refine⟨λ_=>s,?_⟩;have G:=G.trans s;have b:=b.trans s;have c:=c.trans s;have j:=j.grow s;obtain⟨Q,R,S,T,U,rfl⟩:=f.vr.yl
 try simp(maxSteps:=10000000) (disch:=omega)
 refine aQ (aeG _ _ _ ((fW a d).1) f.vr (l.grow b)) ?_;rintro v0 h0⟨rfl,rfl⟩;refine⟨λ_=>ae.refl _,?_⟩
 try simp(maxSteps:=10000000) (disch:=omega)
 refine aQ (Zx _ _ _ ((fW a d).2.1) g.vr (p.grow c)) ?_;rintro v0 h0⟨rfl,rfl⟩;refine⟨λ_=>ae.refl _,?_⟩
 try simp(maxSteps:=10000000) (disch:=omega)
 refine aQ (aeH _ _ a (aL hp G) (q.grow G) i) ?_;rintro u0 h5⟨m,B⟩;have l5:=m.le;refine⟨λ_=>m,?_⟩;obtain⟨aKE,aKF,aKG,aKH,aKI,rfl⟩:=B.vr.yl;have G:=G.trans m;have b:=b.trans m;have c:=c.trans m;have j:=j.grow m;have f:=f.grow m;have g:=g.grow m
 try simp(maxSteps:=10000000) (disch:=omega)
 refine aQ (aeG _ _ _ a j.vr B.vr) ?_;rintro v0 h0⟨rfl,rfl⟩;refine⟨λ_=>ae.refl _,?_⟩
 try simp(maxSteps:=10000000) (disch:=omega)
 have cb6:=wD (a);have zb6:=i;refine aQ (afE _ _ _ _ a 1 j (by omega)) ?_;rintro v0 h6⟨rfl,t,j⟩;have l6:=t.1;refine⟨λe=>(by cases e),?_⟩;obtain⟨k6,J⟩:∃k,k=1+wR ba a:=⟨_,rfl⟩;rw[<-J];have G:=t.kR G (by omega);have b:=t.kR b (by omega);have c:=t.kR c (by omega);have f:=f.mod t (by omega);have g:=g.mod t (by omega)
 try simp(maxSteps:=10000000) (disch:=omega)
 refine aQ (aeG _ _ _ ((fW a d).1) f.vr (l.grow b)) ?_;rintro v0 h0⟨rfl,rfl⟩;refine⟨λ_=>ae.refl _,?_⟩
 try simp(maxSteps:=10000000) (disch:=omega)
 refine aQ (Zx _ _ _ ((fW a d).2.1) g.vr (p.grow c)) ?_;rintro v0 h0⟨rfl,rfl⟩;refine⟨λ_=>ae.refl _,?_⟩
 try simp(maxSteps:=10000000) (disch:=omega)
 have cb7:=wD (((fW a d).1));have zb7:=H;refine aQ (afE _ _ _ _ ((fW a d).1) 1 f (by omega)) ?_;rintro v0 h7⟨rfl,y,f⟩;have l7:=y.1;refine⟨λe=>(by cases e),?_⟩;obtain⟨E,n⟩:∃k,k=1+wR ba ((fW a d).1):=⟨_,rfl⟩;rw[<-n];have G:=y.kR G (by omega);have b:=y.kR b (by omega);have c:=y.kR c (by omega);have g:=g.mod y (by omega)
 try simp(maxSteps:=10000000) (disch:=omega)
 have cb8:=Cc (((fW a d).2.1));have zb8:=I;refine aQ (axn _ _ _ _ ((fW a d).2.1) E g (by omega)) ?_;rintro v0 h8⟨rfl,z,g⟩;have l8:=z.1;refine⟨λe=>(by cases e),?_⟩;obtain⟨k8,o⟩:∃k,k=E+wR lD ((fW a d).2.1):=⟨_,rfl⟩;rw[<-o];have G:=z.kR G (by omega);have b:=z.kR b (by omega);have c:=z.kR c (by omega);have f:=f.mod z (by omega)
 try simp(maxSteps:=10000000) (disch:=omega)
 have cb9:=wD ((fW a d).1);refine aQ (afB _ _ ((fW a d).1) 1 f.vr (by omega)) ?_;rintro v0 h9⟨rfl,g9⟩;have l9:=g9.le;refine⟨λ_=>g9,?_⟩;rw[<-n];have G:=G.trans g9;have b:=b.trans g9;have c:=c.trans g9;have f:=f.grow g9;have g:=g.grow g9
 try simp(maxSteps:=10000000) (disch:=omega)
 have aLE:=Cc ((fW a d).2.1);refine aQ (akx _ _ ((fW a d).2.1) E g.vr (by omega)) ?_;rintro v0 h10⟨rfl,Rg⟩;have l10:=Rg.le;refine⟨λ_=>Rg,?_⟩;rw[<-o];have G:=G.trans Rg;have b:=b.trans Rg;have c:=c.trans Rg;have f:=f.grow Rg;have g:=g.grow Rg
 try simp(maxSteps:=10000000) (disch:=omega)
 refine aQ (aeH _ _ a (aL hp G) (q.grow G) i) ?_;rintro y0 h11⟨Rh,C⟩;have l11:=Rh.le;refine⟨λ_=>Rh,?_⟩;obtain⟨aFX,aFY,aFZ,V,W,rfl⟩:=C.vr.yl;have G:=G.trans Rh;have b:=b.trans Rh;have c:=c.trans Rh;have f:=f.grow Rh;have g:=g.grow Rh
 try simp(maxSteps:=10000000) (disch:=omega)
 refine aQ (c76 _ (aL hp G) _ a d C.vr i F) ?_;rintro _ h12⟨gT,y0,y1,lo5,hi5,ko5,kh5,rfl,r,u,bl5,bk5,dd5⟩;have l12:=gT.le;refine⟨λ_=>gT,?_⟩;have G:=G.trans gT;have b:=b.trans gT;have c:=c.trans gT;have f:=f.grow gT;have g:=g.grow gT;obtain⟨L,M,N,O,P,rfl⟩:=r.vr.yl
 try simp(maxSteps:=10000000) (disch:=omega)
 refine aQ (aeG _ _ _ ((fW a d).1) r.vr (l.grow b)) ?_;rintro v0 h0⟨rfl,rfl⟩;refine⟨λ_=>ae.refl _,?_⟩
 try simp(maxSteps:=10000000) (disch:=omega)
 refine aQ (Zx _ _ _ ((fW a d).2.1) u.vr (p.grow c)) ?_;rintro v0 h0⟨rfl,rfl⟩;refine⟨λ_=>ae.refl _,?_⟩
 try simp(maxSteps:=10000000) (disch:=omega)
 have aLF:=wD ((fW a d).1);refine aQ (afB _ _ ((fW a d).1) 1 f.vr (by omega)) ?_;rintro v0 h13⟨rfl,tO⟩;have l13:=tO.le;refine⟨λ_=>tO,?_⟩;rw[<-n];have G:=G.trans tO;have b:=b.trans tO;have c:=c.trans tO;have f:=f.grow tO;have g:=g.grow tO;have r:=r.grow tO;have u:=u.grow tO
 try simp(maxSteps:=10000000) (disch:=omega)
 have aLG:=Cc ((fW a d).2.1);refine aQ (akx _ _ ((fW a d).2.1) E g.vr (by omega)) ?_;rintro v0 h14⟨rfl,DJ⟩;have l14:=DJ.le;refine⟨λ_=>DJ,?_⟩;rw[<-o];have G:=G.trans DJ;have b:=b.trans DJ;have c:=c.trans DJ;have f:=f.grow DJ;have g:=g.grow DJ;have r:=r.grow DJ;have u:=u.grow DJ
 try simp(maxSteps:=10000000) (disch:=omega)
end Am

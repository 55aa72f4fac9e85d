/- Contracts: AmH56, AmH57, AmH58, AmH59, AmH60, AmH61, AmH62, AmH63. -/
import Derived.Test.YtpgioncclmancaaGreatAmK13
set_option linter.unusedVariables false
set_option linter.unusedSimpArgs false
set_option maxHeartbeats 4000000
set_option maxRecDepth 40000
namespace Am
open Go
/-- A polynomial that can be read; one that is given back. -/
def PolyV(h:Heap)(v:Value)(p:Poly):Prop:=∃s,v=.agg #[I p.1,s]∧Vr h shInts s p.2
def PolyO(h h':Heap)(r:Value)(p:Poly):Prop:=Grows h h'∧PolyV h' r p
theorem PolyV.grow{h h':Heap}{v:Value}{p:Poly}(x:PolyV h v p)(g:Grows h h'):PolyV h' v p:=by
 obtain⟨s,e,r⟩:=x;exact⟨s,e,r.grow g⟩
def ZerA(cs:List Int)(f:Nat):Prop:=∀i,i<f->cs.getD i 0=0
def ZerB(cs:List Int)(k:Nat):Prop:=∀i,k<=i->i<cs.length->cs.getD i 0=0
theorem ZerA.succ{cs:List Int}{f:Nat}(x:ZerA cs f)(h:cs.getD f 0=0):ZerA cs (f+1):=by
 intro i hi
 by_cases e:i=f
 ·rw[e];exact h
 ·exact x i (by omega)
theorem ZerB.pred{cs:List Int}{k:Nat}(x:ZerB cs (k+1))(h:cs.getD k 0=0):ZerB cs k:=by
 intro i hi h2
 by_cases e:i=k
 ·rw[e];exact h
 ·exact x i (by omega) h2
theorem cut_one{h:Heap}{b o n:Nat}(hn:1<=n):aSlice 3 h (sl b o n 1) (some (I 1)) none none=some (sl b (o+1) (n-1) 1,h):=by
 have:=cut_from (h:=h) (b:=b) (o:=o) (n:=n) (k:=1) hn
 simpa using this
theorem ints_getD{h:Heap}{b o k:Nat}{X:List Int}(hr:X=[]∨cellsAt h b o X.length=some (ints X))(hk:k<X.length):cell h b (o+k)=some (I (X.getD k 0)):=by
 rw[ints_cell hr hk,getD_at hk]
theorem Vr.part{h:Heap}{b o z f m:Nat}{X:List Int}(hz:z=1∨X.length=0)(hl:X.length<=100000)(hx:∀x∈X,I64 x)(hc:X=[]∨cellsAt h b o X.length=some (Am.ints X))(hm:m≠0)(hfm:f+m<=X.length):Vr h shInts (sl b (o+f) m 1) ((X.drop f).take m):=by
 have lm:((X.drop f).take m).length=m:=by simp;omega
 have r:=Vr.of_ints (h:=h) (b:=b) (o:=o+f) (z:=1) (X:=(X.drop f).take m) (.inl rfl) (by rw[lm,maxLen_eq];omega) (λx hx'=>hx x (List.mem_of_mem_drop (List.mem_of_mem_take hx'))) (by
  right
  rw[lm]
  have hc:=hc.resolve_left (by intro e;rw[e]at hfm;simp at hfm;omega)
  have:=cellsAt_in (i:=f) (m:=m) hc (by omega)
  rw[this]
  simp[Am.ints,List.map_take,List.map_drop])
 rw[lm]at r
 exact r
theorem c193(h:Heap)(hp:0<h.length)(low:Int)(s:Value)(cs:List Int)(hs:Vr h shInts s cs)(hl:cs.length<=100000)(hlow:-1000000<=low∧low<=1000000):ACall Gam 193 [.agg #[I low,s]] h λr h'=>PolyO h h' r (trimP low cs):=by
 obtain⟨T,eT⟩:∃T,T=trimP low:=⟨_,rfl⟩
 have tr:=λf m a=>trim_is (low:=low) (cs:=cs) (f:=f) (m:=m) a
 simp only[<-eT]at tr ⊢
 obtain⟨b,o,z,rfl,hz,_,hx,hc⟩:=hs.ints
 have hz':z=1∨cs.length=0:=hz.imp id λe=>by rw[e.2];rfl
 have hcell:=λk hk=>ints_getD hc (k:=k) hk
 have hpart:=λf m hm hfm=>Vr.part (z:=z) hz' hl hx hc (f:=f) (m:=m) hm hfm
 obtain⟨n,en⟩:∃n,n=cs.length:=⟨_,rfl⟩
 simp only[<-en]at hcell hl hz' hpart ⊢
 clear hs hc
 refine ACall_intro g193 rfl ?_
 unfold fn193
 rw[awp_seq,awp_reg]
 generalize hK:seqQ Gam _ _ 0=K
 simp(disch:=omega)
 subst hK
 simp only[seqQ_zero]
 rw[awp_seq]
 generalize hP:seqQ Gam _ _=PP
 have post:∀(σ:Nat->Value) (f:Nat),f<=n->ZerA cs f->(n<=f∨cs.getD f 0≠0)->σ 1=.agg #[I (low+f),sl b (o+f) (n-f) z]->σ 2=.agg #[I 0,sl 0 0 0 0]->PP 0 σ h:=by
  intro σ f hf zf hne q1 q2
  subst hP
  simp only[seqQ_zero]
  rw[awp_seq]
  generalize hP:seqQ Gam _ _=PP
  have post2:∀(σ:Nat->Value) (m:Nat),f+m<=n->ZerB cs (f+m)->(m=0∨cs.getD (f+m-1) 0≠0)->σ 1=.agg #[I (low+f),sl b (o+f) m z]->σ 2=.agg #[I 0,sl 0 0 0 0]->PP 0 σ h:=by
   intro σ m hm zm hne2 q1 q2
   have t:Trim cs f m:=⟨by omega,zf,λi a b=>zm i a b,by
    by_cases e:m=0
    ·exact .inl e
    ·exact .inr ⟨hne.resolve_left (by omega),hne2.resolve_left e⟩⟩
   subst hP
   simp only[seqQ_zero]
   rw[tr f m t]
   by_cases m0:m=0
   ·subst m0
    rw[if_pos rfl,awp_seq]
    generalize hK:seqQ Gam _ _=K
    simp(disch:=omega)[q1,q2]
    subst hK
    simp(disch:=omega)
    exact⟨Grows.refl _,_,rfl,Vr.of_ints (.inr ⟨rfl,rfl⟩) (by simp) (by simp) (.inl rfl)⟩
   ·have m0I:¬(m:Int)=0:=by omega
    have hz1:z=1:=by omega
    have hv:=hpart f m m0 (by omega)
    rw[if_neg m0,awp_seq]
    generalize hK:seqQ Gam _ _=K
    simp(disch:=omega)[q1,q2,m0,m0I]
    subst hK
    simp only[seqQ_zero]
    rw[awp_seq,awp_reg]
    generalize hK:seqQ Gam _ _ 0=K
    simp(disch:=omega)[q1,q2,hz1]
    refine callW_of (c308 h _ _ hp hv (by simp;omega)) ?_
    rintro w h2⟨g2,o2⟩
    try refine⟨λe=>(by first|exact g2|cases e),?_⟩
    obtain⟨wb,wz,rfl,_⟩:=o2.ints
    have lm:((cs.drop f).take m).length=m:=by simp;omega
    have rv:=o2.vr
    rw[lm]at rv ⊢
    simp(disch:=omega)[q2]
    subst hK
    simp(disch:=omega)
    exact⟨g2,_,rfl,rv⟩
  rw[awp_block]
  have post':∀(σ:Nat->Value) (m:Nat),f+m<=n->ZerB cs (f+m)->(m=0∨cs.getD (f+m-1) 0≠0)->σ 1=.agg #[I (low+f),sl b (o+f) m z]->σ 2=.agg #[I 0,sl 0 0 0 0]->blockQ 2 PP 4 σ h:=by
   intro σ m a1 a2 a3 a4 a5
   rw[blockQ_eq,if_pos (by omega)]
   exact post2 σ m a1 a2 a3 a4 a5
  clear post2 hP
  generalize blockQ 2 PP=B1 at post' ⊢
  refine awp_loop (λm σ h'=>f+m<=n∧ZerB cs (f+m)∧h'=h∧σ 1=.agg #[I (low+f),sl b (o+f) m z]∧σ 2=.agg #[I 0,sl 0 0 0 0]) (λm=>m) (n-f) ?_ ?_
  ·exact⟨by omega,by intro i h1 h2;omega,rfl,q1,q2⟩
  rintro m σ h'⟨hm,zm,rfl,q1,q2⟩
  by_cases m0:m=0
  ·subst m0
   simp(disch:=omega)[q1]
   exact post' _ 0 hm zm (.inl rfl) (by simpa using q1) (by simpa using q2)
  ·obtain⟨j,rfl⟩:∃j,m=j+1:=⟨m-1,by omega⟩
   have mp:0<j+1:=by omega
   have mpI:(0:Int)<(j:Int)+1:=by omega
   have hz1:z=1:=by omega
   have wk:IntKind.i64.wrap ((j:Int)+1-1)=j:=by rw[wrap64 (by omega) (by omega)];omega
   have wk':IntKind.i64.wrap (j:Int)=j:=wrap64 (by omega) (by omega)
   have hc:=hcell (f+j) (by omega)
   have jl:j<j+1:=by omega
   have jlI:(j:Int)<(j:Int)+1:=by omega
   rw[<-Nat.add_assoc]at hc
   obtain⟨x,ex⟩:∃x,x=cs.getD (f+j) 0:=⟨_,rfl⟩
   rw[<-ex]at hc
   by_cases x0:x=0
   ·subst x0
    have zm':ZerB cs (f+j):=ZerB.pred zm ex.symm
    have cut:=cut_to (h:=h') (b:=b) (o:=o+f) (n:=j+1) (k:=j) (by omega)
    simp(disch:=omega)[q1,hz1,wk,wk',mp,mpI,jl,jlI,hc,cut]
    refine⟨j,?_,by omega⟩
    rw[hz1]at q1
    and_intros<;>first|assumption|omega|rfl
   ·simp(disch:=omega)[q1,hz1,wk,wk',mp,mpI,jl,jlI,hc,x0]
    exact post' _ (j+1) hm zm (.inr (by rw[show f+(j+1)-1=f+j by omega,<-ex];exact x0)) (by simpa using q1) (by simpa using q2)
 rw[awp_block]
 have post':∀(σ:Nat->Value) (f:Nat),f<=n->ZerA cs f->(n<=f∨cs.getD f 0≠0)->σ 1=.agg #[I (low+f),sl b (o+f) (n-f) z]->σ 2=.agg #[I 0,sl 0 0 0 0]->blockQ 0 PP 2 σ h:=by
  intro σ f a1 a2 a3 a4 a5
  rw[blockQ_eq,if_pos (by omega)]
  exact post σ f a1 a2 a3 a4 a5
 clear post hP
 generalize blockQ 0 PP=B1 at post' ⊢
 refine awp_loop (λf σ h'=>f<=n∧ZerA cs f∧h'=h∧σ 1=.agg #[I (low+f),sl b (o+f) (n-f) z]∧σ 2=.agg #[I 0,sl 0 0 0 0]) (λf=>n-f) 0 ?_ ?_
 ·exact⟨by omega,by intro i h1;omega,rfl,by simp,by simp⟩
 rintro f σ h'⟨hf,zf,rfl,q1,q2⟩
 by_cases f0:f=n
 ·have e0:n-f=0:=by omega
  simp(disch:=omega)[q1,e0]
  exact post' _ f hf zf (.inl (by omega)) (by simpa using q1) (by simpa using q2)
 ·obtain⟨j,ej⟩:∃j,n-f=j+1:=⟨n-f-1,by omega⟩
  have ej2:n-(f+1)=j:=by omega
  have mp:0<j+1:=by omega
  have mpI:(0:Int)<(j:Int)+1:=by omega
  have hz1:z=1:=by omega
  have hc:=hcell f (by omega)
  obtain⟨x,ex⟩:∃x,x=cs.getD f 0:=⟨_,rfl⟩
  rw[<-ex]at hc
  have wl:IntKind.i64.wrap (low+f+1)=low+((f+1:Nat):Int):=by rw[wrap64 (by omega) (by omega)];omega
  rw[ej]at q1
  by_cases x0:x=0
  ·subst x0
   have zf':ZerA cs (f+1):=ZerA.succ zf ex.symm
   have cut:=cut_one (h:=h') (b:=b) (o:=o+f) (n:=j+1) (by omega)
   simp only[Nat.add_sub_cancel]at cut
   simp(disch:=omega)[q1,hz1,mp,mpI,hc,cut]
   rw[wl]
   refine⟨f+1,?_,by omega⟩
   rw[hz1,ej2]at*
   and_intros<;>first|assumption|omega|rfl
  ·simp(disch:=omega)[q1,hz1,mp,mpI,hc,x0]
   exact post' _ f hf zf (.inr (by rw[<-ex];exact x0)) (by rw[ej];simpa using q1) (by simpa using q2)
theorem make_zb{h:Heap}{n:Nat}(hn:n<=1000000):aMake 1 h (I n) (I n) (.agg #[I 0])=some (sl h.length 0 n 1,h++[⟨ints (List.replicate n 0),true⟩]):=by
 have e:reps n [I 0]=ints (List.replicate n 0):=by
  unfold reps ints
  rw[List.map_replicate]
  induction n with
  |zero=>rfl
  |succ n ih=>rw[List.replicate_succ,List.flatten_cons,ih (by omega)];rfl
 simp only[aMake]
 rw[if_pos ⟨by omega,by omega,by simp[maxSize];omega,rfl⟩]
 simp[e]
theorem ints_at{h:Heap}{b k:Nat}{l:List Int}(hb:h[b]?=some ⟨ints l,true⟩)(hk:k<l.length):cell h b k=some (I (l.getD k 0)):=by
 have:=ints_getD (h:=h) (b:=b) (o:=0) (X:=l) (k:=k) (.inr (cellsAt_all hb (by simp[ints]))) hk
 simpa using this
structure Small (p:Poly):Prop where
 len:p.2.length<=2000
 low:-10000<=p.1∧p.1<=10000
theorem vr_own{h:Heap}{b:Nat}{l:List Int}(hb:h[b]?=some ⟨ints l,true⟩)(hx:∀x∈l,I64 x)(hl:l.length<=1000000):Vr h shInts (sl b 0 l.length 1) l:=
 Vr.of_ints (.inl rfl) (by rw[maxLen_eq];omega) hx (.inr (cellsAt_all hb (by simp[ints])))
theorem c175(h:Heap)(hp:0<h.length)(va vb:Value)(a b:Poly)(pa:PolyV h va a)(pb:PolyV h vb b)(sa:Small a)(sb:Small b):ACall Gam 175 [va,vb] h λr h'=>PolyO h h' r (mulP a b):=by
 obtain⟨la,A⟩:=a
 obtain⟨lb,B⟩:=b
 obtain⟨s1,rfl,va⟩:=pa
 obtain⟨s2,rfl,vb⟩:=pb
 obtain⟨sa1,sa2⟩:=sa
 obtain⟨sb1,sb2⟩:=sb
 simp only at va vb sa1 sa2 sb1 sb2 ⊢
 have mi:=λi=>mulI_i64 (A:=A) (B:=B) i
 have ml:=λi=>mulI_len (A:=A) (B:=B) i
 have mkl:=λi k=>mulK_len (A:=A) (B:=B) (i:=i) k (mulI A B i)
 obtain⟨P,eP⟩:∃P,P=mulP (la,A) (lb,B):=⟨_,rfl⟩
 have eP0:=eP
 unfold mulP at eP0
 rw[<-eP]
 obtain⟨b1,o1,z1,rfl,hz1,_,hx1,hc1⟩:=va.ints
 obtain⟨b2,o2,z2,rfl,hz2,_,hx2,hc2⟩:=vb.ints
 obtain⟨m,em⟩:∃m,m=A.length:=⟨_,rfl⟩
 obtain⟨n,en⟩:∃n,n=B.length:=⟨_,rfl⟩
 simp only[<-em,<-en]at hc1 hc2 sa1 sb1 ml mkl ⊢
 have hA:∀h',Grows h h'->∀k,k<m->cell h' b1 (o1+k)=some (I (A.getD k 0)):=λh' g k hk=>g.cell (ints_getD (em▸hc1) (by omega))
 have hB:∀h',Grows h h'->∀k,k<n->cell h' b2 (o2+k)=some (I (B.getD k 0)):=λh' g k hk=>g.cell (ints_getD (en▸hc2) (by omega))
 refine ACall_intro g175 rfl ?_
 unfold fn175
 rw[awp_seq,awp_reg]
 generalize hK:seqQ Gam _ _ 0=K
 simp(disch:=omega)
 subst hK
 simp only[seqQ_zero]
 rw[awp_seq]
 generalize hK:seqQ Gam _ _=K
 by_cases m0:m=0
 ·have:A=[]:=List.length_eq_zero_iff.1 (by omega)
  simp only[this,true_or,if_true]at eP0
  simp(disch:=omega)[m0]
  subst hK
  simp(disch:=omega)
  rw[eP0]
  exact⟨Grows.refl _,_,rfl,Vr.of_ints (.inr ⟨rfl,rfl⟩) (by simp) (by simp) (.inl rfl)⟩
 have m0I:¬(m:Int)=0:=by omega
 by_cases n0:n=0
 ·have:B=[]:=List.length_eq_zero_iff.1 (by omega)
  simp only[this,or_true,if_true]at eP0
  simp(disch:=omega)[m0,m0I,n0]
  subst hK
  simp(disch:=omega)
  rw[eP0]
  exact⟨Grows.refl _,_,rfl,Vr.of_ints (.inr ⟨rfl,rfl⟩) (by simp) (by simp) (.inl rfl)⟩
 have n0I:¬(n:Int)=0:=by omega
 have Ane:A≠[]:=by intro e;rw[e]at em;simp at em;omega
 have Bne:B≠[]:=by intro e;rw[e]at en;simp at en;omega
 simp only[Ane,Bne,or_self,if_false]at eP0
 rw[<-em]at eP0
 simp(disch:=omega)[m0,m0I,n0,n0I]
 subst hK
 simp only[seqQ_zero]
 obtain⟨N,eN⟩:∃N,N=m+n-1:=⟨_,rfl⟩
 have w1:IntKind.i64.wrap ((m:Int)+n)=(m:Int)+n:=wrap64 (by omega) (by omega)
 have w2:IntKind.i64.wrap ((m:Int)+n-1)=N:=by rw[wrap64 (by omega) (by omega)];omega
 have w3:IntKind.i64.wrap (la+lb)=la+lb:=wrap64 (by omega) (by omega)
 rw[awp_seq,awp_reg]
 generalize hK:seqQ Gam _ _ 0=K
 simp(disch:=omega)[w1,w2,w3]
 rw[make_zb (by omega)]
 simp only[bindW_some]
 obtain⟨ob,eob⟩:∃ob,ob=h.length:=⟨_,rfl⟩
 obtain⟨h1,e1⟩:∃h1,h1=h++[⟨ints (List.replicate N 0),true⟩]:=⟨_,rfl⟩
 rw[<-e1,<-eob]
 have g1:Grows h h1:=⟨_,e1⟩
 have k1:h1[ob]?=some ⟨ints (mulI A B 0),true⟩:=by
  rw[e1,eob]
  simp[mulI,eN,em,en]
 have hob:h.length<=ob:=by omega
 simp(disch:=omega)
 subst hK
 simp only[seqQ_zero]
 obtain⟨S2,eS2⟩:∃S,S=Value.agg #[I la,sl b1 o1 m z1]:=⟨_,rfl⟩
 obtain⟨S3,eS3⟩:∃S,S=Value.agg #[I lb,sl b2 o2 n z2]:=⟨_,rfl⟩
 obtain⟨S5,eS5⟩:∃S,S=Value.agg #[I (la+lb),sl ob 0 N 1]:=⟨_,rfl⟩
 rw[awp_seq]
 generalize hP:seqQ Gam _ _=PP
 simp(disch:=omega)
 refine awp_loop (λi σ h'=>i<=m∧Grows h h'∧h'[ob]?=some ⟨ints (mulI A B i),true⟩∧σ 3=S3∧σ 4=.agg #[I 0,sl 0 0 0 0]∧σ 5=S5∧σ 37=sl b1 o1 m z1∧σ 38=I m∧σ 39=I i) (λi=>m-i) 0 ?_ ?_
 ·exact⟨by omega,g1,k1,by simp[eS3],by simp,by simp[eS5],by simp,by simp,by simp⟩
 rintro i σ h'⟨hi,hg,hO,q3,q4,q5,q37,q38,q39⟩
 simp(disch:=omega)[q38,q39]
 refine fork_dec (λhlt=>?_) (λhge=>?_)
 ·have i1:i<m:=by omega
  have ci:=hA h' hg i i1
  have es:mulI A B (i+1)=mulK A B i n (mulI A B i):=by rw[en];rfl
  have e0:mulK A B i 0 (mulI A B i)=mulI A B i:=rfl
  obtain⟨x,ex⟩:∃x,x=A.getD i 0:=⟨_,rfl⟩
  rw[<-ex]at ci
  rw[runT_inl,awp_skip,seqQ_zero,awp_seq]
  generalize hB':seqQ Gam _ _=BB
  rw[awp_block]
  generalize hB1:blockQ _ BB=B1
  rw[awp_seq,awp_reg]
  generalize hK:seqQ Gam _ _ 0=K
  simp(disch:=omega)[q37,q39,i1,ci]
  subst hK
  simp only[seqQ_zero]
  rw[awp_seq,awp_reg]
  generalize hK:seqQ Gam _ _ 0=K
  simp(disch:=omega)[q3,eS3]
  subst hK
  simp only[seqQ_zero]
  rw[awp_block]
  refine awp_loop (λk τ hh=>k<=n∧Grows h hh∧hh[ob]?=some ⟨ints (mulK A B i k (mulI A B i)),true⟩∧τ 3=S3∧τ 4=.agg #[I 0,sl 0 0 0 0]∧τ 5=S5∧τ 37=sl b1 o1 m z1∧τ 38=I m∧τ 39=I i∧τ 6=I i∧τ 7=I x∧τ 45=sl b2 o2 n z2∧τ 46=I n∧τ 47=I k) (λk=>n-k) 0 ?_ ?_
  ·exact⟨by omega,hg,by rw[e0];exact hO,by simpa using q3,by simpa using q4,by simpa using q5,by simpa using q37,by simpa using q38,by simpa using q39,by simp,by simp,by simp,by simp,by simp⟩
  rintro k τ hh⟨hk,gk,hOk,t3,t4,t5,t37,t38,t39,t6,t7,t45,t46,t47⟩
  simp(disch:=omega)[t46,t47]
  refine fork_dec (λhlt=>?_) (λhge=>?_)
  ·have k1:k<n:=by omega
   have ck:=hB hh gk k k1
   have lK:=mkl i k
   have lI:=ml i
   have en2:mulK A B i (k+1) (mulI A B i)=(mulK A B i k (mulI A B i)).set (i+k) (IntKind.i64.wrap ((mulK A B i k (mulI A B i)).getD (i+k) 0+IntKind.i64.wrap (A.getD i 0*B.getD k 0))):=rfl
   obtain⟨y,ey⟩:∃y,y=B.getD k 0:=⟨_,rfl⟩
   rw[<-ex,<-ey]at en2
   rw[<-ey]at ck
   obtain⟨L,eL⟩:∃L,L=mulK A B i k (mulI A B i):=⟨_,rfl⟩
   rw[<-eL]at en2 lK hOk
   have ik:i+k<L.length:=by omega
   have co:=ints_at hOk ik
   obtain⟨v,ev⟩:∃v,v=L.getD (i+k) 0:=⟨_,rfl⟩
   rw[<-ev]at co en2
   have st:=ints_store (x:=IntKind.i64.wrap (v+IntKind.i64.wrap (x*y))) hOk (k:=i+k) ik
   rw[<-en2]at st
   obtain⟨h5,e5⟩:∃h5,h5=hh.set ob ⟨ints (mulK A B i (k+1) (mulI A B i)),true⟩:=⟨_,rfl⟩
   rw[<-e5]at st
   have g5:Grows h h5:=by rw[e5];exact gk.put hob _
   have hO5:h5[ob]?=some ⟨ints (mulK A B i (k+1) (mulI A B i)),true⟩:=by rw[e5];exact blk_set hOk
   have wik:IntKind.i64.wrap ((i:Int)+k)=((i+k:Nat):Int):=by rw[wrap64 (by omega) (by omega)];omega
   obtain⟨q,eq⟩:∃q,q=i+k:=⟨_,rfl⟩
   rw[<-eq]at wik co st
   have qN:q<N:=by omega
   simp(disch:=omega)[t5,t6,t7,t45,t47,eS5,k1,ck,wik,qN,co,st]
   try simp(disch:=omega)[t47,wrap64]
   refine⟨k+1,?_,by omega⟩
   try rw[<-eS5]
   and_intros<;>first|assumption|omega|rfl
  ·have:k=n:=by omega
   subst this
   rw[<-es]at hOk
   simp(disch:=omega)
   subst hB1
   rw[blockQ_eq,if_neg (by omega)]
   subst hB'
   simp only[seqQ_zero]
   simp(disch:=omega)[t39,wrap64]
   refine⟨i+1,?_,by omega⟩
   and_intros<;>first|assumption|omega|rfl
 ·have:i=m:=by omega
  subst this
  simp(disch:=omega)
  subst hP
  simp only[seqQ_zero]
  have hv:=vr_own hO (mi i) (by rw[ml];omega)
  rw[ml i,<-eN]at hv
  rw[awp_seq,awp_reg]
  generalize hK:seqQ Gam _ _ 0=K
  simp(disch:=omega)[q4,q5,eS5]
  refine callW_of (c193 h' (pos_of hp hg) (la+lb) _ _ hv (by rw[ml];omega) (by omega)) ?_
  rintro r h2⟨g2,w,rfl,rw2⟩
  try refine⟨λe=>(by first|exact g2|cases e),?_⟩
  obtain⟨wb,wo,wz,rfl,_⟩:=rw2.ints
  simp(disch:=omega)[q4]
  subst hK
  simp(disch:=omega)
  rw[eP0]
  exact⟨hg.trans g2,_,rfl,rw2⟩
theorem ixP0(a b c d:Value):aIndex 1002002 (.agg #[a,b,c,d]) (I 0)=some (.agg #[a,b]):=rfl
theorem ixP1(a b c d:Value):aIndex 1002002 (.agg #[a,b,c,d]) (I 1)=some (.agg #[c,d]):=rfl
theorem addK_set{A L:List Int}{off k:Nat}:addK A off (k+1) L=(addK A off k L).set (off+k) (IntKind.i64.wrap ((addK A off k L).getD (off+k) 0+A.getD k 0)):=rfl
theorem c145(h:Heap)(hp:0<h.length)(va vb:Value)(a b:Poly)(pa:PolyV h va a)(pb:PolyV h vb b)(sa:Small a)(sb:Small b):ACall Gam 145 [va,vb] h λr h'=>PolyO h h' r (addP a b):=by
 obtain⟨la,A⟩:=a
 obtain⟨lb,B⟩:=b
 obtain⟨s1,rfl,va⟩:=pa
 obtain⟨s2,rfl,vb⟩:=pb
 obtain⟨sa1,sa2⟩:=sa
 obtain⟨sb1,sb2⟩:=sb
 simp only at va vb sa1 sa2 sb1 sb2 ⊢
 obtain⟨P,eP⟩:∃P,P=addP (la,A) (lb,B):=⟨_,rfl⟩
 have eP0:=eP
 unfold addP addI at eP0
 rw[<-eP]
 have va0:=va
 have vb0:=vb
 obtain⟨b1,o1,z1,rfl,hz1,_,hx1,hc1⟩:=va.ints
 obtain⟨b2,o2,z2,rfl,hz2,_,hx2,hc2⟩:=vb.ints
 obtain⟨m,em⟩:∃m,m=A.length:=⟨_,rfl⟩
 obtain⟨n,en⟩:∃n,n=B.length:=⟨_,rfl⟩
 simp only[<-em,<-en]at hc1 hc2 sa1 sb1 va0 vb0 eP0 ⊢
 have hA:∀h',Grows h h'->∀k,k<m->cell h' b1 (o1+k)=some (I (A.getD k 0)):=λh' g k hk=>g.cell (ints_getD (em▸hc1) (by omega))
 have hB:∀h',Grows h h'->∀k,k<n->cell h' b2 (o2+k)=some (I (B.getD k 0)):=λh' g k hk=>g.cell (ints_getD (en▸hc2) (by omega))
 refine ACall_intro g145 rfl ?_
 unfold fn145
 rw[awp_seq,awp_reg]
 generalize hK:seqQ Gam _ _ 0=K
 simp(disch:=omega)
 subst hK
 simp only[seqQ_zero]
 rw[awp_seq]
 generalize hK:seqQ Gam _ _=K
 by_cases m0:m=0
 ·have:A=[]:=List.length_eq_zero_iff.1 (by omega)
  simp only[this,if_true]at eP0
  simp(disch:=omega)[m0]
  refine callW_of (c193 h hp lb _ B vb0 (by omega) (by omega)) ?_
  rintro r h2⟨g2,w,rfl,rw2⟩
  try refine⟨λe=>(by first|exact g2|cases e),?_⟩
  obtain⟨wb,wo,wz,rfl,_⟩:=rw2.ints
  simp(disch:=omega)
  subst hK
  simp(disch:=omega)
  rw[eP0]
  exact⟨g2,_,rfl,rw2⟩
 have m0I:¬(m:Int)=0:=by omega
 have Ane:A≠[]:=by intro e;rw[e]at em;simp at em;omega
 simp only[Ane,if_false]at eP0
 simp(disch:=omega)[m0,m0I]
 subst hK
 simp only[seqQ_zero]
 rw[awp_seq]
 generalize hK:seqQ Gam _ _=K
 by_cases n0:n=0
 ·have:B=[]:=List.length_eq_zero_iff.1 (by omega)
  simp only[this,if_true]at eP0
  simp(disch:=omega)[n0]
  refine callW_of (c193 h hp la _ A va0 (by omega) (by omega)) ?_
  rintro r h2⟨g2,w,rfl,rw2⟩
  try refine⟨λe=>(by first|exact g2|cases e),?_⟩
  obtain⟨wb,wo,wz,rfl,_⟩:=rw2.ints
  simp(disch:=omega)
  subst hK
  simp(disch:=omega)
  rw[eP0]
  exact⟨g2,_,rfl,rw2⟩
 have n0I:¬(n:Int)=0:=by omega
 have Bne:B≠[]:=by intro e;rw[e]at en;simp at en;omega
 simp only[Bne,if_false]at eP0
 simp(disch:=omega)[n0,n0I]
 subst hK
 simp only[seqQ_zero]
 obtain⟨lo,elo⟩:∃lo,lo=min la lb:=⟨_,rfl⟩
 obtain⟨hi,ehi⟩:∃hi,hi=max (la+m) (lb+n):=⟨_,rfl⟩
 rw[<-elo,<-ehi]at eP0
 have wa:IntKind.i64.wrap (la+m)=la+m:=wrap64 (by omega) (by omega)
 have wb':IntKind.i64.wrap (lb+n)=lb+n:=wrap64 (by omega) (by omega)
 have emin:(if lb<la then lb else la)=lo:=by rw[elo];split<;>omega
 have emax:(if la+m<lb+n then lb+n else la+m)=hi:=by rw[ehi];split<;>omega
 have emax2:(if lb+n<la+m then la+m else lb+n)=hi:=by rw[ehi];split<;>omega
 have lo1:lo<=la∧lo<=lb:=by omega
 have hi1:la+m<=hi∧lb+n<=hi∧hi-lo<=50000:=by omega
 obtain⟨N,eN⟩:∃N,N=(hi-lo).toNat:=⟨_,rfl⟩
 obtain⟨fa,efa⟩:∃f,f=(la-lo).toNat:=⟨_,rfl⟩
 obtain⟨fb,efb⟩:∃f,f=(lb-lo).toNat:=⟨_,rfl⟩
 rw[<-eN,<-efa,<-efb]at eP0
 have fN:fa+m<=N∧fb+n<=N∧N<=50000∧-10000<=lo∧lo<=10000:=by omega
 have wN:IntKind.i64.wrap (hi-lo)=N:=by rw[wrap64 (by omega) (by omega)];omega
 have wfa:IntKind.i64.wrap (la-lo)=fa:=by rw[wrap64 (by omega) (by omega)];omega
 have wfb:IntKind.i64.wrap (lb-lo)=fb:=by rw[wrap64 (by omega) (by omega)];omega
 obtain⟨L1,eL1⟩:∃L,L=addK A fa m (List.replicate N 0):=⟨_,rfl⟩
 obtain⟨L2,eL2⟩:∃L,L=addK B fb n L1:=⟨_,rfl⟩
 have fL1:=eL1
 have fL2:=eL2
 rw[<-eL1,<-eL2]at eP0
 have lk1:=λk=>addK_len (A:=A) (off:=fa) k (List.replicate N 0)
 have l1:L1.length=N:=by rw[eL1,lk1];simp
 have lk2:=λk=>addK_len (A:=B) (off:=fb) k L1
 have l2:L2.length=N:=by rw[eL2,lk2,l1]
 have i2:∀x∈L2,I64 x:=by rw[eL2,eL1];exact addK_i64 _ _ (addK_i64 _ _ zeros_i64)
 simp only[List.length_replicate,l1]at lk1 lk2
 rw[awp_seq,awp_reg]
 generalize hK:seqQ Gam _ _ 0=K
 simp(disch:=omega)[aMin]
 rw[emin]
 subst hK
 simp only[seqQ_zero]
 rw[awp_seq,awp_reg]
 generalize hK:seqQ Gam _ _ 0=K
 simp(disch:=omega)[aMax,wa,wb']
 rw[emax]
 subst hK
 simp only[seqQ_zero]
 rw[awp_seq,awp_reg]
 generalize hK:seqQ Gam _ _ 0=K
 simp(disch:=omega)[wN]
 rw[make_zb (by omega)]
 simp only[bindW_some]
 obtain⟨ob,eob⟩:∃ob,ob=h.length:=⟨_,rfl⟩
 obtain⟨h1,e1⟩:∃h1,h1=h++[⟨ints (List.replicate N 0),true⟩]:=⟨_,rfl⟩
 rw[<-e1,<-eob]
 have g1:Grows h h1:=⟨_,e1⟩
 have k1:h1[ob]?=some ⟨ints (List.replicate N 0),true⟩:=by rw[e1,eob];simp
 have hob:h.length<=ob:=by omega
 clear elo ehi efa efb eN emin emax emax2 lo1 hi1 sa2 sb2 wa wb' wN eL1 eL2 hz1 hz2 hx1 hx2 hc1 hc2 va0 vb0 va vb eP Ane Bne m0 m0I n0 n0I eob e1
 try simp(disch:=omega)
 subst hK
 simp only[seqQ_zero]
 obtain⟨S7,eS7⟩:∃S,S=Value.agg #[I lo,sl ob 0 N 1]:=⟨_,rfl⟩
 obtain⟨S50,eS50⟩:∃S,S=Value.agg #[I la,sl b1 o1 m z1,I lb,sl b2 o2 n z2]:=⟨_,rfl⟩
 obtain⟨LT,eLT⟩:∃LT:Nat->List Int,LT=λt=>if t=0 then List.replicate N 0 else if t=1 then L1 else L2:=⟨_,rfl⟩
 have T0:LT 0=List.replicate N 0:=by rw[eLT];rfl
 have T1:LT 1=L1:=by rw[eLT];rfl
 have T2:LT 2=L2:=by rw[eLT];rfl
 rw[awp_seq]
 generalize hP:seqQ Gam _ _=PP
 simp(disch:=omega)
 refine awp_loop (λt σ h'=>t<=2∧Grows h h'∧h'[ob]?=some ⟨ints (LT t),true⟩∧σ 4=.agg #[I 0,sl 0 0 0 0]∧σ 5=I lo∧σ 7=S7∧σ 50=S50∧σ 51=I t) (λt=>2-t) 0 ?_ ?_
 ·exact⟨by omega,g1,by rw[T0];exact k1,by simp,by simp,by simp[eS7],by simp[eS50],by simp⟩
 rintro t σ h'⟨ht,hg,hO,q4,q5,q7,q50,q51⟩
 simp(disch:=omega)[q51]
 refine fork_dec (λhlt=>?_) (λhge=>?_)
 ·rw[runT_inl,awp_skip,seqQ_zero,awp_seq]
  generalize hB':seqQ Gam _ _=BB
  rw[awp_block]
  generalize hB1:blockQ _ BB=B1
  rw[awp_seq,awp_reg]
  have tt:t=0∨t=1:=by omega
  rcases tt with rfl|rfl
  ·rw[T0]at hO
   generalize hK:seqQ Gam _ _ 0=K
   simp(disch:=omega)[q50,q51,eS50,ixP0,ixP1]
   subst hK
   simp only[seqQ_zero]
   rw[awp_seq,awp_reg]
   generalize hK:seqQ Gam _ _ 0=K
   simp(disch:=omega)
   subst hK
   simp only[seqQ_zero]
   rw[awp_block]
   have e0:addK A fa 0 (List.replicate N 0)=(List.replicate N 0):=rfl
   have ee:addK A fa m (List.replicate N 0)=L1:=fL1.symm
   obtain⟨S9,eS9⟩:∃S,S=Value.agg #[I la,sl b1 o1 m z1]:=⟨_,rfl⟩
   refine awp_loop (λk τ hh=>k<=m∧Grows h hh∧hh[ob]?=some ⟨ints (addK A fa k (List.replicate N 0)),true⟩∧τ 4=.agg #[I 0,sl 0 0 0 0]∧τ 5=I lo∧τ 7=S7∧τ 9=S9∧τ 50=S50∧τ 51=I 0∧τ 55=sl b1 o1 m z1∧τ 56=I m∧τ 57=I k) (λk=>m-k) 0 ?_ ?_
   ·exact⟨by omega,hg,by rw[e0];exact hO,by simpa using q4,by simpa using q5,by simpa using q7,by simp[eS9],by simpa [eS50]using q50,by simpa using q51,by simp,by simp,by simp⟩
   rintro k τ hh⟨hk,gk,hOk,t4,t5,t7,t9,t50,t51,t55,t56,t57⟩
   simp(disch:=omega)[t56,t57]
   refine fork_dec (λhlt=>?_) (λhge=>?_)
   ·have k1:k<m:=by omega
    have ck:=hA hh gk k k1
    have lK:=lk1 k
    have en2:=addK_set (A:=A) (L:=(List.replicate N 0)) (off:=fa) (k:=k)
    obtain⟨y,ey⟩:∃y,y=A.getD k 0:=⟨_,rfl⟩
    rw[<-ey]at en2 ck
    obtain⟨L,eL⟩:∃L,L=addK A fa k (List.replicate N 0):=⟨_,rfl⟩
    rw[<-eL]at en2 lK hOk
    have ik:fa+k<L.length:=by omega
    have co:=ints_at hOk ik
    obtain⟨v,ev⟩:∃v,v=L.getD (fa+k) 0:=⟨_,rfl⟩
    rw[<-ev]at co en2
    have st:=ints_store (x:=IntKind.i64.wrap (v+y)) hOk (k:=fa+k) ik
    rw[<-en2]at st
    obtain⟨h5,e5⟩:∃h5,h5=hh.set ob ⟨ints (addK A fa (k+1) (List.replicate N 0)),true⟩:=⟨_,rfl⟩
    rw[<-e5]at st
    have g5:Grows h h5:=by rw[e5];exact gk.put hob _
    have hO5:h5[ob]?=some ⟨ints (addK A fa (k+1) (List.replicate N 0)),true⟩:=by rw[e5];exact blk_set hOk
    have wik:IntKind.i64.wrap ((fa:Int)+k)=((fa+k:Nat):Int):=by rw[wrap64 (by omega) (by omega)];omega
    obtain⟨q,eq⟩:∃q,q=fa+k:=⟨_,rfl⟩
    rw[<-eq]at wik co st
    have qN:q<N:=by omega
    simp(disch:=omega)[t5,t7,t9,t55,t57,eS7,eS9,k1,ck,wfa,wik,qN,co,st]
    try simp(disch:=omega)[t57,wrap64]
    refine⟨k+1,?_,by omega⟩
    and_intros<;>first|assumption|omega|(rw[<-eS7];assumption)|(rw[<-eS9];assumption)|rfl
   ·have:k=m:=by omega
    subst this
    rw[ee,<-T1]at hOk
    simp(disch:=omega)
    subst hB1
    rw[blockQ_eq,if_neg (by omega)]
    subst hB'
    simp only[seqQ_zero]
    simp(disch:=omega)[t51,wrap64]
    refine⟨1,?_,by omega⟩
    and_intros<;>first|assumption|omega|rfl
  ·rw[T1]at hO
   generalize hK:seqQ Gam _ _ 0=K
   simp(disch:=omega)[q50,q51,eS50,ixP0,ixP1]
   subst hK
   simp only[seqQ_zero]
   rw[awp_seq,awp_reg]
   generalize hK:seqQ Gam _ _ 0=K
   simp(disch:=omega)
   subst hK
   simp only[seqQ_zero]
   rw[awp_block]
   have e0:addK B fb 0 L1=L1:=rfl
   have ee:addK B fb n L1=L2:=fL2.symm
   obtain⟨S9,eS9⟩:∃S,S=Value.agg #[I lb,sl b2 o2 n z2]:=⟨_,rfl⟩
   refine awp_loop (λk τ hh=>k<=n∧Grows h hh∧hh[ob]?=some ⟨ints (addK B fb k L1),true⟩∧τ 4=.agg #[I 0,sl 0 0 0 0]∧τ 5=I lo∧τ 7=S7∧τ 9=S9∧τ 50=S50∧τ 51=I 1∧τ 55=sl b2 o2 n z2∧τ 56=I n∧τ 57=I k) (λk=>n-k) 0 ?_ ?_
   ·exact⟨by omega,hg,by rw[e0];exact hO,by simpa using q4,by simpa using q5,by simpa using q7,by simp[eS9],by simpa [eS50]using q50,by simpa using q51,by simp,by simp,by simp⟩
   rintro k τ hh⟨hk,gk,hOk,t4,t5,t7,t9,t50,t51,t55,t56,t57⟩
   simp(disch:=omega)[t56,t57]
   refine fork_dec (λhlt=>?_) (λhge=>?_)
   ·have k1:k<n:=by omega
    have ck:=hB hh gk k k1
    have lK:=lk2 k
    have en2:=addK_set (A:=B) (L:=L1) (off:=fb) (k:=k)
    obtain⟨y,ey⟩:∃y,y=B.getD k 0:=⟨_,rfl⟩
    rw[<-ey]at en2 ck
    obtain⟨L,eL⟩:∃L,L=addK B fb k L1:=⟨_,rfl⟩
    rw[<-eL]at en2 lK hOk
    have ik:fb+k<L.length:=by omega
    have co:=ints_at hOk ik
    obtain⟨v,ev⟩:∃v,v=L.getD (fb+k) 0:=⟨_,rfl⟩
    rw[<-ev]at co en2
    have st:=ints_store (x:=IntKind.i64.wrap (v+y)) hOk (k:=fb+k) ik
    rw[<-en2]at st
    obtain⟨h5,e5⟩:∃h5,h5=hh.set ob ⟨ints (addK B fb (k+1) L1),true⟩:=⟨_,rfl⟩
    rw[<-e5]at st
    have g5:Grows h h5:=by rw[e5];exact gk.put hob _
    have hO5:h5[ob]?=some ⟨ints (addK B fb (k+1) L1),true⟩:=by rw[e5];exact blk_set hOk
    have wik:IntKind.i64.wrap ((fb:Int)+k)=((fb+k:Nat):Int):=by rw[wrap64 (by omega) (by omega)];omega
    obtain⟨q,eq⟩:∃q,q=fb+k:=⟨_,rfl⟩
    rw[<-eq]at wik co st
    have qN:q<N:=by omega
    simp(disch:=omega)[t5,t7,t9,t55,t57,eS7,eS9,k1,ck,wfb,wik,qN,co,st]
    try simp(disch:=omega)[t57,wrap64]
    refine⟨k+1,?_,by omega⟩
    and_intros<;>first|assumption|omega|(rw[<-eS7];assumption)|(rw[<-eS9];assumption)|rfl
   ·have:k=n:=by omega
    subst this
    rw[ee,<-T2]at hOk
    simp(disch:=omega)
    subst hB1
    rw[blockQ_eq,if_neg (by omega)]
    subst hB'
    simp only[seqQ_zero]
    simp(disch:=omega)[t51,wrap64]
    refine⟨2,?_,by omega⟩
    and_intros<;>first|assumption|omega|rfl
 ·have:t=2:=by omega
  subst this
  rw[T2]at hO
  simp(disch:=omega)
  subst hP
  simp only[seqQ_zero]
  have hv:=vr_own hO i2 (by omega)
  rw[l2]at hv
  rw[awp_seq,awp_reg]
  generalize hK:seqQ Gam _ _ 0=K
  simp(disch:=omega)[q4,q7,eS7]
  refine callW_of (c193 h' (pos_of hp hg) lo _ _ hv (by omega) (by omega)) ?_
  rintro r h2⟨g2,w,rfl,rw2⟩
  try refine⟨λe=>(by first|exact g2|cases e),?_⟩
  obtain⟨wb,wo,wz,rfl,_⟩:=rw2.ints
  simp(disch:=omega)[q4]
  subst hK
  simp(disch:=omega)
  rw[eP0]
  exact⟨hg.trans g2,_,rfl,rw2⟩
open Classical in
noncomputable def oddX(W H k:Nat):Bool:=decide (∃x y,IsPt W H k x y∧x%2=1)
open Classical in
theorem oddX_is{W H k x y:Nat}(a:IsPt W H k x y):oddX W H k=decide (x%2=1):=by
 unfold oddX
 by_cases q:x%2=1
 ·rw[decide_eq_true q,decide_eq_true ⟨x,y,a,q⟩]
 ·rw[decide_eq_false q,decide_eq_false]
  rintro⟨x',y',b,c⟩
  obtain⟨e,_⟩:=a.uniq b
  rw[e]at q
  exact q c
noncomputable def kindS(W H k:Nat)(along:Bool):Int:=if oddX W H k==along then 1 else 2
theorem c26(h:Heap)(hp:0<h.length)(v:Value)(W H:Int)(br:List Int)(k:Nat)(x:Int)(hv:Vr h shPanel v (W,H,br))(hk:k<br.length)(hb:br.length<=1000)(hx:I64 x):ACall Gam 26 [v,I k,I x] h λr h'=>Grows h h'∧Vo h' h.length h'.length shPanel r (W,H,br.set k x):=by
 have hv0:=hv
 obtain⟨s,rfl,w1,w2,r⟩:=hv.panel
 obtain⟨n,en⟩:∃n,n=br.length:=⟨_,rfl⟩
 refine ACall_intro g26 rfl ?_
 unfold fn26
 rw[awp_seq,awp_reg]
 generalize hK:seqQ Gam _ _ 0=K
 simp(disch:=omega)
 subst hK
 simp only[seqQ_zero]
 rw[awp_seq,awp_reg]
 generalize hK:seqQ Gam _ _ 0=K
 simp(disch:=omega)
 refine callW_of (c150 h _ _ hp hv0 (by simp only;omega)) ?_
 rintro _ h2⟨g2,o2⟩
 try refine⟨λe=>(by first|exact g2|cases e),?_⟩
 obtain⟨s2,rfl,_,_,o3⟩:=o2.panel
 obtain⟨wb,wz,rfl,hz,hm,hx3,hb3⟩:=o3.ints
 have hz1:wz=1:=by
  rcases hz with e|⟨_,e⟩
  ·exact e
  ·rw[e]at hk;simp at hk
 obtain⟨kb,wlo,whi⟩:=hb3.resolve_left (by intro e;rw[e]at hk;simp at hk)
 subst hz1
 rw[<-en]at hk hb ⊢
 simp(disch:=omega)
 subst hK
 simp only[seqQ_zero]
 have st:=ints_store (x:=x) kb (k:=k) (by omega)
 have g3:=g2.put wlo ⟨ints (br.set k x),true⟩
 have kb3:=blk_set (d:=⟨ints (br.set k x),true⟩) kb
 rw[awp_seq,awp_reg]
 generalize hK:seqQ Gam _ _ 0=K
 simp(disch:=omega)[hk,st]
 subst hK
 simp only[seqQ_zero]
 rw[awp_seq,awp_reg]
 generalize hK:seqQ Gam _ _ 0=K
 simp(disch:=omega)
 subst hK
 simp(disch:=omega)
 refine⟨g3,?_⟩
 have hv3:=Vo.of_ints (lo:=h.length) (hi:=(h2.set wb ⟨ints (br.set k x),true⟩).length) (z:=1) (X:=br.set k x) (.inl rfl) (by rw[List.length_set,maxLen_eq];omega) (λy hy=>by
  rcases List.mem_or_eq_of_mem_set hy with q|q
  ·exact hx3 y q
  ·rw[q];exact hx) (.inr ⟨kb3,wlo,by rw[List.length_set];exact whi⟩)
 rw[show(br.set k x).length=n by rw[List.length_set,en]]at hv3
 exact Vo.of_panel w1 w2 hv3
theorem pairs_fst{h:Heap}{b k:Nat}{l:List (Nat×Nat)}(hb:h[b]?=some ⟨pairsV l,true⟩)(hk:k<l.length):cell h b (k*2)=some (I (l[k].1:Nat)):=by
 have e:=flat_at (f:=pairV) (z:=2) (λ_=>rfl) (l:=l) hk
 have hl:=pairsV_len l
 have c:=cellsAt_of (o:=k*2) (n:=2) hb (by simp only;omega)
 have e':((pairsV l).drop (k*2)).take 2=pairV l[k]:=e
 simp only[e']at c
 have:=(cell_in (i:=0) c (by omega)).1
 simpa [pairV]using this
theorem c53(h:Heap)(hp:0<h.length)(v:Value)(X:Pan)(k:Nat)(along:Bool)(hv:Vr h shPanel v X)(ok:OkP X)(hk:k<X.2.2.length):ACall Gam 53 [v,I k,B along] h λr h'=>Grows h h'∧Vr h' shPanel r (X.1,X.2.1,X.2.2.set k (kindS X.1.toNat X.2.1.toNat k along)):=by
 have w8:=ok.w
 have h8:=ok.h
 have hrow:=ok.row
 have hlen:X.2.2.length<=112:=by obtain⟨W,H,br⟩:=X;exact ok_len ok
 obtain⟨A,eA⟩:∃A,A=kindS X.1.toNat X.2.1.toNat k along:=⟨_,rfl⟩
 have eA0:=eA
 unfold kindS at eA0
 rw[<-eA]
 obtain⟨W,H,br⟩:=X
 simp only at w8 h8 hrow hlen hk eA0 ⊢
 have hv0:=hv
 obtain⟨s,rfl,w1,w2,r⟩:=hv.panel
 obtain⟨sb,so,sn,sz,rfl⟩:∃b o n z,s=sl b o n z:=by obtain⟨b,o,z,e,_⟩:=r.ints;exact⟨b,o,_,z,e⟩
 have eW:W=(W.toNat:Int):=by omega
 have eH:H=(H.toNat:Int):=by omega
 have cp:=c49 h W.toNat H.toNat (sl sb so sn sz) hp (by omega) (by omega) (by omega) (by omega)
 rw[<-eW,<-eH]at cp
 refine ACall_intro g53 rfl ?_
 unfold fn53
 rw[awp_seq,awp_reg]
 generalize hK:seqQ Gam _ _ 0=K
 simp(disch:=omega)
 subst hK
 simp only[seqQ_zero]
 rw[awp_seq,awp_reg]
 generalize hK:seqQ Gam _ _ 0=K
 simp(disch:=omega)
 subst hK
 simp only[seqQ_zero]
 rw[awp_seq]
 generalize hK:seqQ Gam _ _=K
 have post:∀(σ:Nat->Value) (h':Heap),Grows h h'->σ 1=I k->σ 3=.agg #[I W,I H,sl sb so sn sz]->σ 6=.agg #[I 0,I 0,sl 0 0 0 0]->σ 7=I A->K 0 σ h':=by
  intro σ h' hg q1 q3 q6 q7
  subst hK
  simp only[seqQ_zero]
  rw[awp_seq,awp_reg]
  generalize hK:seqQ Gam _ _ 0=K
  simp(disch:=omega)[q1,q3,q6,q7]
  refine callW_of (c26 h' (pos_of hp hg) _ W H br k A (hv0.grow hg) hk (by omega) (by unfold I64;rw[eA0];split<;>omega)) ?_
  rintro _ h3⟨g3,r3⟩
  try refine⟨λe=>(by first|exact g3|cases e),?_⟩
  have r3:=r3.vr
  obtain⟨s3,rfl,_,_,r3i⟩:=r3.panel
  obtain⟨tb,to,tn,tz,rfl⟩:∃b o n z,s3=sl b o n z:=by obtain⟨b,o,z,e,_⟩:=r3i.ints;exact⟨b,o,_,z,e⟩
  simp(disch:=omega)[q6]
  subst hK
  simp(disch:=omega)
  exact⟨hg.trans g3,r3⟩
 clear hK
 simp(disch:=omega)
 refine callW_of cp ?_
 rintro pv h2⟨g2,l,pok,pl,b2⟩
 try refine⟨λe=>(by first|exact g2|cases e),?_⟩
 have kl:k<l.length:=by omega
 have pk:=pok k kl
 have od:=oddX_is pk
 rw[od]at eA0
 obtain⟨pb,rfl,kp⟩:∃pb,pv=sl pb 0 l.length 2∧h2[pb]?=some ⟨pairsV l,true⟩:=by
  rcases b2 with⟨e,_⟩|⟨b,n,e1,e2,e3,e4⟩
  ·have:=congrArg List.length e
   rw[pairsV_len]at this
   simp only[List.length_nil]at this
   omega
  ·rw[pairsV_len]at e2
   exact⟨b,by rw[e1];congr 1;omega,e4⟩
 have cx:=pairs_fst kp kl
 obtain⟨x,ex⟩:∃x,x=l[k].1:=⟨_,rfl⟩
 rw[<-ex]at cx eA0
 have tm:Int.tmod (x:Int) 2=((x%2:Nat):Int):=by rw[Int.tmod_eq_emod_of_nonneg (by omega)];omega
 simp(disch:=omega)[kl,cx]
 rw[tm]
 by_cases q:x%2=1
 ·rw[decide_eq_true q]at eA0
  cases along
  ·have:A=2:=by rw[eA0];rfl
   simp(disch:=omega)[q]
   exact post _ h2 g2 (by simp) (by simp) (by simp) (by simp[this])
  ·have:A=1:=by rw[eA0];rfl
   simp(disch:=omega)[q]
   exact post _ h2 g2 (by simp) (by simp) (by simp) (by simp[this])
 ·rw[decide_eq_false q]at eA0
  have q0:x%2=0:=by omega
  cases along
  ·have:A=1:=by rw[eA0];rfl
   simp(disch:=omega)[q0]
   exact post _ h2 g2 (by simp) (by simp) (by simp) (by simp[this])
  ·have:A=2:=by rw[eA0];rfl
   simp(disch:=omega)[q0]
   exact post _ h2 g2 (by simp) (by simp) (by simp) (by simp[this])
theorem Neat.mono{B C:Nat}{p:Poly}(x:Neat B p)(h:B<=C):Neat C p:=⟨x.ends,λe=>by have:=x.bd e;omega,x.i64⟩
theorem Neat.small{B:Nat}{p:Poly}(x:Neat B p)(h:B<=1000):Small p:=by
 by_cases e:p.2=[]
 ·rcases x.ends with⟨a,b⟩|⟨a,_⟩
  ·exact⟨by rw[e];simp,by omega⟩
  ·exact absurd e a
 ·have:=x.bd e
  exact⟨by omega,by omega⟩
theorem shift_neat{B:Nat}{k:Int}{K:Nat}{p:Poly}(x:Neat B p)(h:-(K:Int)<=k∧k<=K):Neat (B+K) (shiftP k p):=by
 unfold shiftP
 by_cases e:p.2=[]
 ·rw[if_pos e]
  exact⟨.inl ⟨rfl,rfl⟩,by simp,by simp⟩
 ·rw[if_neg e]
  refine⟨.inr ⟨e,(x.ends.resolve_left (λq=>e q.1)).2⟩,λ_=>?_,x.i64⟩
  have:=x.bd e
  simp only
  omega
theorem unit_neat:Neat 1 unitP:=⟨.inr ⟨by decide,⟨by decide,by decide,λi h1 h2=>by omega,.inr ⟨by decide,by decide⟩⟩⟩,by decide,λx hx=>by simp[unitP]at hx;unfold I64;omega⟩
theorem pwP_neat:∀k,Neat (1+3*k) (pwP k)
 |0=>unit_neat
 |k+1=>by
  have:=mul_neat (pwP_neat k) loop_neat
  exact this.mono (by omega)
theorem pwS_neat{p:Int}(hp:-8<=p∧p<=8)(k:Nat):Neat (9+3*k) (pwS p k):=by
 rw[pwS_is]
 exact(shift_neat (K:=8) (pwP_neat k) (by omega)).mono (by omega)
theorem loop_build(h:Heap):aBuildSlice 1 5 h [(0,.agg #[I 0,I 0,I 0,I 0,I 0]),(1,I (-1)),(1001,I 0),(2001,I 0),(3001,I 0),(4001,I (-1))]=some (sl h.length 0 5 1,h++[⟨ints [-1,0,0,0,-1],true⟩]):=by simp[aBuildSlice,ints]
theorem unit_build(h:Heap):aBuildSlice 1 1 h [(0,.agg #[I 0]),(1,I 1)]=some (sl h.length 0 1 1,h++[⟨ints [1],true⟩]):=by simp[aBuildSlice,ints]
def qN(w i:Nat):Nat:=w/2^i
def bN(w i:Nat):Nat:=qN w i%2
def p2N(n:Nat):Nat:=2^n
def bitW(w i:Nat):Bool:=decide (bN w i=1)
theorem shr_nat{w i:Nat}{j:IntKind}(hi:i<=60):aBin .shr 0 (I w) (.int j i)=some (I (qN w i:Nat)):=by
 have e:min (i:Int).toNat 64=i:=by omega
 show(if(0:Int)<=i then some (Value.int .i64 ((w:Int).fdiv (2^(min (i:Int).toNat 64))))else none)=_
 rw[if_pos (by omega),e,Int.fdiv_eq_ediv_of_nonneg _ (Int.pow_nonneg (by omega))]
 unfold qN
 congr 2
theorem and_w1:∀q,q<256->IntKind.i64.wrap (((BitVec.ofInt 64 (q:Nat)) &&& (BitVec.ofInt 64 1)).toNat:Int)=((q%2:Nat):Int):=by decide+kernel
theorem and_nat{w i:Nat}(hw:w<256):aBin .and 0 (I (qN w i:Nat)) (I 1)=some (I (bN w i:Nat)):=by
 have:qN w i<256:=Nat.lt_of_le_of_lt (Nat.div_le_self _ _) hw
 unfold bN
 rw[<-and_w1 _ this]
 rfl
theorem shl_w:∀n,n<9->IntKind.i64.wrap (1*2^(min n 64))=((p2N n:Nat):Int):=by decide
theorem shl_nat{n:Nat}{j:IntKind}(hn:n<=8):aBin .shl 0 (I 1) (.int j n)=some (I (p2N n:Nat)):=by
 rw[<-shl_w n (by omega)]
 show(if(0:Int)<=n then some (Value.int .i64 (IntKind.i64.wrap (1*2^(min (n:Int).toNat 64))))else none)=_
 rw[if_pos (by omega)]
 simp
theorem p2N_le{n:Nat}(hn:n<=8):p2N n<=256:=by
 have:n=0∨n=1∨n=2∨n=3∨n=4∨n=5∨n=6∨n=7∨n=8:=by omega
 rcases this with rfl|rfl|rfl|rfl|rfl|rfl|rfl|rfl|rfl<;>decide
def crN(br:List Int):List Nat:=(List.range br.length).filter λj=>decide (at0 br j=0)
theorem crN_is(br:List Int):crossL br br.length=natI (crN br):=rfl
theorem crN_lt{br:List Int}{i:Nat}(hi:i<(crN br).length):(crN br).getD i 0<br.length:=by
 rw[getD_at hi]
 have:=List.getElem_mem hi
 exact List.mem_range.1 (List.mem_filter.1 this).1
noncomputable def smF(W H:Nat)(cr:List Nat)(w:Nat):Nat->List Int->List Int
 |0,br=>br
 |i+1,br=>(smF W H cr w i br).set (cr.getD i 0) (kindS W H (cr.getD i 0) (bitW w i))
theorem smF_len{W H:Nat}{cr:List Nat}{w:Nat}:∀(i:Nat) (br:List Int),(smF W H cr w i br).length=br.length
 |0,_=>rfl
 |i+1,br=>by rw[smF,List.length_set,smF_len i]
theorem kindS_bd{W H k:Nat}{a:Bool}:1<=kindS W H k a∧kindS W H k a<=2:=by unfold kindS;split<;>omega
theorem smF_bd{W H:Nat}{cr:List Nat}{w:Nat}:∀(i:Nat) (br:List Int),(∀x∈br,0<=x∧x<=2)->∀x∈smF W H cr w i br,0<=x∧x<=2
 |0,_,h=>h
 |i+1,br,h=>by
  intro x hx
  rcases List.mem_or_eq_of_mem_set hx with q|q
  ·exact smF_bd i br h x q
  ·have:=kindS_bd (W:=W) (H:=H) (k:=cr.getD i 0) (a:=bitW w i)
   rw[q];omega
theorem smF_ok{W H:Int}{br:List Int}{cr:List Nat}{w i:Nat}(ok:OkP (W,H,br)):OkP (W,H,smF W.toNat H.toNat cr w i br):=by
 refine⟨ok.w,ok.h,?_,smF_bd i br ok.b⟩
 have:=ok.n
 simp only at this ⊢
 rw[smF_len];exact this
def powW(w:Nat):Nat->Int
 |0=>0
 |i+1=>if bitW w i then powW w i+1 else powW w i-1
theorem powW_bd{w:Nat}:∀i:Nat,-(i:Int)<=powW w i∧powW w i<=i
 |0=>by simp[powW]
 |i+1=>by
  have:=powW_bd (w:=w) i
  unfold powW
  split<;>omega
noncomputable def sumB(X:Pan)(cr:List Nat):Nat->Poly
 |0=>(0,[])
 |w+1=>addP (sumB X cr w) (shiftP (powW w cr.length) (pwP (curveN (X.1,X.2.1,smF X.1.toNat X.2.1.toNat cr w cr.length X.2.2)-1)))
noncomputable def brP(X:Pan):Poly:=sumB X (crN X.2.2) (p2N (crN X.2.2).length)
theorem sumB_neat{X:Pan}{cr:List Nat}(ok:OkP X)(hn:cr.length<=8):∀w,Neat 800 (sumB X cr w)
 |0=>⟨.inl ⟨rfl,rfl⟩,by simp[sumB],by simp[sumB]⟩
 |w+1=>by
  have b:=powW_bd (w:=w) cr.length
  have c:curveN (X.1,X.2.1,smF X.1.toNat X.2.1.toNat cr w cr.length X.2.2)<=256:=curveN_lim (smF_ok (W:=X.1) (H:=X.2.1) (br:=X.2.2) ok)
  have n1:=pwP_neat (curveN (X.1,X.2.1,smF X.1.toNat X.2.1.toNat cr w cr.length X.2.2)-1)
  have n2:=shift_neat (K:=8) (k:=powW w cr.length) n1 (by omega)
  exact add_neat (sumB_neat ok hn w) (n2.mono (by omega))
end Am

/- Contracts: AmH64, AmH65, AmH66, AmH67, AmH68, AmH69, AmH70. -/
import Derived.Test.YtpgioncclmancaaGreatAmK14
import Derived.Test.YtpgioncclmancaaGreatAmK6
set_option linter.unusedVariables false
set_option linter.unusedSimpArgs false
set_option maxHeartbeats 4000000
set_option maxRecDepth 40000
namespace Am
open Go
theorem c25(h:Heap)(hp:0<h.length)(W H:Int)(br:List Int)(s:Value)(ok:OkP (W,H,br))(hr:Vr h shInts s br)(hn8:(crN br).length<=8):ACall Gam 25 [.agg #[I W,I H,s]] h λr h'=>PolyO h h' r (brP (W,H,br)):=by
 obtain⟨sb,so,sn,sz,rfl⟩:∃b o n z,s=sl b o n z:=by obtain⟨b,o,z,e,_⟩:=hr.ints;exact⟨b,o,_,z,e⟩
 have hlen:=ok_len ok
 have ebr:brP (W,H,br)=sumB (W,H,br) (crN br) (p2N (crN br).length):=rfl
 rw[ebr]
 have sneat:=λw=>sumB_neat ok hn8 w
 have ssucc:∀w,sumB (W,H,br) (crN br) (w+1)=addP (sumB (W,H,br) (crN br) w) (shiftP (powW w (crN br).length) (pwP (curveN (W,H,smF W.toNat H.toNat (crN br) w (crN br).length br)-1))):=λw=>rfl
 have s0:sumB (W,H,br) (crN br) 0=(0,[]):=rfl
 obtain⟨F,eF⟩:∃F,F=sumB (W,H,br) (crN br):=⟨_,rfl⟩
 have c29':=c29 h hp W H br (sl sb so sn sz) ok hr
 rw[crN_is]at c29'
 have crlt:=λi hi=>crN_lt (br:=br) (i:=i) hi
 obtain⟨cr,ecr⟩:∃cr,cr=crN br:=⟨_,rfl⟩
 obtain⟨n,en⟩:∃n,n=cr.length:=⟨_,rfl⟩
 simp only[<-eF]at sneat ssucc s0 ⊢
 simp only[<-ecr]at ssucc c29' crlt hn8 ⊢
 simp only[<-en]at ssucc crlt hn8 ⊢
 clear eF ebr
 have p2:=p2N_le hn8
 obtain⟨M,eM⟩:∃M,M=p2N n:=⟨_,rfl⟩
 have shl:=shl_nat (j:=.i64) hn8
 rw[<-eM]at shl p2 ⊢
 refine ACall_intro g25 rfl ?_
 unfold fn25
 rw[awp_seq,awp_reg]
 generalize hK:seqQ Gam _ _ 0=K
 try simp(disch:=omega)
 subst hK
 simp only[seqQ_zero]
 rw[awp_seq,awp_reg]
 generalize hK:seqQ Gam _ _ 0=K
 try simp(disch:=omega)
 refine callW_of c29' ?_
 rintro cv h1⟨g1,b1⟩
 try refine⟨λe=>(by first|exact g1|cases e),?_⟩
 obtain⟨cb,rfl⟩:=b1.sl1
 have lcr:(ints (natI cr)).length=n:=by simp[ints,natI_len,en]
 have hcr:∀h',Grows h1 h'->∀i,i<n->cell h' cb i=some (I (cr.getD i 0:Nat)):=by
  intro h' g i hi
  have:=(b1.grow g).at1 (i:=i) (by rw[lcr];exact hi)
  rw[this]
  simp only[ints,natI,List.getElem_map]
  rw[getD_at (by omega)]
 rw[lcr]
 try simp(disch:=omega)
 subst hK
 simp only[seqQ_zero]
 rw[awp_seq,awp_reg]
 generalize hK:seqQ Gam _ _ 0=K
 try simp(disch:=omega)
 rw[loop_build]
 simp only[bindW_some]
 obtain⟨h2,e2⟩:∃h2,h2=h1++[⟨ints [-1,0,0,0,-1],true⟩]:=⟨_,rfl⟩
 have g2:Grows h1 h2:=⟨_,e2⟩
 have k2:h2[h1.length]?=some ⟨ints [-1,0,0,0,-1],true⟩:=by rw[e2];simp
 rw[<-e2]
 try simp(disch:=omega)
 subst hK
 simp only[seqQ_zero]
 have PL:PolyV h2 (.agg #[I (-2),sl h1.length 0 5 1]) loopP:=⟨_,rfl,vr_own (l:=[-1,0,0,0,-1]) k2 (λx hx=>by simp at hx;unfold I64;omega) (by simp)⟩
 obtain⟨SL,eSL⟩:∃S,S=Value.agg #[I (-2),sl h1.length 0 5 1]:=⟨_,rfl⟩
 obtain⟨lb,elb⟩:∃lb,lb=h1.length:=⟨_,rfl⟩
 rw[<-eSL]at PL
 rw[<-elb]at eSL ⊢
 have g12:=g1.trans g2
 rw[awp_seq,awp_reg]
 generalize hK:seqQ Gam _ _ 0=K
 try simp(disch:=omega)
 subst hK
 simp only[seqQ_zero]
 obtain⟨SP,eSP⟩:∃S,S=Value.agg #[I W,I H,sl sb so sn sz]:=⟨_,rfl⟩
 have P0:PolyV h2 (.agg #[I 0,sl 0 0 0 0]) (F 0):=by rw[s0];exact⟨_,rfl,Vr.of_ints (.inr ⟨rfl,rfl⟩) (by simp) (by simp) (.inl rfl)⟩
 rw[awp_seq]
 generalize hP:seqQ Gam _ _=PP
 simp(disch:=omega)[shl]
 refine awp_loop (λw σ h'=>w<=M∧Grows h2 h'∧PolyV h' (σ 5) (F w)∧σ 1=SP∧σ 2=.agg #[I 0,sl 0 0 0 0]∧σ 3=sl cb 0 n 1∧σ 4=SL∧σ 20=I M∧σ 21=I w) (λw=>M-w) 0 ?_ ?_
 ·exact⟨by omega,Grows.refl _,by first|exact P0|simpa using P0,by first|rfl|simp[eSP],by first|rfl|simp,by first|rfl|simp,by first|rfl|simp[eSL],by first|rfl|simp,by first|rfl|simp⟩
 rintro w σ h'⟨hw,hg,p5,q1,q2,q3,q4,q20,q21⟩
 simp(disch:=omega)[q20,q21]
 refine fork_dec (λhlt=>?_) (λhge=>?_)
 ·have w1:w<M:=by omega
  have hp':=pos_of hp (g12.trans hg)
  have G1:=g12.trans hg
  rw[runT_inl,awp_skip,seqQ_zero,awp_seq]
  generalize hB':seqQ Gam _ _=BB
  rw[awp_block]
  generalize hB1:blockQ _ BB=B1
  rw[awp_seq,awp_reg]
  generalize hK:seqQ Gam _ _ 0=K
  simp(disch:=omega)[q21]
  subst hK
  simp only[seqQ_zero]
  rw[awp_seq,awp_reg]
  generalize hK:seqQ Gam _ _ 0=K
  simp(disch:=omega)[q1,eSP]
  subst hK
  simp only[seqQ_zero]
  have V0:Vr h' shPanel SP (W,H,smF W.toNat H.toNat cr w 0 br):=by
   rw[eSP]
   exact Vr.of_panel (by have:=ok.w;simp only at this;unfold I64;omega) (by have:=ok.h;simp only at this;unfold I64;omega) (hr.grow G1)
  rw[awp_seq]
  generalize hP2:seqQ Gam _ _=P2
  simp(disch:=omega)[q3]
  refine awp_loop (λi τ hh=>i<=n∧Grows h' hh∧Vr hh shPanel (τ 7) (W,H,smF W.toNat H.toNat cr w i br)∧τ 1=SP∧τ 2=.agg #[I 0,sl 0 0 0 0]∧τ 3=sl cb 0 n 1∧τ 4=SL∧τ 5=σ 5∧τ 6=I w∧τ 8=I (powW w i)∧τ 20=I M∧τ 21=I w∧τ 25=sl cb 0 n 1∧τ 26=I n∧τ 27=I i) (λi=>n-i) 0 ?_ ?_
  ·refine⟨by omega,Grows.refl _,?_,by simpa [eSP]using q1,by simpa using q2,by simpa using q3,by simpa using q4,by simp,by simp,by simp[powW],by simpa using q20,by simpa using q21,by simp,by simp,by simp⟩
   rw[eSP]at V0
   simpa using V0
  rintro i τ hh⟨hi,gi,v7,t1,t2,t3,t4,t5,t6,t8,t20,t21,t25,t26,t27⟩
  simp(disch:=omega)[t26,t27]
  refine fork_dec (λhlt=>?_) (λhge=>?_)
  ·have i1:i<n:=by omega
   have ci:=hcr hh (g2.trans (hg.trans gi)) i i1
   have clt:=crlt i i1
   have oki:=smF_ok (cr:=cr) (w:=w) (i:=i) ok
   have sl1:=smF_len (W:=W.toNat) (H:=H.toNat) (cr:=cr) (w:=w) i br
   have es:(smF W.toNat H.toNat cr w i br).set (cr.getD i 0) (kindS W.toNat H.toNat (cr.getD i 0) (bitW w i))=smF W.toNat H.toNat cr w (i+1) br:=rfl
   have c53':=c53 hh (pos_of hp' gi) (τ 7) (W,H,smF W.toNat H.toNat cr w i br) (cr.getD i 0) (bitW w i) v7 oki (by simp only;rw[sl1];exact clt)
   simp only[es]at c53'
   obtain⟨x,ex⟩:∃x,x=cr.getD i 0:=⟨_,rfl⟩
   rw[<-ex]at ci c53'
   obtain⟨s7,e7,_,_,i7⟩:=v7.panel
   obtain⟨b7,o7,n7,z7,rfl⟩:∃b o n z,s7=sl b o n z:=by obtain⟨b,o,z,e,_⟩:=i7.ints;exact⟨b,o,_,z,e⟩
   rw[e7]at c53'
   have sh:=shr_nat (w:=w) (i:=i) (j:=.i64) (by omega)
   have an:=and_nat (w:=w) (i:=i) (by omega)
   have pb:=powW_bd (w:=w) i
   have pb2:=powW_bd (w:=w) (i+1)
   have wp1:IntKind.i64.wrap (powW w i+1)=powW w i+1:=wrap64 (by omega) (by omega)
   have wp2:IntKind.i64.wrap (powW w i-1)=powW w i-1:=wrap64 (by omega) (by omega)
   have ep:powW w (i+1)=if bitW w i then powW w i+1 else powW w i-1:=rfl
   obtain⟨pw,epw⟩:∃pw,pw=powW w i:=⟨_,rfl⟩
   rw[<-epw]at wp1 wp2 ep t8
   have eb:bitW w i=decide (((bN w i:Nat):Int)=1):=by unfold bitW;exact decide_eq_decide.2 ⟨λh=>by omega,λh=>by omega⟩
   rw[runT_inl,awp_skip,seqQ_zero,awp_seq]
   generalize hC':seqQ Gam _ _=CC
   rw[awp_block]
   generalize hC1:blockQ _ CC=C1
   rw[awp_seq,awp_reg]
   generalize hK:seqQ Gam _ _ 0=K
   simp(disch:=omega)[t25,t27,i1,ci]
   subst hK
   simp only[seqQ_zero]
   rw[awp_seq,awp_reg]
   generalize hK:seqQ Gam _ _ 0=K
   simp(disch:=omega)[t6,sh,an]
   rw[<-eb]
   obtain⟨al,eal⟩:∃al,al=bitW w i:=⟨_,rfl⟩
   rw[<-eal]at ep c53' ⊢
   subst hK
   simp only[seqQ_zero]
   rw[awp_seq,awp_reg]
   generalize hK:seqQ Gam _ _ 0=K
   simp(disch:=omega)[e7]
   refine callW_of c53' ?_
   rintro r h3⟨g3,v3⟩
   try refine⟨λe=>(by first|exact g3|cases e),?_⟩
   have v3':=v3
   obtain⟨s8,rfl,_,_,i8⟩:=v3.panel
   obtain⟨b8,o8,n8,z8,rfl⟩:∃b o n z,s8=sl b o n z:=by obtain⟨b,o,z,e,_⟩:=i8.ints;exact⟨b,o,_,z,e⟩
   simp(disch:=omega)[e7]
   subst hK
   simp only[seqQ_zero]
   have gg:=gi.trans g3
   rw[awp_seq]
   generalize hK:seqQ Gam _ _=K
   try simp(disch:=omega)
   subst hK
   simp only[seqQ_zero]
   cases al
   ·simp only[Bool.false_eq_true,if_false]at ep
    simp(disch:=omega)[t8,wp2]
    subst hC1
    rw[blockQ_eq,if_neg (by omega)]
    subst hC'
    simp only[seqQ_zero]
    simp(disch:=omega)[t27,wrap64]
    refine⟨i+1,?_,by omega⟩
    rw[ep]
    and_intros<;>first|assumption|omega|rfl
   ·simp only[if_true]at ep
    simp(disch:=omega)[t8,wp1]
    subst hC1
    rw[blockQ_eq,if_neg (by omega)]
    subst hC'
    simp only[seqQ_zero]
    simp(disch:=omega)[t27,wrap64]
    refine⟨i+1,?_,by omega⟩
    rw[ep]
    and_intros<;>first|assumption|omega|rfl
  ·have:i=n:=by omega
   rw[this]at v7 t8
   clear this hge hi t27
   try simp(disch:=omega)
   subst hP2
   simp only[seqQ_zero]
   have okn:=smF_ok (cr:=cr) (w:=w) (i:=n) ok
   have ssw:=ssucc w
   have pb:=powW_bd (w:=w) n
   obtain⟨s7,e7,_,_,i7⟩:=v7.panel
   obtain⟨b7,o7,n7,z7,rfl⟩:∃b o n z,s7=sl b o n z:=by obtain⟨b,o,z,e,_⟩:=i7.ints;exact⟨b,o,_,z,e⟩
   obtain⟨pw,epw⟩:∃pw,pw=powW w n:=⟨_,rfl⟩
   rw[<-epw]at t8 ssw pb
   have c154':=λh3 hp3 v=>c154 h3 hp3 (τ 7) _ v okn
   have clim:=curveN_lim okn
   rw[e7]at c154'
   obtain⟨N,eN⟩:∃N,N=curveN (W,H,smF W.toNat H.toNat cr w n br):=⟨_,rfl⟩
   rw[<-eN]at ssw clim
   simp only[<-eN]at c154'
   rw[<-pwS_is]at ssw
   have psn:=λk=>pwS_neat (p:=pw) (by omega) k
   have pss:∀k,mulP (pwS pw k) loopP=pwS pw (k+1):=λk=>rfl
   have ps0:pwS pw 0=(pw,[1]):=rfl
   obtain⟨D,eD⟩:∃D,D=pwS pw:=⟨_,rfl⟩
   simp only[<-eD]at psn pss ps0 ssw
   clear eD epw
   rw[awp_seq,awp_reg]
   generalize hK:seqQ Gam _ _ 0=K
   simp(disch:=omega)[t8]
   rw[unit_build]
   simp only[bindW_some]
   obtain⟨h3,e3⟩:∃h3,h3=hh++[⟨ints [1],true⟩]:=⟨_,rfl⟩
   have g3:Grows hh h3:=⟨_,e3⟩
   have k3:h3[hh.length]?=some ⟨ints [1],true⟩:=by rw[e3];simp
   have P1:PolyV h3 (.agg #[I pw,sl hh.length 0 1 1]) (D 0):=by rw[ps0];exact⟨_,rfl,vr_own (l:=[1]) k3 (λx hx=>by simp at hx;unfold I64;omega) (by simp)⟩
   rw[<-e3]
   try simp(disch:=omega)
   subst hK
   simp only[seqQ_zero]
   have hp3:=pos_of hp' (gi.trans g3)
   rw[awp_seq]
   generalize hP2:seqQ Gam _ _=P2
   simp(disch:=omega)[e7]
   refine callW_of (c154' h3 hp3 (e7▸v7.grow g3)) ?_
   rintro _ h4⟨g4,rfl⟩
   try refine⟨λe=>(by first|exact g4|cases e),?_⟩
   have wN:IntKind.i64.wrap ((N:Int)-1)=(N:Int)-1:=wrap64 (by omega) (by omega)
   have g34:=g3.trans g4
   simp(disch:=omega)[wN]
   refine awp_loop (λk υ h5=>k<=N-1∧Grows hh h5∧PolyV h5 (υ 12) (D k)∧υ 1=SP∧υ 2=.agg #[I 0,sl 0 0 0 0]∧υ 3=sl cb 0 n 1∧υ 4=SL∧υ 5=σ 5∧υ 20=I M∧υ 21=I w∧υ 52=I ((N:Int)-1)∧υ 53=I k) (λk=>N-1-k) 0 ?_ ?_
   ·exact⟨by omega,g34,by simpa using P1.grow g4,by simpa using t1,by simpa using t2,by simpa using t3,by simpa using t4,by simpa using t5,by simpa using t20,by simpa using t21,by simp,by simp⟩
   rintro k υ h5⟨hk,gk,p12,u1,u2,u3,u4,u5,u20,u21,u52,u53⟩
   have p12':=p12
   obtain⟨s12,e12,v12⟩:=p12'
   obtain⟨wb,wo,wn,wz,rfl⟩:∃b o n z,s12=sl b o n z:=by obtain⟨b,o,z,e,_⟩:=v12.ints;exact⟨b,o,_,z,e⟩
   rw[e12]at p12
   have nk:=psn k
   have hp5:=pos_of (pos_of hp' gi) gk
   simp(disch:=omega)[u52,u53]
   refine fork_dec (λhlt=>?_) (λhge=>?_)
   ·have k1:k<N-1:=by omega
    have PLg:=PL.grow (hg.trans (gi.trans gk))
    rw[eSL]at PLg
    simp(disch:=omega)[e12,u4,eSL]
    refine callW_of (c175 h5 hp5 _ _ (D k) loopP p12 PLg (nk.small (by omega)) (loop_neat.small (by omega))) ?_
    rintro r h6⟨g6,w6,rfl,r6⟩
    try refine⟨λe=>(by first|exact g6|cases e),?_⟩
    rw[pss]at r6 ⊢
    obtain⟨vb,vo,vz,rfl,_⟩:=r6.ints
    have gg:=gk.trans g6
    have P3:PolyV h6 (.agg #[I (D (k+1)).1,sl vb vo (D (k+1)).2.length vz]) (D (k+1)):=⟨_,rfl,r6⟩
    simp(disch:=omega)[e12,u53,wrap64]
    refine⟨k+1,?_,by omega⟩
    and_intros<;>first|assumption|omega|(rw[<-eSL];assumption)|rfl
   ·have:k=N-1:=by omega
    subst this
    try simp(disch:=omega)
    subst hP2
    simp only[seqQ_zero]
    have p5':=p5.grow (gi.trans gk)
    have p5'':=p5'
    obtain⟨s5,e5,v5⟩:=p5''
    obtain⟨cb5,co5,cn5,cz5,rfl⟩:∃b o n z,s5=sl b o n z:=by obtain⟨b,o,z,e,_⟩:=v5.ints;exact⟨b,o,_,z,e⟩
    rw[e5]at p5' u5
    rw[awp_reg]
    simp(disch:=omega)[u5,e12]
    refine callW_of (c145 h5 hp5 _ _ (F w) (D (N-1)) p5' p12 ((sneat w).small (by omega)) (nk.small (by omega))) ?_
    rintro r h6⟨g6,w6,rfl,r6⟩
    try refine⟨λe=>(by first|exact g6|cases e),?_⟩
    rw[<-ssw]at r6 ⊢
    obtain⟨vb,vo,vz,rfl,_⟩:=r6.ints
    have gg:=hg.trans (gi.trans (gk.trans g6))
    have P3:PolyV h6 (.agg #[I (F (w+1)).1,sl vb vo (F (w+1)).2.length vz]) (F (w+1)):=⟨_,rfl,r6⟩
    simp(disch:=omega)[u5]
    subst hB1
    rw[blockQ_eq,if_neg (by omega)]
    subst hB'
    simp only[seqQ_zero]
    simp(disch:=omega)[u21,wrap64]
    refine⟨w+1,?_,by omega⟩
    and_intros<;>first|assumption|omega|(rw[<-eSL];assumption)|(rw[<-eSP];assumption)|rfl
 ·have:w=M:=by omega
  subst this
  obtain⟨s5,e5,v5⟩:=p5
  obtain⟨cb5,co5,cn5,cz5,rfl⟩:∃b o n z,s5=sl b o n z:=by obtain⟨b,o,z,e,_⟩:=v5.ints;exact⟨b,o,_,z,e⟩
  try simp(disch:=omega)
  subst hP
  simp(disch:=omega)[q2,e5]
  exact⟨g12.trans hg,_,rfl,v5⟩
def coefsOk(cs:List Int):Bool:=decide (∀i,i<cs.length->inR (cs.getD i 0) (-1000000000000) 1000000000000=true)
def polyOk(p:Poly):Bool:=if p.2=[]then decide (p.1=0)else if coefsOk p.2 then(decide (p.2.length<=400)&&(inR p.1 (-1000) 1000&&(decide (p.2.getD 0 0≠0)&&decide (p.2.getD (p.2.length-1) 0≠0))))else false
def AllIn(cs:List Int)(k:Nat):Prop:=∀i,i<k->inR (cs.getD i 0) (-1000000000000) 1000000000000=true
theorem AllIn.succ{cs:List Int}{k:Nat}(x:AllIn cs k)(h:inR (cs.getD k 0) (-1000000000000) 1000000000000=true):AllIn cs (k+1):=by
 intro i hi
 by_cases e:i=k
 ·rw[e];exact h
 ·exact x i (by omega)
theorem c141(h:Heap)(v:Value)(p:Poly)(pv:PolyV h v p)(hl:p.2.length<=100000):ACall Gam 141 [v] h λr h'=>r=B (polyOk p)∧h'=h:=by
 obtain⟨A,eA⟩:∃A,A=polyOk p:=⟨_,rfl⟩
 have eA0:=eA
 unfold polyOk at eA0
 rw[<-eA]
 obtain⟨lo,cs⟩:=p
 obtain⟨s,rfl,vs⟩:=pv
 simp only at vs hl eA0
 obtain⟨b,o,z,rfl,hz,_,hx,hc⟩:=vs.ints
 have hcell:=λk hk=>ints_getD hc (k:=k) hk
 obtain⟨n,en⟩:∃n,n=cs.length:=⟨_,rfl⟩
 simp only[<-en]at hcell hl eA0 ⊢
 refine ACall_intro g141 rfl ?_
 unfold fn141
 rw[awp_seq,awp_reg]
 generalize hK:seqQ Gam _ _ 0=K
 simp(disch:=omega)
 subst hK
 simp only[seqQ_zero]
 rw[awp_seq,awp_reg]
 generalize hK:seqQ Gam _ _ 0=K
 simp(disch:=omega)
 subst hK
 simp only[seqQ_zero]
 rw[awp_seq]
 generalize hK:seqQ Gam _ _=K
 by_cases n0:n=0
 ·have:cs=[]:=List.length_eq_zero_iff.1 (by omega)
  rw[if_pos this]at eA0
  simp(disch:=omega)[n0]
  subst hK
  simp(disch:=omega)[eA0]
 have n0I:¬(n:Int)=0:=by omega
 have ne:cs≠[]:=by intro e;rw[e]at en;simp at en;omega
 rw[if_neg ne]at eA0
 simp(disch:=omega)[n0,n0I]
 subst hK
 simp only[seqQ_zero]
 obtain⟨S1,eS1⟩:∃S,S=Value.agg #[I lo,sl b o n z]:=⟨_,rfl⟩
 rw[awp_seq]
 generalize hP:seqQ Gam _ _=PP
 simp(disch:=omega)
 refine awp_loop (λk σ h'=>k<=n∧h'=h∧AllIn cs k∧σ 1=S1∧σ 3=I n∧σ 15=sl b o n z∧σ 16=I n∧σ 17=I k) (λk=>n-k) 0 ?_ ?_
 ·exact⟨by omega,rfl,by intro i hi;omega,by simp[eS1],by simp,by simp,by simp,by simp⟩
 rintro k σ h'⟨hk,rfl,ha,q1,q3,q15,q16,q17⟩
 simp(disch:=omega)[q16,q17]
 refine fork_dec (λhlt=>?_) (λhge=>?_)
 ·have k1:k<n:=by omega
  have ck:=hcell k k1
  obtain⟨x,ex⟩:∃x,x=cs.getD k 0:=⟨_,rfl⟩
  rw[<-ex]at ck
  simp(disch:=omega)[q15,q17,k1,ck]
  refine callW_of (c164 x _ _ h') ?_
  rintro _ _⟨rfl,rfl⟩
  try refine⟨λe=>(by cases e),?_⟩
  cases er:inR x (-1000000000000) 1000000000000
  ·have:coefsOk cs=false:=by
    unfold coefsOk
    rw[decide_eq_false]
    intro hall
    have:=hall k (by omega)
    rw[<-ex,er]at this
    cases this
   rw[this]at eA0
   simp only[Bool.false_eq_true,if_false]at eA0
   simp(disch:=omega)
   subst hP
   simp(disch:=omega)[eA0]
  ·have ha':=ha.succ (by rw[<-ex];exact er)
   simp(disch:=omega)[q17,wrap64]
   refine⟨k+1,?_,by omega⟩
   and_intros<;>first|assumption|omega|rfl
 ·have:k=n:=by omega
  subst this
  have:coefsOk cs=true:=by
   unfold coefsOk
   exact decide_eq_true λi hi=>ha i (by omega)
  rw[this]at eA0
  simp only[if_true]at eA0
  simp(disch:=omega)
  subst hP
  simp only[seqQ_zero]
  have c0:=hcell 0 (by omega)
  have c1:=hcell (k-1) (by omega)
  rw[Nat.add_zero]at c0
  obtain⟨x,ex⟩:∃x,x=cs.getD 0 0:=⟨_,rfl⟩
  obtain⟨y,ey⟩:∃y,y=cs.getD (k-1) 0:=⟨_,rfl⟩
  rw[<-ex]at c0 eA0
  rw[<-ey]at c1 eA0
  have kp:0<k:=by omega
  have kpI:(0:Int)<k:=by omega
  obtain⟨j,ej⟩:∃j,j=k-1:=⟨_,rfl⟩
  rw[<-ej]at c1
  have wk:IntKind.i64.wrap ((k:Int)-1)=j:=by rw[wrap64 (by omega) (by omega)];omega
  have jk:j<k:=by omega
  have c164':=c164 lo (-1000) 1000 h'
  obtain⟨w1,hw1⟩:∃w,w=decide ((k:Int)<=400):=⟨_,rfl⟩
  have hw1':w1=decide (k<=400):=by rw[hw1];exact decide_eq_decide.2 ⟨λh=>by omega,λh=>by omega⟩
  obtain⟨w2,hw2⟩:∃w,w=inR lo (-1000) 1000:=⟨_,rfl⟩
  obtain⟨w3,hw3⟩:∃w,w=decide (x≠0):=⟨_,rfl⟩
  obtain⟨w4,hw4⟩:∃w,w=decide (y≠0):=⟨_,rfl⟩
  rw[<-hw1',<-hw2,<-hw3,<-hw4]at eA0
  rw[<-hw2]at c164'
  have hw3':(!decide (x=0))=w3:=by rw[hw3];simp
  have hw4':(!decide (y=0))=w4:=by rw[hw4];simp
  rw[awp_seq,awp_reg]
  generalize hK:seqQ Gam _ _ 0=K
  cases w1
  ·simp(disch:=omega)[q1,q3,eS1,<-hw1,<-hw1']
   subst hK
   simp(disch:=omega)[eA0]
  simp(disch:=omega)[q1,q3,eS1,<-hw1,<-hw1']
  refine callW_of c164' ?_
  rintro _ _⟨rfl,rfl⟩
  try refine⟨λe=>(by cases e),?_⟩
  cases w2
  ·simp(disch:=omega)
   subst hK
   simp(disch:=omega)[eA0]
  cases w3
  ·have x0:x=0:=by simpa using hw3
   rw[x0]at c0
   simp(disch:=omega)[q1,eS1,kp,kpI,c0]
   subst hK
   simp(disch:=omega)[eA0]
  have x0:¬x=0:=by simpa using hw3
  cases w4
  ·have y0:y=0:=by simpa using hw4
   rw[y0]at c1
   simp(disch:=omega)[q1,q3,eS1,kp,kpI,c0,x0,wk,jk,c1]
   subst hK
   simp(disch:=omega)[eA0]
  have y0:¬y=0:=by simpa using hw4
  simp(disch:=omega)[q1,q3,eS1,kp,kpI,c0,x0,wk,jk,c1,y0]
  subst hK
  simp(disch:=omega)[eA0]
def brCode(X:Pan):Int:=if okP X then(if 8<(crN X.2.2).length∨20<X.1*X.2.1 then 5 else 0)else 1
noncomputable def brA(X:Pan):Poly×Int:=if brCode X=0 then(brP X,0)else((0,[]),brCode X)
def PolyR(h h':Heap)(r:Value)(A:Poly×Int):Prop:=Grows h h'∧∃v,r=.tuple #[v,I A.2]∧PolyV h' v A.1∧∃s,v=.agg #[I A.1.1,s]∧∃b o n z,s=sl b o n z
theorem brCode_ok{X:Pan}(h:brCode X=0):OkP X∧(crN X.2.2).length<=8:=by
 unfold brCode at h
 cases e:okP X
 ·rw[e]at h;simp at h
 ·rw[e]at h
  simp only[if_true]at h
  split at h
  ·omega
  ·rename_i q
   exact⟨okP_iff.1 e,by omega⟩
theorem c146(h:Heap)(hp:0<h.length)(v:Value)(X:Pan)(hv:Vr h shPanel v X):ACall Gam 146 [v] h λr h'=>r=I (brCode X)∧Grows h h':=by
 have hv0:=hv
 obtain⟨A,eA⟩:∃A,A=brCode X:=⟨_,rfl⟩
 have eA0:=eA
 unfold brCode at eA0
 rw[<-eA]
 obtain⟨W,H,br⟩:=X
 obtain⟨s,rfl,w1,w2,r⟩:=hv.panel
 refine ACall_intro g146 rfl ?_
 unfold fn146
 rw[awp_seq,awp_reg]
 generalize hK:seqQ Gam _ _ 0=K
 simp(disch:=omega)
 subst hK
 simp only[seqQ_zero]
 rw[awp_seq]
 generalize hK:seqQ Gam _ _=K
 simp(disch:=omega)
 refine callW_of (c140 _ _ h hv0) ?_
 rintro _ h1⟨rfl,rfl⟩
 try refine⟨λe=>(by cases e),?_⟩
 cases e1:okP (W,H,br)
 ·simp only[e1,Bool.false_eq_true,if_false]at eA0
  subst eA0
  simp(disch:=omega)
  subst hK
  simp(disch:=omega)
  exact Grows.refl _
 have ok:=okP_iff.1 e1
 have w8:=ok.w
 have h8:=ok.h
 simp only at w8 h8
 have hlen:=ok_len ok
 simp only[e1,if_true]at eA0
 simp(disch:=omega)
 subst hK
 simp only[seqQ_zero]
 have c29':=c29 h1 hp W H br s ok r
 rw[crN_is]at c29'
 obtain⟨n,en⟩:∃n,n=(crN br).length:=⟨_,rfl⟩
 rw[<-en]at eA0
 rw[awp_seq]
 generalize hK:seqQ Gam _ _=K
 simp(disch:=omega)
 refine callW_of c29' ?_
 rintro cv h2⟨g2,b2⟩
 try refine⟨λe=>(by first|exact g2|cases e),?_⟩
 obtain⟨cb,rfl⟩:=b2.sl1
 have lcr:(ints (natI (crN br))).length=n:=by simp[ints,natI_len,en]
 rw[lcr]
 have hWH:0<=W*H∧W*H<=64:=⟨Int.mul_nonneg (by omega) (by omega),by
  have:=Int.mul_le_mul w8.2 h8.2 (by omega) (by omega)
  omega⟩
 obtain⟨m,em⟩:∃m,m=W*H:=⟨_,rfl⟩
 have wm:IntKind.i64.wrap (W*H)=m:=by rw[<-em];exact wrap64 (by omega) (by omega)
 rw[<-em]at eA0 hWH
 by_cases q1:8<n
 ·have q1I:(8:Int)<n:=by omega
  rw[if_pos (.inl q1)]at eA0
  subst eA0
  simp(disch:=omega)[q1,q1I]
  subst hK
  simp(disch:=omega)
  exact g2
 ·have q1I:¬(8:Int)<n:=by omega
  by_cases q2:20<m
  ·rw[if_pos (.inr q2)]at eA0
   subst eA0
   simp(disch:=omega)[q1,q1I,wm,q2]
   subst hK
   simp(disch:=omega)
   exact g2
  ·rw[if_neg (by omega)]at eA0
   subst eA0
   simp(disch:=omega)[q1,q1I,wm,q2]
   subst hK
   simp(disch:=omega)
   exact g2
theorem c63(h:Heap)(hp:0<h.length)(v:Value)(X:Pan)(hv:Vr h shPanel v X):ACall Gam 63 [v] h λr h'=>PolyR h h' r (brA X):=by
 have hv0:=hv
 have c146':=c146 h hp v X hv
 have bok:=brCode_ok (X:=X)
 obtain⟨A,eA⟩:∃A,A=brA X:=⟨_,rfl⟩
 have eA0:=eA
 unfold brA at eA0
 rw[<-eA]
 obtain⟨cd,ecd⟩:∃cd,cd=brCode X:=⟨_,rfl⟩
 rw[<-ecd]at bok c146' eA0
 obtain⟨W,H,br⟩:=X
 obtain⟨s,rfl,w1,w2,r⟩:=hv.panel
 refine ACall_intro g63 rfl ?_
 unfold fn63
 rw[awp_seq,awp_reg]
 generalize hK:seqQ Gam _ _ 0=K
 simp(disch:=omega)
 subst hK
 simp only[seqQ_zero]
 rw[awp_seq]
 generalize hK:seqQ Gam _ _=K
 simp(disch:=omega)
 refine callW_of c146' ?_
 rintro _ h1⟨rfl,g1⟩
 try refine⟨λe=>(by first|exact g1|cases e),?_⟩
 by_cases q:cd=0
 ·obtain⟨ok,hn8⟩:=bok q
  rw[if_pos q]at eA0
  simp(disch:=omega)[q]
  subst hK
  simp only[seqQ_zero]
  rw[awp_seq,awp_reg]
  generalize hK:seqQ Gam _ _ 0=K
  simp(disch:=omega)
  refine callW_of (c25 h1 (pos_of hp g1) W H br s ok (r.grow g1) hn8) ?_
  rintro _ h2⟨g2,s2,rfl,v2⟩
  try refine⟨λe=>(by first|exact g2|cases e),?_⟩
  obtain⟨sb,so,sz,rfl,_⟩:=v2.ints
  simp(disch:=omega)
  subst hK
  simp(disch:=omega)
  rw[eA0]
  exact⟨g1.trans g2,_,rfl,⟨_,rfl,v2⟩,_,rfl,_,_,_,_,rfl⟩
 ·rw[if_neg q]at eA0
  simp(disch:=omega)[q]
  subst hK
  simp(disch:=omega)
  rw[eA0]
  exact⟨g1,_,rfl,⟨_,rfl,Vr.of_ints (X:=[]) (.inr ⟨rfl,rfl⟩) (by simp) (by simp) (.inl rfl)⟩,_,rfl,_,_,_,_,rfl⟩
def absC(c:Int):Int:=if c<0 then -c else c
def termA(c pw:Int):List UInt8:=if c≠1∨pw=0 then decS c else[]
def termB(pw:Int):List UInt8:=if pw=0 then[]else[65]
def termC(pw:Int):List UInt8:=if pw≠0∧pw≠1 then 94::decS pw else[]
def termT(c pw:Int):List UInt8:=termA c pw++termB pw++termC pw
theorem termA_len{c pw:Int}(hc:I64 c):(termA c pw).length<=20:=by
 unfold termA
 split
 ·exact(decS_len hc).2
 ·simp
theorem termB_len{pw:Int}:(termB pw).length<=1:=by unfold termB;split<;>simp
theorem termC_len{pw:Int}(hp:I64 pw):(termC pw).length<=21:=by
 unfold termC
 split
 ·have:=(decS_len hp).2;simp;omega
 ·simp
theorem termT_len{c pw:Int}(hc:I64 c)(hp:I64 pw):(termT c pw).length<=42:=by
 unfold termT
 have:=termA_len (pw:=pw) hc
 have:=termB_len (pw:=pw)
 have:=termC_len hp
 simp only[List.length_append]
 omega
theorem c192(h:Heap)(hp:0<h.length)(c0' pw:Int)(hc0:-1000000000000<=c0'∧c0'<=1000000000000)(hw:I64 pw):ACall Gam 192 [I c0',I pw] h λr h'=>Grows h h'∧r=S (termT (absC c0') pw):=by
 obtain⟨c,ec⟩:∃c,c=absC c0':=⟨_,rfl⟩
 rw[<-ec]
 have hc:I64 c:=by rw[ec];unfold absC I64;split<;>omega
 have wn:IntKind.i64.wrap (0-c0')=0-c0':=wrap64 (by omega) (by omega)
 have wn':IntKind.i64.wrap (-c0')=-c0':=wrap64 (by omega) (by omega)
 have emx:(if c0'< -c0' then -c0' else c0')=c:=by rw[ec];unfold absC;split<;>split<;>omega
 have lA:=termA_len (pw:=pw) hc
 have lB:=termB_len (pw:=pw)
 have lC:=termC_len hw
 have eT:termT c pw=termA c pw++termB pw++termC pw:=rfl
 have eA:termA c pw=if c≠1∨pw=0 then decS c else[]:=rfl
 have eB:termB pw=if pw=0 then[]else[65]:=rfl
 have eC:termC pw=if pw≠0∧pw≠1 then 94::decS pw else[]:=rfl
 obtain⟨T,hT⟩:∃T,T=termT c pw:=⟨_,rfl⟩
 obtain⟨A,hA⟩:∃A,A=termA c pw:=⟨_,rfl⟩
 obtain⟨B',hB⟩:∃B',B'=termB pw:=⟨_,rfl⟩
 obtain⟨C,hC⟩:∃C,C=termC pw:=⟨_,rfl⟩
 rw[<-hA]at lA eA eT
 rw[<-hB]at lB eB eT
 rw[<-hC]at lC eC eT
 rw[<-hT]at eT ⊢
 clear hT hA hB hC
 have dw:=decS_len hw
 obtain⟨dc,edc⟩:∃d,d=decS c:=⟨_,rfl⟩
 obtain⟨dp,edp⟩:∃d,d=decS pw:=⟨_,rfl⟩
 have c1:=λh hp=>c75 c hc h hp
 have c2:=λh hp=>c75 pw hw h hp
 simp only[<-edc]at c1 eA
 simp only[<-edp]at c2 eC dw
 refine ACall_intro g192 rfl ?_
 unfold fn192
 rw[awp_seq,awp_reg]
 generalize hK:seqQ Gam _ _ 0=K
 simp(disch:=omega)
 subst hK
 simp only[seqQ_zero]
 rw[awp_seq,awp_reg]
 generalize hK:seqQ Gam _ _ 0=K
 simp(disch:=omega)[wn,wn',aMax]
 try rw[emx]
 subst hK
 simp only[seqQ_zero]
 rw[awp_seq,awp_reg]
 generalize hK:seqQ Gam _ _ 0=K
 simp(disch:=omega)
 subst hK
 simp only[seqQ_zero]
 rw[awp_seq]
 generalize hP:seqQ Gam _ _=PP
 have post:∀(σ:Nat->Value) (h':Heap),Grows h h'->σ 1=I pw->σ 4=S []->σ 5=S A->PP 0 σ h':=by
  intro σ h' hg q1 q4 q5
  subst hP
  simp only[seqQ_zero]
  rw[awp_seq]
  generalize hP:seqQ Gam _ _=PP
  have post2:∀(σ:Nat->Value),σ 1=I pw->σ 4=S []->σ 5=S (A++B')->PP 0 σ h':=by
   intro σ q1 q4 q5
   subst hP
   simp only[seqQ_zero]
   rw[awp_seq]
   generalize hP:seqQ Gam _ _=PP
   have post3:∀(σ:Nat->Value) (h2:Heap),Grows h h2->σ 4=S []->σ 5=S (A++B'++C)->PP 0 σ h2:=by
    intro σ h2 hg q4 q5
    subst hP
    simp only[seqQ_zero]
    simp(disch:=omega)[q4,q5]
    rw[eT,List.append_assoc]
    exact⟨hg,rfl⟩
   clear hP
   by_cases p0:pw=0
   ·have:C=[]:=by rw[eC,if_neg (by simp[p0])]
    simp(disch:=omega)[q1,p0]
    exact post3 _ h' hg (by simpa using q4) (by rw[this];simpa using q5)
   ·by_cases p1:pw=1
    ·have:C=[]:=by rw[eC,if_neg (by simp[p1])]
     simp(disch:=omega)[q1,p1]
     exact post3 _ h' hg (by simpa using q4) (by rw[this];simpa using q5)
    ·have eC':C=94::dp:=by rw[eC,if_pos ⟨p0,p1⟩]
     simp(disch:=omega)[q1,q5,p0,p1]
     refine callW_of (c2 h' (pos_of hp hg)) ?_
     rintro _ h2⟨rfl,g2⟩
     try refine⟨λe=>(by first|exact g2|cases e),?_⟩
     have e1:1+dp.length<=4611686018427387904:=by omega
     have e1':dp.length+1<=4611686018427387904:=by omega
     have e2:A.length+(B'.length+(dp.length+1))<=4611686018427387904:=by omega
     have e3:A.length+B'.length+(dp.length+1)<=4611686018427387904:=by omega
     simp(disch:=omega)[q5,e1,e1',e2,e3]
     exact post3 _ h2 (hg.trans g2) (by simpa using q4) (by rw[eC'];simp)
  clear hP
  by_cases p0:pw=0
  ·have:B'=[]:=by rw[eB,if_pos p0]
   simp(disch:=omega)[q1,p0]
   exact post2 _ (by simpa using q1) (by simpa using q4) (by rw[this];simpa using q5)
  ·have eB':B'=[65]:=by rw[eB,if_neg p0]
   have e2:A.length+1<=4611686018427387904:=by omega
   simp(disch:=omega)[q1,q5,p0,e2]
   exact post2 _ (by simpa using q1) (by simpa using q4) (by rw[eB'];simp)
 clear hP
 by_cases p0:pw=0
 ·have:A=dc:=by rw[eA,if_pos (.inr p0)]
  by_cases c0:c=1
  ·simp(disch:=omega)[p0,c0]
   rw[c0]at c1
   refine callW_of (c1 h hp) ?_
   rintro _ h2⟨rfl,g2⟩
   try refine⟨λe=>(by first|exact g2|cases e),?_⟩
   try simp(disch:=omega)
   exact post _ h2 g2 (by simp[p0]) (by simp) (by simp[this])
  ·simp(disch:=omega)[p0,c0]
   refine callW_of (c1 h hp) ?_
   rintro _ h2⟨rfl,g2⟩
   try refine⟨λe=>(by first|exact g2|cases e),?_⟩
   try simp(disch:=omega)
   exact post _ h2 g2 (by simp[p0]) (by simp) (by simp[this])
 ·by_cases c0:c=1
  ·have:A=[]:=by rw[eA,if_neg (by simp[c0,p0])]
   simp(disch:=omega)[p0,c0]
   exact post _ h (Grows.refl _) (by simp) (by simp) (by simp[this])
  ·have:A=dc:=by rw[eA,if_pos (.inl c0)]
   simp(disch:=omega)[p0,c0]
   refine callW_of (c1 h hp) ?_
   rintro _ h2⟨rfl,g2⟩
   try refine⟨λe=>(by first|exact g2|cases e),?_⟩
   try simp(disch:=omega)
   exact post _ h2 g2 (by simp) (by simp) (by simp[this])
def preT(c:Int)(out:List UInt8):List UInt8:=if c<0 then(if out=[]then[45]else out++[32,45,32])else(if out=[]then[]else out++[32,43,32])
def txT(lo:Int)(cs:List Int):Nat->List UInt8
 |0=>[]
 |j+1=>if cs.getD (cs.length-1-j) 0=0 then txT lo cs j else preT (cs.getD (cs.length-1-j) 0) (txT lo cs j)++termT (absC (cs.getD (cs.length-1-j) 0)) (lo+(cs.length-1-j:Nat))
def polyT(p:Poly):List UInt8:=if polyOk p then(if p.2=[]then[48]else txT p.1 p.2 p.2.length)else[]
theorem preT_len{c:Int}{out:List UInt8}:(preT c out).length<=out.length+3:=by
 unfold preT
 split<;>split<;>simp
theorem absC_bd{c:Int}(h:-1000000000000<=c∧c<=1000000000000):0<=absC c∧absC c<=1000000000000:=by unfold absC;split<;>omega
structure OkT (p:Poly):Prop where
 c:∀i,i<p.2.length->-1000000000000<=p.2.getD i 0∧p.2.getD i 0<=1000000000000
 n:p.2.length<=400
 lo:-1000<=p.1∧p.1<=1000
 last:p.2≠[]->p.2.getD (p.2.length-1) 0≠0
theorem polyOk_t{p:Poly}(h:polyOk p=true):OkT p:=by
 unfold polyOk at h
 by_cases e:p.2=[]
 ·rw[if_pos e]at h
  have:=of_decide_eq_true h
  exact⟨by rw[e];simp,by rw[e];simp,by omega,λq=>absurd e q⟩
 ·rw[if_neg e]at h
  cases q:coefsOk p.2
  ·rw[q]at h;simp at h
  ·rw[q]at h
   simp only[if_true,Bool.and_eq_true,decide_eq_true_eq]at h
   have hc:=of_decide_eq_true q
   exact⟨λi hi=>inR_iff.1 (hc i hi),h.1,inR_iff.1 h.2.1,λ_=>h.2.2.2⟩
theorem txT_len{lo:Int}{cs:List Int}(ok:OkT (lo,cs)):∀j,j<=cs.length->(txT lo cs j).length<=45*j
 |0,_=>by simp[txT]
 |j+1,hj=>by
  have ih:=txT_len ok j (by omega)
  rw[txT]
  split
  ·omega
  ·have hc:=ok.c (cs.length-1-j) (by simp only;omega)
   simp only at hc
   have hb:=absC_bd hc
   have hlo:=ok.lo
   have hn:=ok.n
   simp only at hlo hn
   have l1:=preT_len (c:=cs.getD (cs.length-1-j) 0) (out:=txT lo cs j)
   have l2:=termT_len (c:=absC (cs.getD (cs.length-1-j) 0)) (pw:=lo+(cs.length-1-j:Nat)) (by unfold I64;omega) (by unfold I64;omega)
   rw[List.length_append]
   omega
theorem c117(h:Heap)(hp:0<h.length)(v:Value)(p:Poly)(pv:PolyV h v p)(hl:p.2.length<=100000):ACall Gam 117 [v] h λr h'=>Grows h h'∧r=S (polyT p):=by
 have pv0:=pv
 obtain⟨A,eA⟩:∃A,A=polyT p:=⟨_,rfl⟩
 have eA0:=eA
 unfold polyT at eA0
 rw[<-eA]
 have okt:=polyOk_t (p:=p)
 obtain⟨lo,cs⟩:=p
 obtain⟨s,rfl,vs⟩:=pv
 simp only at vs hl eA0
 have vs0:=vs
 obtain⟨b,o,z,rfl,hz,_,hx,hc⟩:=vs.ints
 have hcell:=λk hk=>ints_getD hc (k:=k) hk
 obtain⟨n,en⟩:∃n,n=cs.length:=⟨_,rfl⟩
 simp only[<-en]at hcell hl eA0 vs0 ⊢
 have c141':=c141 h _ (lo,cs) pv0 (by simp only;omega)
 rw[<-en]at c141'
 refine ACall_intro g117 rfl ?_
 unfold fn117
 rw[awp_seq,awp_reg]
 generalize hK:seqQ Gam _ _ 0=K
 simp(disch:=omega)
 subst hK
 simp only[seqQ_zero]
 rw[awp_seq]
 generalize hK:seqQ Gam _ _=K
 simp(disch:=omega)
 refine callW_of c141' ?_
 rintro _ H1⟨rfl,rfl⟩
 try refine⟨λe=>(by cases e),?_⟩
 cases eok:polyOk (lo,cs)
 ·rw[eok]at eA0
  simp only[Bool.false_eq_true,if_false]at eA0
  subst eA0
  simp(disch:=omega)
  subst hK
  simp(disch:=omega)
  exact Grows.refl _
 have ok:=okt eok
 rw[eok]at eA0
 simp only[if_true]at eA0
 simp(disch:=omega)
 subst hK
 simp only[seqQ_zero]
 rw[awp_seq]
 generalize hK:seqQ Gam _ _=K
 by_cases n0:n=0
 ·have:cs=[]:=List.length_eq_zero_iff.1 (by omega)
  rw[if_pos this]at eA0
  subst eA0
  simp(disch:=omega)[n0]
  subst hK
  simp(disch:=omega)
  exact Grows.refl _
 have n0I:¬(n:Int)=0:=by omega
 have ne:cs≠[]:=by intro e;rw[e]at en;simp at en;omega
 rw[if_neg ne]at eA0
 simp(disch:=omega)[n0,n0I]
 subst hK
 simp only[seqQ_zero]
 rw[awp_seq,awp_reg]
 generalize hK:seqQ Gam _ _ 0=K
 simp(disch:=omega)
 subst hK
 simp only[seqQ_zero]
 obtain⟨S1,eS1⟩:∃S,S=Value.agg #[I lo,sl b o n z]:=⟨_,rfl⟩
 have txs:∀j,txT lo cs (j+1)=if cs.getD (n-1-j) 0=0 then txT lo cs j else preT (cs.getD (n-1-j) 0) (txT lo cs j)++termT (absC (cs.getD (n-1-j) 0)) (lo+(n-1-j:Nat)):=λj=>by rw[en];rfl
 have tl:∀j,j<=n->(txT lo cs j).length<=45*j:=λj hj=>txT_len ok j (by omega)
 have ckb:∀i,i<n->-1000000000000<=cs.getD i 0∧cs.getD i 0<=1000000000000:=λi hi=>ok.c i (by simp only;omega)
 have okn:n<=400:=by have:=ok.n;simp only at this;omega
 have okl:=ok.lo
 simp only at okl
 have wn1:IntKind.i64.wrap ((n:Int)-1)=(n:Int)-1:=wrap64 (by omega) (by omega)
 have hp1:=hp
 rw[awp_seq]
 generalize hP:seqQ Gam _ _=PP
 simp(disch:=omega)[wn1]
 refine awp_loop (λj σ h'=>j<=n∧Grows H1 h'∧σ 1=S1∧σ 2=S []∧σ 3=S (txT lo cs j)∧σ 4=I ((n:Int)-1-j)) (λj=>n-j) 0 ?_ ?_
 ·exact⟨by omega,Grows.refl _,by simp[eS1],by simp,by simp[txT],by simp⟩
 rintro j σ h'⟨hj,hg,q1,q2,q3,q4⟩
 have hpg:=pos_of hp1 hg
 simp(disch:=omega)[q4]
 refine fork_dec (λhlt=>?_) (λhge=>?_)
 ·have j1:j<n:=by omega
  have es:=txs j
  have lt:=tl j (by omega)
  obtain⟨k,ek⟩:∃k,k=n-1-j:=⟨_,rfl⟩
  have ekI:(n:Int)-1-j=k:=by omega
  rw[ekI]at q4
  rw[<-ek]at es
  have k1:k<n:=by omega
  have ck:=hg.cell (hcell k k1)
  have cb:=ckb k k1
  obtain⟨c,ec⟩:∃c,c=cs.getD k 0:=⟨_,rfl⟩
  rw[<-ec]at ck es cb
  obtain⟨out,eout⟩:∃out,out=txT lo cs j:=⟨_,rfl⟩
  rw[<-eout]at es q3 lt
  have wk:IntKind.i64.wrap ((k:Int)-1)=(n:Int)-1-((j+1:Nat):Int):=by rw[wrap64 (by omega) (by omega)];omega
  rw[runT_inl,awp_skip,seqQ_zero,awp_seq]
  generalize hB':seqQ Gam _ _=BB
  have fin:∀(σ:Nat->Value) (h2:Heap),Grows H1 h2->σ 1=S1->σ 2=S []->σ 3=S (txT lo cs (j+1))->σ 4=I k->BB 0 σ h2:=by
   intro σ h2 hg q1 q2 q3 q4
   subst hB'
   simp only[seqQ_zero]
   simp(disch:=omega)[q4]
   rw[wk]
   refine⟨j+1,?_,by omega⟩
   and_intros<;>first|assumption|omega|rfl
  rw[awp_block]
  have f0:∀(σ:Nat->Value) (h2:Heap),BB 0 σ h2->blockQ 1 BB 0 σ h2:=by
   intro σ h2 x
   rw[blockQ_eq,if_neg (by omega)];exact x
  have f3:∀(σ:Nat->Value) (h2:Heap),BB 0 σ h2->blockQ 1 BB 3 σ h2:=by
   intro σ h2 x
   rw[blockQ_eq,if_pos rfl];exact x
  generalize blockQ 1 BB=B1 at f0 f3 ⊢
  clear hB'
  rw[awp_seq,awp_reg]
  generalize hK:seqQ Gam _ _ 0=K
  simp(disch:=omega)[q1,eS1,q4,k1,ck]
  subst hK
  simp only[seqQ_zero]
  rw[awp_seq]
  generalize hC:seqQ Gam _ _=CC
  have post:∀(σ:Nat->Value),σ 1=S1->σ 2=S []->σ 3=S (preT c out)->σ 4=I k->σ 5=I c->¬c=0->CC 0 σ h':=by
   intro σ q1 q2 q3 q4 q5 c0
   rw[if_neg c0]at es
   have lp:=preT_len (c:=c) (out:=out)
   subst hC
   simp only[seqQ_zero]
   have wlk:IntKind.i64.wrap (lo+k)=lo+k:=wrap64 (by omega) (by omega)
   have l2:=termT_len (c:=absC c) (pw:=lo+k) (by unfold I64 absC;split<;>omega) (by unfold I64;omega)
   have e2:(preT c out).length+(termT (absC c) (lo+k)).length<=4611686018427387904:=by omega
   simp(disch:=omega)[q1,q3,q4,q5,eS1,wlk]
   refine callW_of (c192 h' hpg c (lo+k) cb (by unfold I64;omega)) ?_
   rintro _ h2⟨g2,rfl⟩
   try refine⟨λe=>(by first|exact g2|cases e),?_⟩
   simp(disch:=omega)[q3,e2]
   exact f0 _ _ (fin _ h2 (hg.trans g2) (by simpa using q1) (by simpa using q2) (by rw[es];simp) (by simpa using q4))
  have hC1:∀(σ:Nat->Value),B1 3 σ h'->CC 3 σ h':=by
   intro σ x
   rw[<-hC,seqQ_ne (by omega)];exact x
  clear hC
  rw[awp_block]
  have post':∀(σ:Nat->Value),σ 1=S1->σ 2=S []->σ 3=S (preT c out)->σ 4=I k->σ 5=I c->¬c=0->blockQ 2 CC 0 σ h':=by
   intro σ a1 a2 a3 a4 a5 a6
   rw[blockQ_eq,if_neg (by omega)]
   exact post σ a1 a2 a3 a4 a5 a6
  have cont:∀(σ:Nat->Value),B1 3 σ h'->blockQ 2 CC 3 σ h':=by
   intro σ x
   rw[blockQ_eq,if_neg (by omega)]
   exact hC1 σ x
  clear post hC1
  generalize blockQ 2 CC=C2 at post' cont ⊢
  by_cases c0:c=0
  ·rw[if_pos c0]at es
   simp(disch:=omega)[c0]
   exact cont _ (f3 _ _ (fin _ h' hg (by simpa using q1) (by simpa using q2) (by rw[es];simpa using q3) (by simpa using q4)))
  ·have e3:out.length+3<=4611686018427387904:=by omega
   by_cases cn:c<0
   ·by_cases o0:out=[]
    ·have ep:preT c out=[45]:=by unfold preT;rw[if_pos cn,if_pos o0]
     simp(disch:=omega)[c0,cn,q3,o0]
     exact post' _ (by simpa using q1) (by simpa using q2) (by rw[ep];simp) (by simpa using q4) (by simp) c0
    ·have ep:preT c out=out++[32,45,32]:=by unfold preT;rw[if_pos cn,if_neg o0]
     simp(disch:=omega)[c0,cn,q3,o0,e3]
     exact post' _ (by simpa using q1) (by simpa using q2) (by rw[ep];simp) (by simpa using q4) (by simp) c0
   ·by_cases o0:out=[]
    ·have ep:preT c out=[]:=by unfold preT;rw[if_neg cn,if_pos o0]
     simp(disch:=omega)[c0,cn,q3,o0]
     exact post' _ (by simpa using q1) (by simpa using q2) (by rw[ep];simpa [o0]using q3) (by simpa using q4) (by simp) c0
    ·have ep:preT c out=out++[32,43,32]:=by unfold preT;rw[if_neg cn,if_neg o0]
     simp(disch:=omega)[c0,cn,q3,o0,e3]
     exact post' _ (by simpa using q1) (by simpa using q2) (by rw[ep];simp) (by simpa using q4) (by simp) c0
 ·have:j=n:=by omega
  subst this
  simp(disch:=omega)
  subst hP
  simp(disch:=omega)[q2,q3]
  rw[eA0]
  exact⟨hg,rfl⟩
section side
variable {Γ : Nat -> Option AFun} {K : (Nat -> Value) -> Heap -> Prop} {σ τ : Nat -> Value} {h : Heap}
theorem awpOps_sideOp{d q:Nat}{x:Operand}{o:Op}{r:List Oper}{v:Value}{h':Heap}(hc:noCall o=true)(hs:sideOf q=some x)(hq:isQuiet q=false)(ho:isOwn q=true)(ha:aOp (ev σ τ) h o=some (v,h'))(hsame:sameAt h h' (ev σ τ x)=true)
  (hk:awpOps Γ r K σ (upd τ d v) h'):awpOps Γ (op d o q::r) K σ τ h:=by
 obtain⟨m,s,hx,hK⟩:=hk
 have hok:okQ qzP q (ev σ τ) h h'=true:=by
  unfold okQ;rw[hs]
  simp only[Bool.and_eq_true,Bool.or_eq_true,Bool.not_eq_true']
  exact⟨.inl hq,hsame⟩
 have hp:(⟨σ,τ,h⟩:St).put q (some d) v h'=⟨σ,upd τ d v,h'⟩:=by simp[St.put,ho]
 have hcall:callOf (ev σ τ) o=none:=by
  unfold callOf
  split
  ·simp[noCall]at hc
  ·rfl
 refine⟨m,s,?_,hK⟩
 simp only[execOps,stepA,wantedA,op,hcall,ha,hok,if_true]
 rw[hp]
 exact hx
theorem fork_g53{d i:Nat}{o:Op}{r:List Oper}{w:Bool}:awpOps Γ (op d o 53 (some (i,w))::r) K σ τ h=fork Γ (gval w (ev σ τ (gslot i)))
  (.inr (if w then op d o 53::r else r,K,σ,if w then τ else upd τ d (skipV (some (i,w))),h)) (.inr (if w then r else op d o 53::r,K,σ,if w then upd τ d (skipV (some (i,w)))else τ,h)):=by
 rw[awpOps_guardAny (o:=op d o 53 (some (i,w))) rfl]
 cases w<;>simp[op,isOwn,fork,runT]
theorem bindW_ex{o:Option (Value×Heap)}{k:Value->Heap->Prop}(x:bindW o k):∃v h',o=some (v,h')∧k v h':=by
 cases o with
 |none=>exact x.elim
 |some p=>exact⟨p.1,p.2,rfl,x⟩
end side
abbrev Edits:=List (Int×Int)
def edV(l:Edits):List Value:=(l.map λp=>[I p.1,I p.2]).flatten
theorem edV_len(l:Edits):(edV l).length=l.length*2:=flat_len (f:=λp:Int×Int=>[I p.1,I p.2]) (λ_=>rfl)
theorem edV_snoc(l:Edits)(p:Int×Int):edV (l++[p])=edV l++[I p.1,I p.2]:=by simp[edV]
def orS{α:Type}:Option α->Option α->Option α
 |some x,_=>some x
 |none,b=>b
theorem orS_some{α:Type}{a b:Option α}{x:α}(h:orS a b=some x):a=some x∨(a=none∧b=some x):=by
 cases a with
 |none=>exact .inr ⟨rfl,h⟩
 |some y=>exact .inl h
/-- The first that is found, by kinds from some kind on; by places from some place on. -/
noncomputable def tryKd{α:Type}(f:Nat->Nat->Option α)(b:Int)(k:Nat):Nat->Option α
 |0=>none
 |r+1=>if((3-(r+1):Nat):Int)=b then tryKd f b k r else orS (f k (3-(r+1))) (tryKd f b k r)
noncomputable def tryK{α:Type}(f:Nat->Nat->Option α)(br:List Int):Nat->Option α
 |0=>none
 |r+1=>orS (tryKd f (br.getD (br.length-(r+1)) 0) (br.length-(r+1)) 3) (tryK f br r)
/-- The first list of edits after which there are c curves. -/
noncomputable def srF(W H c:Int):Nat->Nat->List Int->Edits->Option Edits
 |0,_,br,now=>if(curveN (W,H,br):Int)=c then some now else none
 |l+1,k,br,now=>tryK (λk kd=>srF W H c l (k+1) (br.set k (kd:Int)) (now++[((k:Int),(kd:Int))])) br (br.length-k)
/-- The fewest. -/
noncomputable def fewN(W H c:Int)(br:List Int)(m:Nat):Nat->Option Edits
 |0=>none
 |r+1=>orS (srF W H c (m-(r+1)) 0 br []) (fewN W H c br m r)
def seCode(X:Pan)(c e:Int):Int:=if okP X then(if(1<=c∧c<=1000)∧(0<=e∧e<=3)then(if 12<X.2.2.length then 5 else 0)else 2)else 1
noncomputable def fewA(X:Pan)(c e:Int):Edits×Int:=if seCode X c e=0 then(match fewN X.1 X.2.1 c X.2.2 (e.toNat+1) (e.toNat+1)with
 |some x=>(x,0)
 |none=>([],3))else([],seCode X c e)
theorem tryKd_succ{α:Type}{f:Nat->Nat->Option α}{b:Int}{k kd:Nat}(hk:kd<3):tryKd f b k (3-kd)=if((kd:Nat):Int)=b then tryKd f b k (3-(kd+1))else orS (f k kd) (tryKd f b k (3-(kd+1))):=by
 have:kd=0∨kd=1∨kd=2:=by omega
 rcases this with rfl|rfl|rfl<;>rfl
theorem tryK_succ{α:Type}{f:Nat->Nat->Option α}{br:List Int}{k:Nat}(hk:k<br.length):tryK f br (br.length-k)=orS (tryKd f (br.getD k 0) k 3) (tryK f br (br.length-(k+1))):=by
 obtain⟨r,hr⟩:∃r,br.length-k=r+1:=⟨br.length-k-1,by omega⟩
 rw[hr,tryK,show br.length-(r+1)=k by omega,show br.length-(k+1)=r by omega]
theorem fewN_succ{W H c:Int}{br:List Int}{m j:Nat}(hj:j<m):fewN W H c br m (m-j)=orS (srF W H c j 0 br []) (fewN W H c br m (m-(j+1))):=by
 obtain⟨r,hr⟩:∃r,m-j=r+1:=⟨m-j-1,by omega⟩
 rw[hr,fewN,show m-(r+1)=j by omega,show m-(j+1)=r by omega]
/-- How long and how great what is found can be. -/
def EdB(l:Edits):Prop:=l.length<=3∧∀p∈l,(0<=p.1∧p.1<=200)∧(0<=p.2∧p.2<=2)
theorem tryKd_in{α:Type}{f:Nat->Nat->Option α}{b:Int}{k:Nat}{x:α}:∀r,r<=3->tryKd f b k r=some x->∃kd,kd<3∧f k kd=some x
 |0,_,h=>by simp[tryKd]at h
 |r+1,hr,h=>by
  unfold tryKd at h
  split at h
  ·exact tryKd_in r (by omega) h
  ·rcases orS_some h with e|⟨_,e⟩
   ·exact⟨3-(r+1),by omega,e⟩
   ·exact tryKd_in r (by omega) e
theorem tryK_in{α:Type}{f:Nat->Nat->Option α}{br:List Int}{x:α}:∀r,tryK f br r=some x->∃k kd,k<=br.length∧kd<3∧f k kd=some x
 |0,h=>by simp[tryK]at h
 |r+1,h=>by
  unfold tryK at h
  rcases orS_some h with e|⟨_,e⟩
  ·obtain⟨kd,a,b⟩:=tryKd_in 3 (by omega) e
   exact⟨br.length-(r+1),kd,by omega,a,b⟩
  ·exact tryK_in r e
theorem srF_bd{W H c:Int}:∀(l k:Nat) (br:List Int) (now x:Edits),br.length<=150->(∀p∈now,(0<=p.1∧p.1<=200)∧(0<=p.2∧p.2<=2))->srF W H c l k br now=some x->x.length=now.length+l∧∀p∈x,(0<=p.1∧p.1<=200)∧(0<=p.2∧p.2<=2)
 |0,k,br,now,x,_,hn,h=>by
  unfold srF at h
  split at h
  ·injection h with h
   rw[<-h]
   exact⟨by simp,hn⟩
  ·cases h
 |l+1,k,br,now,x,hb,hn,h=>by
  unfold srF at h
  have h':=h
  obtain⟨k',kd,h1,h2,h3⟩:=tryK_in (br:=br) (br.length-k) h'
  have hn2:∀p∈now++[((k':Int),(kd:Int))],(0<=p.1∧p.1<=200)∧(0<=p.2∧p.2<=2):=by
   intro p hp
   rcases List.mem_append.1 hp with q|q
   ·exact hn p q
   ·rw[List.mem_singleton.1 q]
    simp only
    omega
  obtain⟨a,b⟩:=srF_bd l (k'+1) (br.set k' (kd:Int)) (now++[((k':Int),(kd:Int))]) x (by rw[List.length_set];exact hb) hn2 h3
  exact⟨by rw[a];simp;omega,b⟩
theorem fewN_bd{W H c:Int}{br:List Int}{m:Nat}{x:Edits}(hb:br.length<=150)(hm:m<=4):∀r,fewN W H c br m r=some x->EdB x
 |0,h=>by simp[fewN]at h
 |r+1,h=>by
  unfold fewN at h
  rcases orS_some h with e|⟨_,e⟩
  ·obtain⟨a,b⟩:=srF_bd _ _ _ _ _ hb (by simp) e
   exact⟨by rw[a];simp;omega,b⟩
  ·exact fewN_bd hb hm r e
/-- Edits that can be read; however block ob turns. -/
def EdR(h:Heap)(v:Value)(l:Edits):Prop:=∃b o y,v=sl b o l.length y∧(l=[]∨cellsAt h b o (l.length*2)=some (edV l))
def EdS(ob:Nat)(h:Heap)(v:Value)(l:Edits):Prop:=∀h',Mod ob (ob+1) h h'->EdR h' v l
theorem EdS.mod{ob:Nat}{h h':Heap}{v:Value}{l:Edits}(x:EdS ob h v l)(m:Mod ob (ob+1) h h'):EdS ob h' v l:=λh2 m2=>x h2 (m.trans m2)
theorem EdS.r{ob:Nat}{h:Heap}{v:Value}{l:Edits}(x:EdS ob h v l):EdR h v l:=x h (Mod.refl _ _ _)
def PaS(ob:Nat)(h:Heap)(v:Value)(X:Pan):Prop:=∀h',Mod ob (ob+1) h h'->Vr h' shPanel v X
theorem PaS.mod{ob:Nat}{h h':Heap}{v:Value}{X:Pan}(x:PaS ob h v X)(m:Mod ob (ob+1) h h'):PaS ob h' v X:=λh2 m2=>x h2 (m.trans m2)
theorem PaS.r{ob:Nat}{h:Heap}{v:Value}{X:Pan}(x:PaS ob h v X):Vr h shPanel v X:=x h (Mod.refl _ _ _)
theorem PaS.of{ob lo hi:Nat}{h:Heap}{v:Value}{X:Pan}(x:Vo h lo hi shPanel v X)(hb:ob<lo):PaS ob h v X:=λh2 m2=>(x.mod m2 (.inr (by omega))).vr
theorem mod_at{ob b:Nat}{h h':Heap}{k:Blk}(m:Mod ob (ob+1) h h')(hk:h[b]?=some k)(hne:b≠ob):h'[b]?=some k:=by rw[m.2 b (at_lt hk) (by omega)];exact hk
theorem EdS.buf{ob:Nat}{h0 h:Heap}{v:Value}{l:Edits}(x:Buf h0 h v 2 (edV l))(hb:ob<h0.length):EdS ob h v l:=by
 intro h2 m2
 rcases x with⟨e1,e2⟩|⟨b,n,e1,e2,e3,e4⟩
 ·have hl:=edV_len l
  rw[e1]at hl
  have:l=[]:=List.length_eq_zero_iff.1 (by simp at hl;omega)
  subst this
  exact⟨0,0,2,e2,.inl rfl⟩
 ·rw[edV_len]at e2
  have:n=l.length:=by omega
  refine⟨b,0,2,by rw[e1,this],.inr ?_⟩
  exact cellsAt_all (mod_at m2 e4 (by omega)) (by rw[edV_len])
theorem put_ob{ob:Nat}{h:Heap}{k:Blk}:Mod ob (ob+1) h (h.set ob k):=⟨by simp,λc hc ho=>by rw[List.getElem?_set_ne (by omega)]⟩
/-- One more edit, in new memory: first a copy of the list. -/
theorem ed_copy{h:Heap}{v:Value}{l:Edits}(hp:0<h.length)(r:EdR h v l)(hl:l.length<=100):∃v' h',aAppend 2 h v (sl 0 0 0 2)=some (v',h')∧Grows h h'∧Buf h h' v' 2 (edV l):=by
 obtain⟨b,o,y,rfl,hc⟩:=r
 by_cases e:l=[]
 ·subst e
  exact⟨sl 0 0 0 2,h,by simp[aAppend,newCells],Grows.refl _,Buf.nil⟩
 ·have hl0:l.length≠0:=λq=>e (List.length_eq_zero_iff.1 q)
  have hn:newCells 2 h (sl b o l.length y)=some (edV l):=by simp[newCells,hl0,hc.resolve_left e]
  have hne:edV l≠[]:=by intro q;have:=congrArg List.length q;rw[edV_len]at this;simp at this;omega
  obtain⟨v',h',e1,g,b1⟩:=bindW_ex (append_buf (k:=λv' h'=>Grows h h'∧Buf h h' v' 2 ([]++edV l)) hp (Grows.refl h) Buf.nil hn (by omega) hne (by rw[edV_len];omega) (by simp[edV_len,maxSize];omega) (λv' h' g b _=>⟨g,b⟩))
  exact⟨v',h',e1,g,by simpa using b1⟩
theorem ed_more{h0 h:Heap}{v:Value}{l:Edits}{a b:Int}(hp:0<h0.length)(g:Grows h0 h)(r:Buf h0 h v 2 (edV l))(hl:l.length<=100):∃v' h',aAppend 2 (h++[⟨[I a,I b],true⟩]) (sl h.length 0 1 2) v=some (v',h')∧Grows h0 h'∧Buf h0 h' v' 2 (edV (l++[(a,b)])):=by
 have g2:Grows h (h++[⟨[I a,I b],true⟩]):=⟨_,rfl⟩
 have hn:newCells 2 (h++[⟨[I a,I b],true⟩]) (sl h.length 0 1 2)=some [I a,I b]:=by
  simp[newCells]
  rw[cellsAt_of (k:=⟨[I a,I b],true⟩) (by simp) (by simp)]
  simp
 obtain⟨v',h',e1,g',b1⟩:=bindW_ex (append_buf (k:=λv' h'=>Grows h0 h'∧Buf h0 h' v' 2 (edV l++[I a,I b])) hp (g.trans g2) (r.grow g2) hn (by omega) (by simp) (by simp) (by simp[edV_len,maxSize];omega) (λv' h' g b _=>⟨g,b⟩))
 exact⟨v',h',e1,g',by rw[edV_snoc];exact b1⟩
end Am

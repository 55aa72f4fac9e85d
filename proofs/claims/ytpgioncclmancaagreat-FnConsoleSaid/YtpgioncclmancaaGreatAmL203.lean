/- The contract of the law FnConsole. -/
import Derived.Test.YtpgioncclmancaaGreatAmK19
import Derived.Test.YtpgioncclmancaaGreatAmK3
import Derived.Test.YtpgioncclmancaaGreatAmK7
import Derived.Test.YtpgioncclmancaaGreatAmK4
set_option linter.unusedVariables false
set_option linter.unusedSimpArgs false
set_option maxHeartbeats 4000000
set_option maxRecDepth 20000
namespace Am
open Go

theorem lineOk_nl{x:List UInt8}(h:lineOk x=true):(10:UInt8)∉x∧x.length<=30:=by
 unfold lineOk at h
 simp only[Bool.and_eq_true,decide_eq_true_eq,List.all_eq_true]at h
 exact⟨λq=>h.2 10 q rfl,h.1⟩
theorem split_say:∀{L:List (List UInt8)},(∀x∈L,(10:UInt8)∉x)->splitS 10 (sayL L)=L++[[]]
 |[],_=>rfl
 |a::r,h=>by
  have ih:=split_say (L:=r) λx hx=>h x (by simp[hx])
  have e:sayL (a::r)=a++10::sayL r:=by simp[sayL]
  rw[e]
  have:=splitG_one (b:=10) (s:=a) (cur:=[]) (t:=sayL r) (h a (by simp))
  show splitG 10 [] (a++10::sayL r)=_
  rw[this]
  show _::splitS 10 (sayL r)=_
  rw[ih];rfl
theorem run_say{L:List (List UInt8)}(h:∀x∈L,(10:UInt8)∉x):runTxt (sayL L)=runA 60 newDesk L:=by
 unfold runTxt
 congr 1
 rcases List.eq_nil_or_concat L with rfl|⟨t,x,e⟩
 ·rfl
 ·have e:L=t++[x]:=by rw[e];simp
  have es:sayL L=(sayL t++x)++[10]:=by rw[e,sayL_snoc];simp
  have sp:=split_say h
  rw[es]
  unfold linesT
  rw[if_neg (by simp)]
  have ec:cutT ((sayL t++x)++[10])=sayL t++x:=by unfold cutT;simp
  rw[ec]
  have h2:splitS 10 ((sayL t++x)++[10])=splitS 10 (sayL t++x)++[[]]:=splitG_end 10 _ []
  rw[<-es,sp]at h2
  exact(List.append_cancel_right h2).symm
theorem deskT_ne(J:Jrn):deskT J≠[]:=by unfold deskT;simp
/-- The state of the law's loop. -/
def LawS(h:Heap)(v w z:Value)(i:Nat)(L:List (List UInt8))(A:List UInt8):Prop:=∃J O,Vr h shJournal v J∧okJ J=true∧w=S (sayL (L.take i))∧z=S O∧O.length<=i*400000∧LeftR O (60-i) J (L.drop i) A
theorem law203(h:Heap)(vs:List Value)(hp:0<h.length)(ha:All2 (ArgR h) [shBytes] vs):ACall Gam 203 vs h λv _=>v=.bool true:=by
 obtain⟨v0,vs0,rfl,b0,ha⟩:=all2_cons ha
 obtain rfl:=all2_nil ha
 obtain⟨(X:List Int),va⟩:=b0.vr
 refine ACall_intro g203 rfl ?_
 unfold fn203
 rw[awp_seq,awp_reg]
 generalize hK:seqQ Gam _ _ 0=K
 simp(disch:=omega)
 subst hK
 simp only[seqQ_zero]
 rw[awp_seq]
 generalize hK:seqQ Gam _ _=K
 simp(disch:=omega)
 refine callW_of (c258 h v0 _ X [] va nil_bytes) ?_
 rintro _ h1⟨rfl,rfl⟩
 generalize (decide (3000<X.length)||decide (3000<([]:List Int).length))=w
 cases w
 rotate_left
 ·subst hK
  simp(disch:=omega)
 simp(disch:=omega)
 subst hK
 simp only[seqQ_zero]
 rw[awp_seq,awp_reg]
 generalize hK:seqQ Gam _ _ 0=K
 simp(disch:=omega)
 refine callW_of (c328 h1 hp v0 X va) ?_
 rintro _ h2⟨g2,L,lb,ly,rfl,lc,l9,lok⟩
 try refine⟨λe=>(by first|exact g2|cases e),?_⟩
 have hnl:∀x∈L,(10:UInt8)∉x:=λx hx=>(lineOk_nl (lok x hx)).1
 have hl30:∀x∈L,x.length<=30:=λx hx=>(lineOk_nl (lok x hx)).2
 have rs:=run_say hnl
 have sl:=sayL_le hl30
 obtain⟨A,eA⟩:∃A,A=runA 60 newDesk L:=⟨_,rfl⟩
 have LR0:LeftR [] 60 newDesk L A:=by unfold LeftR;rw[eA];rfl
 rw[<-eA]at rs
 clear eA
 try simp(disch:=omega)
 subst hK
 simp only[seqQ_zero]
 rw[awp_seq,awp_reg]
 generalize hK:seqQ Gam _ _ 0=K
 simp(disch:=omega)
 refine callW_of (c100 h2 (pos_of hp g2)) ?_
 rintro dv h3⟨g3,od,sd⟩
 try refine⟨λe=>(by first|exact g3|cases e),?_⟩
 have G3:=g2.trans g3
 have vd:=od.vr
 have vd0:=vd
 obtain⟨W',H',b1',o1',n1',z1',b2',o2',n2',z2',b3',o3',n3',z3',rfl,_⟩:=vd.jx
 simp(disch:=omega)
 subst hK
 simp only[seqQ_zero]
 rw[awp_seq,awp_reg]
 generalize hK:seqQ Gam _ _ 0=K
 simp(disch:=omega)
 subst hK
 simp only[seqQ_zero]
 rw[awp_seq,awp_reg]
 generalize hK:seqQ Gam _ _ 0=K
 simp(disch:=omega)
 subst hK
 simp only[seqQ_zero]
 rw[awp_seq]
 generalize hP:seqQ Gam _ _=PP
 have fin:∀(τ:Nat->Value) (h':Heap),Grows h1 h'->τ 5=S (sayL L)->τ 6=S A->PP 0 τ h':=by
  intro τ h' hg t5 t6
  have call:=c126 h' (pos_of hp hg) (sayL L) (by omega)
  rw[rs]at call
  subst hP
  simp(disch:=omega)[t5]
  refine callW_of call ?_
  rintro _ h5⟨g5,rfl⟩
  try refine⟨λe=>(by first|exact g5|cases e),?_⟩
  simp(disch:=omega)[t6]
 clear hP
 simp(disch:=omega)
 have b0:∀(σ:Nat->Value) (h':Heap),PP 0 σ h'->blockQ 0 PP 2 σ h':=by
  intro σ h' x;rw[blockQ_eq,if_pos rfl];exact x
 generalize blockQ 0 PP=B0 at b0 ⊢
 refine awp_loop (λi τ h'=>i<=L.length∧Grows h3 h'∧LawS h' (τ 4) (τ 5) (τ 6) i L A∧τ 3=Am.sl lb 0 L.length ly∧τ 7=I i) (λi=>L.length-i) 0 ?_ ?_
 ·exact⟨by omega,Grows.refl _,⟨newDesk,[],by simpa using vd0,newDesk_ok,by simp[sayL],by simp,by simp,by simpa using LR0⟩,by simp,by simp⟩
 rintro i τ h'⟨hi,hg,⟨J,O,vJ,okj,t5,t6,lO,LR⟩,t3,t7⟩
 have G:=G3.trans hg
 have hpp:=pos_of hp G
 simp(disch:=omega)[t3,t7]
 refine fork_dec (λhlt=>?_) (λhge=>?_)
 case _=>
  have i1:i<L.length:=by omega
  have cw:=(g3.trans hg).cell (lc i i1)
  have ml:=hl30 _ (List.getElem_mem i1)
  rw[List.drop_eq_getElem_cons i1]at LR
  have tk:sayL (L.take (i+1))=sayL (L.take i)++(L[i]++[10]):=by rw[List.take_succ_eq_append_getElem i1,sayL_snoc]
  have lt:=sayL_le (L:=L.take i) (n:=30) (λx hx=>hl30 x (List.mem_of_mem_take hx))
  rw[List.length_take]at lt
  obtain⟨s1,es1⟩:∃s1,s1=L[i]:=⟨_,rfl⟩
  rw[<-es1]at cw ml LR tk
  obtain⟨T,eT⟩:∃T,T=sayL (L.take i):=⟨_,rfl⟩
  rw[<-eT]at t5 tk lt
  have vJ0:=vJ
  obtain⟨W2,H2,y1,y2,y3,y4,y5,y6,y7,y8,y9,y10,y11,y12,t4,_⟩:=vJ.jx
  rw[t4]at vJ0
  rw[show 60-i=(60-(i+1))+1 by omega]at LR
  have call:=c76 h' hpp _ J s1 vJ0 (okJ_siz okj) (by omega)
  have dbd:=@desk_bd J s1
  have dsy:=@desk_say J s1
  have LRs:=LR.step
  have LRk:=LR.skip
  have d7:(deskA J s1).2.2=0∨(deskA J s1).2.2=7:=by
   rw[desk_eq okj]
   split
   ·exact .inl rfl
   ·exact .inr rfl
  obtain⟨D,eD⟩:∃D,D=deskA J s1:=⟨_,rfl⟩
  rw[<-eD]at call dbd dsy LRs LRk d7
  have wk:IntKind.i64.wrap ((i:Int)+1)=((i+1:Nat):Int):=by rw[wrap64 (by omega) (by omega)];omega
  have f1:s1.length<=4611686018427387903:=by omega
  have f2:T.length+(s1.length+1)<=4611686018427387904:=by omega
  simp(disch:=omega)[t3,t4,t5,t7,i1,cw,f1,f2]
  refine callW_of call ?_
  rintro _ h4⟨g4,r0,r1,l1,l2,k1,k2,rfl,vo0,vo1,_⟩
  try refine⟨λe=>(by first|exact g4|cases e),?_⟩
  have G4:=G.trans g4
  have vr0:=vo0.vr
  have vr00:=vr0
  obtain⟨W3,H3,x1,x2,x3,x4,x5,x6,x7,x8,x9,x10,x11,x12,rfl,_⟩:=vr0.jx
  obtain⟨tb,tz,rfl,tc⟩:=texts_cellV vo1
  rcases d7 with d0|d7
  ·obtain⟨bd,okD⟩:=dbd d0
   have LRs:=LRs d0
   have dsy:=dsy d0
   have bl0:=bd.1
   have bl:=bd.2.1
   have c427':=c427 h4 (pos_of hp G4) _ D.1 vr00 (okJ_siz okD)
   rw[okD]at c427'
   obtain⟨Ls,eLs⟩:∃Ls,Ls=D.2.1:=⟨_,rfl⟩
   rw[<-eLs]at LRs dsy bl0 bl tc ⊢
   have nl1:¬(Ls.length:Int)<1:=by omega
   have nl2:¬Ls.length<1:=by omega
   have nl3:¬Ls.length=0:=by omega
   have nl4:¬Ls=[]:=by intro e;rw[e]at nl3;exact nl3 rfl
   simp(disch:=omega)[d0]
   refine callW_of c427' ?_
   rintro _ h5⟨g5,rfl⟩
   try refine⟨λe=>(by first|exact g5|cases e),?_⟩
   have G5:=G4.trans g5
   have c77':=c77 h5 (pos_of hp G5) _ D.1 (vr00.grow g5) (okJ_siz okD)
   have dne:deskAns D.1≠[]:=by unfold deskAns;rw[if_pos okD];exact deskT_ne _
   simp(disch:=omega)[nl1,nl2,nl3,nl4]
   refine callW_of c77' ?_
   rintro _ h6⟨g6,rfl⟩
   try refine⟨λe=>(by first|exact g6|cases e),?_⟩
   have G6:=G5.trans g6
   have v6:=(vr00.grow g5).grow g6
   simp(disch:=omega)[dne,t6]
   have tc6:∀m (hm:m<Ls.length),cell h6 tb m=some (S Ls[m]):=λm hm=>g6.cell (g5.cell (tc m hm))
   have fin5:S (T++(s1++[10]))=S (sayL (L.take (i+1))):=by rw[tk]
   have lines:∀l∈Ls,l.length<=300000:=by intro l hl;rw[eLs]at hl;exact bd.2.2 l hl
   refine awp_loop (λm ρ hh=>hh=h6∧m<=Ls.length∧SayS (ρ 6) O Ls m∧ρ 3=Am.sl lb 0 L.length ly∧ρ 5=S (sayL (L.take (i+1)))∧ρ 7=I i∧ρ 8=.agg #[I W3,I H3,Am.sl x1 x2 x3 x4,Am.sl x5 x6 x7 x8,Am.sl x9 x10 x11 x12]∧ρ 9=Am.sl tb 0 Ls.length tz∧ρ 11=I m∧∃a b c d e,ρ 4=.agg #[a,b,c,d,e]) (λm=>Ls.length-m) 0 ?_ ?_
   ·exact⟨rfl,by omega,by simpa [SayS,sayL]using t6,by simpa using t3,by simpa using fin5,by simpa using t7,by simp,by simp,by simp,_,_,_,_,_,by simpa using t4⟩
   rintro m ρ hh⟨rfl,hm,p6,p3,p5,p7,p8,p9,p11,q1,q2,q3',q4,q5,p4⟩
   simp(disch:=omega)[p9,p11]
   refine fork_dec (λhlt=>?_) (λhge=>?_)
   ·have m1:m<Ls.length:=by omega
    have ct1:=tc6 m m1
    have lm:=lines _ (List.getElem_mem m1)
    have lsm:=sayL_len (L:=Ls.take m) (λl hl=>lines l (List.mem_of_mem_take hl))
    rw[List.length_take]at lsm
    have sn:=sayL_snoc (Ls.take m) Ls[m]
    have tk2:Ls.take (m+1)=Ls.take m++[Ls[m]]:=List.take_succ_eq_append_getElem m1
    unfold SayS at p6
    obtain⟨TT,eTT⟩:∃TT,TT=sayL (Ls.take m):=⟨_,rfl⟩
    obtain⟨x,ex⟩:∃x,x=Ls[m]:=⟨_,rfl⟩
    rw[<-eTT]at p6 lsm sn
    rw[<-ex]at ct1 lm sn tk2
    have wm:IntKind.i64.wrap ((m:Int)+1)=((m+1:Nat):Int):=by rw[wrap64 (by omega) (by omega)];omega
    have r1:x.length<=4611686018427387903:=by omega
    have r2:O.length+TT.length+(x.length+1)<=4611686018427387904:=by omega
    have r3:O.length+(TT.length+(x.length+1))<=4611686018427387904:=by omega
    have fin6:SayS (S (O++(TT++(x++[10])))) O Ls (m+1):=by unfold SayS;rw[tk2,sn]
    simp(disch:=omega)[p6,p9,p11,m1,ct1,r1,r2,r3]
    try simp(disch:=omega)[wm]
    refine⟨m+1,?_,by omega⟩
    refine⟨by omega,fin6,p3,p5,p7,p8,by omega,q1,q2,q3',q4,q5,p4⟩
   ·have:m=Ls.length:=by omega
    subst this
    unfold SayS at p6
    rw[List.take_length]at p6
    simp(disch:=omega)[p8,p4,p7,wk]
    refine⟨i+1,⟨by omega,(hg.trans g4).trans (g5.trans g6),⟨D.1,_,v6,okD,p5,p6,by rw[List.length_append];omega,LRs⟩,p3,by omega⟩,by omega⟩
  ·have LRk:=LRk (by omega)
   have f3:O.length<=4611686018427387902:=by omega
   simp(disch:=omega)[d7,t6,t7,f3]
   try simp(disch:=omega)[wk]
   have fin5:S (T++(s1++[10]))=S (sayL (L.take (i+1))):=by rw[tk]
   refine⟨i+1,⟨by omega,hg.trans g4,⟨J,O++[63,10],?_,okj,fin5,by simp,by rw[List.length_append];simp;omega,LRk⟩,t3,by omega⟩,by omega⟩
   first|exact vJ.grow g4|(rw[t4];exact vJ0.grow g4)|exact vJ0.grow g4
 case _=>
  have:i=L.length:=by omega
  subst this
  rw[List.drop_length]at LR
  rw[List.take_length]at t5
  have ea:=LR.done
  simp(disch:=omega)
  refine b0 _ _ (fin _ h' G (by simpa using t5) (by rw[<-ea];simpa using t6))
end Am

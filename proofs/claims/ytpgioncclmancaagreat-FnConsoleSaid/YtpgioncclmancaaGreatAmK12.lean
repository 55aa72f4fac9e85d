/- Contracts: AmH39, AmH40, AmH41, AmH42, AmH43, AmH44. -/
import Derived.Test.YtpgioncclmancaaGreatAmK11
import Derived.Test.YtpgioncclmancaaGreatAmK6
import Derived.Test.YtpgioncclmancaaGreatAmK7
set_option linter.unusedVariables false
set_option linter.unusedSimpArgs false
set_option maxHeartbeats 4000000
set_option maxRecDepth 40000
namespace Am
open Go
def ptQ(W H x y:Int):Bool:=decide ((0<=x∧x<=2*W)∧(0<=y∧y<=2*H)∧(x+y)%2=1)
theorem c36(h:Heap)(W H x y:Int)(s:Value)(w:1<=W∧W<=8)(hh:1<=H∧H<=8):ACall Gam 36 [.agg #[I W,I H,s],.agg #[I x,I y]] h λr h'=>r=B (ptQ W H x y)∧h'=h:=by
 obtain⟨A,eA⟩:∃A,A=ptQ W H x y:=⟨_,rfl⟩
 rw[<-eA]
 unfold ptQ at eA
 have w1:IntKind.i64.wrap (2*W)=2*W:=wrap64 (by omega) (by omega)
 have w2:IntKind.i64.wrap (2*H)=2*H:=wrap64 (by omega) (by omega)
 refine ACall_intro g36 rfl ?_
 unfold fn36
 simp(disch:=omega)[w1]
 refine callW_of (c164 x 0 _ h) ?_
 rintro _ h1⟨rfl,rfl⟩
 try refine⟨λe=>(by cases e),?_⟩
 by_cases q1:0<=x∧x<=2*W
 ·have e1:inR x 0 (2*W)=true:=inR_iff.2 q1
  rw[e1]
  simp(disch:=omega)[w2]
  refine callW_of (c164 y 0 _ h1) ?_
  rintro _ h2⟨rfl,rfl⟩
  try refine⟨λe=>(by cases e),?_⟩
  by_cases q2:0<=y∧y<=2*H
  ·have e2:inR y 0 (2*H)=true:=inR_iff.2 q2
   have w3:IntKind.i64.wrap (x+y)=x+y:=wrap64 (by omega) (by omega)
   have w4:Int.tmod (x+y) 2=(x+y)%2:=Int.tmod_eq_emod_of_nonneg (by omega)
   rw[e2]
   by_cases q3:(x+y)%2=1
   ·have:A=true:=by rw[eA];simp;omega
    subst this
    simp(disch:=omega)[w3,w4,q3]
   ·have:A=false:=by rw[eA];simp;omega
    subst this
    simp(disch:=omega)[w3,w4,q3]
  ·have e2:inR y 0 (2*H)=false:=by
    cases e:inR y 0 (2*H)
    ·rfl
    ·exact absurd (inR_iff.1 e) q2
   have:A=false:=by rw[eA];simp;omega
   subst this
   rw[e2]
   simp(disch:=omega)
 ·have e1:inR x 0 (2*W)=false:=by
   cases e:inR x 0 (2*W)
   ·rfl
   ·exact absurd (inR_iff.1 e) q1
  have:A=false:=by rw[eA];simp;omega
  subst this
  rw[e1]
  simp(disch:=omega)
/-- The number of a segment by the point at which it ends and its direction from there. -/
def sgN(x n y:Nat)(l u:Bool):Nat:=(if l then x-1 else x)*n+(if u then y-1 else y)
theorem seg_sg{W H x y:Nat}{l u:Bool}(hx:1<=x∧x<2*W)(hy:(x+y)%2=1)(ok:okE (2*H) y u):OkW W H (x,y,if l then -1 else 1,if u then -1 else 1)∧segW H (x,y,if l then -1 else 1,if u then -1 else 1)=sgN x (2*H) y l u:=by
 have okw:OkW W H (x,y,if l then -1 else 1,if u then -1 else 1):=by
  unfold okE at ok
  refine⟨?_,?_,?_,?_,?_,?_,?_⟩<;>cases l<;>cases u<;>simp at ok ⊢<;>omega
 refine⟨okw,?_⟩
 have h1:=seg_cast okw
 have e1:minI (x:Int) (x+if l then -1 else 1)=((if l then x-1 else x:Nat):Int):=by
  rw[minI_one (by cases l<;>simp)]
  cases l<;>simp<;>omega
 have e2:minI (y:Int) (y+if u then -1 else 1)=((if u then y-1 else y:Nat):Int):=by
  unfold okE at ok
  rw[minI_one (by cases u<;>simp)]
  cases u<;>simp at ok ⊢<;>omega
 simp only at h1
 rw[e1,e2]at h1
 unfold sgN
 have e3:((2*H:Nat):Int)=2*(H:Int):=by omega
 rw[<-e3,<-Int.natCast_mul]at h1
 omega
theorem c42(h:Heap)(W H:Int)(s:Value)(x y pb qb:Nat)(l u:Bool)(w:1<=W∧W<=8)(hh:1<=H∧H<=8)(hx:1<=x∧x<2*W.toNat)(hy:(x+y)%2=1)(ok:okE (2*H.toNat) y u)(k1:h[pb]?=some ⟨[I W,I H,s],true⟩)(k2:h[qb]?=some ⟨[I x,I y],true⟩):ACall Gam 42 [I (if l then -1 else 1),I (if u then -1 else 1),pt pb 0,pt qb 0] h λr h'=>r=I (sgN x (2*H.toNat) y l u:Nat)∧h'=h:=by
 obtain⟨okw,es⟩:=seg_sg (l:=l) hx hy ok
 have c1:=cellsAt_all k1 rfl
 have c2:=cellsAt_all k2 rfl
 obtain⟨dx,edx⟩:∃dx:Int,dx=if l then -1 else 1:=⟨_,rfl⟩
 obtain⟨dy,edy⟩:∃dy:Int,dy=if u then -1 else 1:=⟨_,rfl⟩
 rw[<-edx,<-edy]at okw es ⊢
 rw[<-es]
 refine ACall_intro g42 rfl ?_
 unfold fn42
 simp only[List.length_cons,List.length_nil]at c1 c2
 simp(disch:=omega)[c1,c2]
 refine callW_of (c50 h W H s x y dx dy w hh okw) ?_
 rintro _ h1⟨rfl,rfl⟩
 try refine⟨λe=>(by cases e),?_⟩
 simp(disch:=omega)
abbrev DirB:=Bool×Bool
def prL(n y:Nat)(kd:Nat->Int):List (DirB×DirB):=
 if y=0 then[((true,false),(false,false))]else if y=n then[((true,true),(false,true))]
 else if kd y=1 then[((true,true),(true,false)),((false,true),(false,false))]
 else if kd y=2 then[((true,true),(false,true)),((true,false),(false,false))]
 else[((true,true),(false,false)),((false,true),(true,false))]
def prV(x n y:Nat)(ps:List (DirB×DirB)):List Value:=(ps.map λp=>[I (sgN x n y p.1.1 p.1.2:Nat),I (sgN x n y p.2.1 p.2.2:Nat)]).flatten
def endL(z:Bool)(a b:Int)(k:Nat):List Int:=if z then[a,b].take (k/2)else[a,b].take ((k+1)/2)
theorem ixA0:aIndex 1004002 (.agg #[I (-1),I (-1),I (-1),I 1,I 1,I (-1),I 1,I 1]) (I 0)=some (.agg #[I (-1),I (-1)]):=rfl
theorem ixA1:aIndex 1004002 (.agg #[I (-1),I (-1),I (-1),I 1,I 1,I (-1),I 1,I 1]) (I 1)=some (.agg #[I (-1),I 1]):=rfl
theorem ixA2:aIndex 1004002 (.agg #[I (-1),I (-1),I (-1),I 1,I 1,I (-1),I 1,I 1]) (I 2)=some (.agg #[I 1,I (-1)]):=rfl
theorem ixA3:aIndex 1004002 (.agg #[I (-1),I (-1),I (-1),I 1,I 1,I (-1),I 1,I 1]) (I 3)=some (.agg #[I 1,I 1]):=rfl
theorem inA0(a b:Int):indexNumV 1002001 (.agg #[I a,I b]) (I 0)=some (I 0):=rfl
theorem inA1(a b:Int):indexNumV 1002001 (.agg #[I a,I b]) (I 1)=some (I 1):=rfl
theorem agA0(a b:Int):aGet 0 (.agg #[I a,I b]) (I 0)=some (I a):=rfl
theorem agA1(a b:Int):aGet 0 (.agg #[I a,I b]) (I 1)=some (I b):=rfl
theorem two_pairs(h:Heap)(a b c d:Int):aBuildSlice 2 2 h [(0,.agg #[I 0,I 0,I 0,I 0]),(2,.agg #[I a,I b]),(2002,.agg #[I c,I d])]=some (sl h.length 0 2 2,h++[⟨[I a,I b,I c,I d],true⟩]):=by simp[aBuildSlice]
theorem one_pair(h:Heap)(a b:Int):aBuildSlice 2 1 h [(0,.agg #[I 0,I 0]),(2,.agg #[I a,I b])]=some (sl h.length 0 1 2,h++[⟨[I a,I b],true⟩]):=by simp[aBuildSlice]
theorem c41(h:Heap)(hp:0<h.length)(W H:Int)(br:List Int)(s:Value)(x y:Nat)(ok:OkP (W,H,br))(hr:Vr h shInts s br)(hx:1<=x∧x<2*W.toNat)(hy:(x+y)%2=1)(hyn:y<=2*H.toNat):ACall Gam 41 [.agg #[I W,I H,s],.agg #[I x,I y]] h λr h'=>Grows h h'∧Buf h h' r 2 (prV x (2*H.toNat) y (prL (2*H.toNat) y λj=>kindW W.toNat H.toNat br x j)):=by
 obtain⟨L,eL⟩:∃L,L=prL (2*H.toNat) y λj=>kindW W.toNat H.toNat br x j:=⟨_,rfl⟩
 rw[<-eL]
 unfold prL at eL
 have w8:=ok.w
 have h8:=ok.h
 simp only at w8 h8
 obtain⟨b2,o2,z2,rfl,_,hm,_,hc⟩:=hr.ints
 refine ACall_intro g41 rfl ?_
 unfold fn41
 rw[awp_seq,awp_reg]
 generalize hK:seqQ Gam _ _ 0=K
 simp(disch:=omega)
 obtain⟨pb,epb⟩:∃pb,pb=h.length:=⟨_,rfl⟩
 obtain⟨S,eS⟩:∃S,S=sl b2 o2 br.length z2:=⟨_,rfl⟩
 rw[<-eS]at hr ⊢
 obtain⟨h1,e1⟩:∃h1,h1=h++[⟨[I W,I H,S],true⟩,⟨[I x,I y],true⟩]:=⟨_,rfl⟩
 have g1:Grows h h1:=⟨_,e1⟩
 have k1:h1[pb]?=some ⟨[I W,I H,S],true⟩:=by rw[e1,epb];simp
 have k2:h1[pb+1]?=some ⟨[I x,I y],true⟩:=by rw[e1,epb];simp
 rw[<-e1,<-epb]
 subst hK
 simp only[seqQ_zero]
 rw[awp_seq,awp_reg]
 generalize hK:seqQ Gam _ _ 0=K
 simp(disch:=omega)[funcV,okFirst,scalar,isFn]
 subst hK
 simp only[seqQ_zero]
 have c1:=cellsAt_all k1 rfl
 have c2:=cellsAt_all k2 rfl
 simp only[List.length_cons,List.length_nil]at c1 c2
 obtain⟨n,en⟩:∃n,n=2*H.toNat:=⟨_,rfl⟩
 have c42':=λ(l u:Bool) (ok:okE (2*H.toNat) y u)=>c42 h1 W H S x y pb (pb+1) l u w8 h8 hx hy ok k1 k2
 simp only[<-en]at c42' eL hyn ⊢
 have hp1:=pos_of hp g1
 have hW:(W.toNat:Int)=W:=by omega
 have hH:(H.toNat:Int)=H:=by omega
 rw[awp_seq]
 generalize hK:seqQ Gam _ _=K
 simp(disch:=omega)[c1,c2]
 refine callW_of (c34 h1 W H x y S w8 h8) ?_
 rintro _ h2⟨rfl,rfl⟩
 try refine⟨λe=>(by cases e),?_⟩
 by_cases eb:y=0∨y=n
 ·have e0:edgeW W.toNat H.toNat (x:Int) (y:Int):=by unfold edgeW;omega
  simp(disch:=omega)[e0]
  have npos:2<=n:=by omega
  obtain⟨z,ez⟩:∃z:Bool,z=decide (y=0):=⟨_,rfl⟩
  have oku:okE n y (!z):=by
   unfold okE
   by_cases q:y=0
   ·have:z=true:=by rw[ez];simp[q]
    subst this;simp;omega
   ·have:z=false:=by rw[ez];simp[q]
    subst this;simp;omega
  obtain⟨A,eA⟩:∃A:Int,A=(sgN x n y true (!z):Nat):=⟨_,rfl⟩
  obtain⟨B',eB⟩:∃B':Int,B'=(sgN x n y false (!z):Nat):=⟨_,rfl⟩
  have a1:=c42' true (!z) oku
  have a2:=c42' false (!z) oku
  rw[<-eA]at a1
  rw[<-eB]at a2
  have eL2:prV x n y L=[I A,I B']:=by
   by_cases q:y=0
   ·have:z=true:=by rw[ez];simp[q]
    rw[if_pos q]at eL
    rw[eL,eA,eB,this]
    rfl
   ·have:z=false:=by rw[ez];simp[q]
    rw[if_neg q,if_pos (by omega)]at eL
    rw[eL,eA,eB,this]
    rfl
  refine awp_loop (λk σ h'=>k<=4∧Grows h2 h'∧Buf h2 h' (σ 6) 1 (ints (endL z A B' k))∧σ 2=pt pb 0∧σ 3=pt (pb+1) 0∧σ 5=.func (.func 42) #[] #[pt pb 0,pt (pb+1) 0]∧σ 22=.agg #[I (-1),I (-1),I (-1),I 1,I 1,I (-1),I 1,I 1]∧σ 23=I k) (λk=>4-k) 0 ?_ ?_
  ·refine⟨by omega,Grows.refl _,?_,by simp,by simp,by simp,by simp,by simp⟩
   have:endL z A B' 0=[]:=by cases z<;>rfl
   rw[this]
   simpa [ints]using Buf.nil
  ·rintro k σ h'⟨hk,hg,b6,q2,q3,q5,q22,q23⟩
   simp(disch:=omega)[q23]
   have d1:=hg.cellsAt c1
   have d2:=hg.cellsAt c2
   have dx0:cell h' (pb+1) 0=some (I x):=by have:=(cell_in (i:=0) d2 (by omega)).1;simpa using this
   have dx1:cell h' (pb+1) 1=some (I y):=by have:=(cell_in (i:=1) d2 (by omega)).1;simpa using this
   have i1:IntKind.i64.wrap ((x:Int)+-1)=x+-1:=wrap64 (by omega) (by omega)
   have i2:IntKind.i64.wrap ((x:Int)+1)=x+1:=wrap64 (by omega) (by omega)
   have i3:IntKind.i64.wrap ((y:Int)+-1)=y+-1:=wrap64 (by omega) (by omega)
   have i4:IntKind.i64.wrap ((y:Int)+1)=y+1:=wrap64 (by omega) (by omega)
   by_cases hlt:k<4
   ·have hks:k=0∨k=1∨k=2∨k=3:=by omega
    have hzy:(z=true∧y=0)∨(z=false∧y=n):=by
     by_cases q:y=0
     ·left;exact⟨by rw[ez];simp[q],q⟩
     ·right;exact⟨by rw[ez];simp[q],by omega⟩
    have w1:=λdx dy=>c36 h' W H dx dy S w8 h8
    have hen:∀k,endL z A B' k=if z then[A,B'].take (k/2)else[A,B'].take ((k+1)/2):=λ_=>rfl
    rcases hzy with⟨hz1,hz2⟩|⟨hz1,hz2⟩
    ·simp only[hz1,Bool.not_true,Bool.not_false]at oku eA eB b6 hen ⊢
     rcases hks with rfl|rfl|rfl|rfl
     ·simp(disch:=omega)[q2,q3,q5,q22,q23,d1,dx0,dx1,i1,i2,i3,i4,ixA0,inA0,inA1,agA0,agA1]
      refine callW_of (w1 _ _) ?_
      rintro _ h3⟨rfl,rfl⟩
      try refine⟨λe=>(by cases e),?_⟩
      have eq:ptQ W H ((x:Int)+-1) ((y:Int)+-1)=false:=by unfold ptQ;simp;omega
      rw[eq]
      have ee:endL true A B' 0=endL true A B' 1:=rfl
      rw[ee]at b6
      simp(disch:=omega)[q2,q3,q5,q22,q23,wrap64]
      refine⟨0+1,?_,by omega⟩
      and_intros<;>first|assumption|omega|rfl
     ·simp(disch:=omega)[q2,q3,q5,q22,q23,d1,dx0,dx1,i1,i2,i3,i4,ixA1,inA0,inA1,agA0,agA1]
      refine callW_of (w1 _ _) ?_
      rintro _ h3⟨rfl,rfl⟩
      try refine⟨λe=>(by cases e),?_⟩
      have eq:ptQ W H ((x:Int)+-1) ((y:Int)+1)=true:=by unfold ptQ;simp;omega
      rw[eq]
      have ac:=c42 h3 W H S x y pb (pb+1) true false w8 h8 hx hy (by rw[<-en];exact oku) (hg.at k1) (hg.at k2)
      simp only[if_true,if_false,Bool.false_eq_true]at ac
      rw[<-en,<-eA]at ac
      simp(disch:=omega)[q2,q3,q5,q22,q23,inA0,inA1,agA0,agA1]
      refine callW_of ac ?_
      rintro _ h4⟨rfl,rfl⟩
      try refine⟨λe=>(by cases e),?_⟩
      try simp(disch:=omega)
      refine app_int hp1 hg (by rw[hen];simp) b6 λv4 h5 g4 b4=>?_
      have ee:endL true A B' 1++[A]=endL true A B' 2:=rfl
      rw[ee]at b4
      simp(disch:=omega)[q2,q3,q5,q22,q23,wrap64]
      refine⟨1+1,?_,by omega⟩
      and_intros<;>first|assumption|omega|rfl
     ·simp(disch:=omega)[q2,q3,q5,q22,q23,d1,dx0,dx1,i1,i2,i3,i4,ixA2,inA0,inA1,agA0,agA1]
      refine callW_of (w1 _ _) ?_
      rintro _ h3⟨rfl,rfl⟩
      try refine⟨λe=>(by cases e),?_⟩
      have eq:ptQ W H ((x:Int)+1) ((y:Int)+-1)=false:=by unfold ptQ;simp;omega
      rw[eq]
      have ee:endL true A B' 2=endL true A B' 3:=rfl
      rw[ee]at b6
      simp(disch:=omega)[q2,q3,q5,q22,q23,wrap64]
      refine⟨2+1,?_,by omega⟩
      and_intros<;>first|assumption|omega|rfl
     ·simp(disch:=omega)[q2,q3,q5,q22,q23,d1,dx0,dx1,i1,i2,i3,i4,ixA3,inA0,inA1,agA0,agA1]
      refine callW_of (w1 _ _) ?_
      rintro _ h3⟨rfl,rfl⟩
      try refine⟨λe=>(by cases e),?_⟩
      have eq:ptQ W H ((x:Int)+1) ((y:Int)+1)=true:=by unfold ptQ;simp;omega
      rw[eq]
      have ac:=c42 h3 W H S x y pb (pb+1) false false w8 h8 hx hy (by rw[<-en];exact oku) (hg.at k1) (hg.at k2)
      simp only[if_true,if_false,Bool.false_eq_true]at ac
      rw[<-en,<-eB]at ac
      simp(disch:=omega)[q2,q3,q5,q22,q23,inA0,inA1,agA0,agA1]
      refine callW_of ac ?_
      rintro _ h4⟨rfl,rfl⟩
      try refine⟨λe=>(by cases e),?_⟩
      try simp(disch:=omega)
      refine app_int hp1 hg (by rw[hen];simp) b6 λv4 h5 g4 b4=>?_
      have ee:endL true A B' 3++[B']=endL true A B' 4:=rfl
      rw[ee]at b4
      simp(disch:=omega)[q2,q3,q5,q22,q23,wrap64]
      refine⟨3+1,?_,by omega⟩
      and_intros<;>first|assumption|omega|rfl
    ·simp only[hz1,Bool.not_true,Bool.not_false]at oku eA eB b6 hen ⊢
     rcases hks with rfl|rfl|rfl|rfl
     ·simp(disch:=omega)[q2,q3,q5,q22,q23,d1,dx0,dx1,i1,i2,i3,i4,ixA0,inA0,inA1,agA0,agA1]
      refine callW_of (w1 _ _) ?_
      rintro _ h3⟨rfl,rfl⟩
      try refine⟨λe=>(by cases e),?_⟩
      have eq:ptQ W H ((x:Int)+-1) ((y:Int)+-1)=true:=by unfold ptQ;simp;omega
      rw[eq]
      have ac:=c42 h3 W H S x y pb (pb+1) true true w8 h8 hx hy (by rw[<-en];exact oku) (hg.at k1) (hg.at k2)
      simp only[if_true,if_false,Bool.false_eq_true]at ac
      rw[<-en,<-eA]at ac
      simp(disch:=omega)[q2,q3,q5,q22,q23,inA0,inA1,agA0,agA1]
      refine callW_of ac ?_
      rintro _ h4⟨rfl,rfl⟩
      try refine⟨λe=>(by cases e),?_⟩
      try simp(disch:=omega)
      refine app_int hp1 hg (by rw[hen];simp) b6 λv4 h5 g4 b4=>?_
      have ee:endL false A B' 0++[A]=endL false A B' 1:=rfl
      rw[ee]at b4
      simp(disch:=omega)[q2,q3,q5,q22,q23,wrap64]
      refine⟨0+1,?_,by omega⟩
      and_intros<;>first|assumption|omega|rfl
     ·simp(disch:=omega)[q2,q3,q5,q22,q23,d1,dx0,dx1,i1,i2,i3,i4,ixA1,inA0,inA1,agA0,agA1]
      refine callW_of (w1 _ _) ?_
      rintro _ h3⟨rfl,rfl⟩
      try refine⟨λe=>(by cases e),?_⟩
      have eq:ptQ W H ((x:Int)+-1) ((y:Int)+1)=false:=by unfold ptQ;simp;omega
      rw[eq]
      have ee:endL false A B' 1=endL false A B' 2:=rfl
      rw[ee]at b6
      simp(disch:=omega)[q2,q3,q5,q22,q23,wrap64]
      refine⟨1+1,?_,by omega⟩
      and_intros<;>first|assumption|omega|rfl
     ·simp(disch:=omega)[q2,q3,q5,q22,q23,d1,dx0,dx1,i1,i2,i3,i4,ixA2,inA0,inA1,agA0,agA1]
      refine callW_of (w1 _ _) ?_
      rintro _ h3⟨rfl,rfl⟩
      try refine⟨λe=>(by cases e),?_⟩
      have eq:ptQ W H ((x:Int)+1) ((y:Int)+-1)=true:=by unfold ptQ;simp;omega
      rw[eq]
      have ac:=c42 h3 W H S x y pb (pb+1) false true w8 h8 hx hy (by rw[<-en];exact oku) (hg.at k1) (hg.at k2)
      simp only[if_true,if_false,Bool.false_eq_true]at ac
      rw[<-en,<-eB]at ac
      simp(disch:=omega)[q2,q3,q5,q22,q23,inA0,inA1,agA0,agA1]
      refine callW_of ac ?_
      rintro _ h4⟨rfl,rfl⟩
      try refine⟨λe=>(by cases e),?_⟩
      try simp(disch:=omega)
      refine app_int hp1 hg (by rw[hen];simp) b6 λv4 h5 g4 b4=>?_
      have ee:endL false A B' 2++[B']=endL false A B' 3:=rfl
      rw[ee]at b4
      simp(disch:=omega)[q2,q3,q5,q22,q23,wrap64]
      refine⟨2+1,?_,by omega⟩
      and_intros<;>first|assumption|omega|rfl
     ·simp(disch:=omega)[q2,q3,q5,q22,q23,d1,dx0,dx1,i1,i2,i3,i4,ixA3,inA0,inA1,agA0,agA1]
      refine callW_of (w1 _ _) ?_
      rintro _ h3⟨rfl,rfl⟩
      try refine⟨λe=>(by cases e),?_⟩
      have eq:ptQ W H ((x:Int)+1) ((y:Int)+1)=false:=by unfold ptQ;simp;omega
      rw[eq]
      have ee:endL false A B' 3=endL false A B' 4:=rfl
      rw[ee]at b6
      simp(disch:=omega)[q2,q3,q5,q22,q23,wrap64]
      refine⟨3+1,?_,by omega⟩
      and_intros<;>first|assumption|omega|rfl
   ·have:k=4:=by omega
    subst this
    have ee:endL z A B' 4=[A,B']:=by cases z<;>rfl
    rw[ee]at b6
    obtain⟨bb,e6⟩:=b6.sl1
    rw[e6]at b6
    have y1:=b6.at1 (i:=0) (by simp[ints])
    have y2:=b6.at1 (i:=1) (by simp[ints])
    simp[ints]at y1 y2 e6
    simp(disch:=omega)
    simp(disch:=omega)[e6,y1,y2]
    rw[one_pair]
    simp only[bindW_some]
    subst hK
    try simp(disch:=omega)
    rw[eL2]
    exact⟨(g1.trans hg).trans ⟨_,rfl⟩,.inr ⟨h'.length,1,rfl,rfl,(g1.trans hg).le,by simp⟩⟩
 ·have e0:¬edgeW W.toNat H.toNat (x:Int) (y:Int):=by unfold edgeW;omega
  have ok1:okE n y true:=by unfold okE;simp;omega
  have ok2:okE n y false:=by unfold okE;simp;omega
  have a1:=c42' true true ok1
  have a2:=c42' true false ok2
  have a3:=c42' false true ok1
  have a4:=c42' false false ok2
  simp only[if_true,if_false,Bool.false_eq_true]at a1 a2 a3 a4
  simp(disch:=omega)[e0]
  subst hK
  simp only[seqQ_zero]
  rw[awp_seq,awp_reg]
  generalize hK:seqQ Gam _ _ 0=K
  simp(disch:=omega)
  refine callW_of a1 ?_
  rintro _ h3⟨rfl,rfl⟩
  try refine⟨λe=>(by cases e),?_⟩
  try simp(disch:=omega)
  refine callW_of a2 ?_
  rintro _ h4⟨rfl,rfl⟩
  try refine⟨λe=>(by cases e),?_⟩
  try simp(disch:=omega)
  refine callW_of a3 ?_
  rintro _ h5⟨rfl,rfl⟩
  try refine⟨λe=>(by cases e),?_⟩
  try simp(disch:=omega)
  refine callW_of a4 ?_
  rintro _ h6⟨rfl,rfl⟩
  try refine⟨λe=>(by cases e),?_⟩
  try simp(disch:=omega)
  subst hK
  simp only[seqQ_zero]
  rw[if_neg (by omega),if_neg (by omega)]at eL
  have hk:=numP_lt (W:=W.toNat) (H:=H.toNat) (x:=x) (y:=y) (by omega) (by omega) (by omega)
  have hrow:=ok.row
  simp only at hrow
  have ekd:kindW W.toNat H.toNat br (x:Int) (y:Int)=br[numP W.toNat x y]:=by
   unfold kindW
   rw[if_neg e0]
   simp only[Int.toNat_natCast]
   exact at0_of (by rw[hrow];exact hk)
  have hcb:=ints_cell (hc.imp id (grows_cellsAt g1)) (show numP W.toNat x y<br.length by rw[hrow];exact hk)
  have cs:=cell_in (i:=2) c1 (by omega)
  have hnl:numP W.toNat x y<br.length:=by rw[hrow];exact hk
  rw[<-ekd]at hcb
  obtain⟨kd,ekd2⟩:∃kd,kd=kindW W.toNat H.toNat br (x:Int) (y:Int):=⟨_,rfl⟩
  simp only[<-ekd2]at hcb eL
  have c40':=c40 h6 W.toNat H.toNat x y S (by omega) (by omega) (by omega) (by omega) hy
  rw[hW,hH]at c40'
  rw[awp_seq]
  generalize hK:seqQ Gam _ _=K
  have cs2:cell h6 pb 2=some (sl b2 o2 br.length z2):=by rw[<-eS];exact cs.1
  simp(disch:=omega)[c1,c2,cs2]
  refine callW_of c40' ?_
  rintro _ h7⟨rfl,rfl⟩
  try refine⟨λe=>(by first|exact Grows.refl _|cases e),?_⟩
  have buf2:∀a b c d:Int,Buf h (h7++[⟨[I a,I b,I c,I d],true⟩]) (sl h7.length 0 2 2) 2 [I a,I b,I c,I d]:=λa b c d=>
   .inr ⟨h7.length,2,rfl,rfl,g1.le,by simp⟩
  by_cases q1:kd=1
  ·rw[if_pos q1]at eL
   subst eL
   simp(disch:=omega)[hnl,hcb,q1]
   subst hK
   simp(disch:=omega)
   rw[two_pairs]
   simp only[bindW_some]
   exact⟨g1.trans ⟨_,rfl⟩,buf2 _ _ _ _⟩
  ·rw[if_neg q1]at eL
   by_cases q2:kd=2
   ·rw[if_pos q2]at eL
    subst eL
    simp(disch:=omega)[hnl,hcb,q1,q2]
    subst hK
    simp(disch:=omega)
    rw[two_pairs]
    simp only[bindW_some]
    exact⟨g1.trans ⟨_,rfl⟩,buf2 _ _ _ _⟩
   ·rw[if_neg q2]at eL
    subst eL
    simp(disch:=omega)[hnl,hcb,q1,q2]
    subst hK
    simp(disch:=omega)
    rw[two_pairs]
    simp only[bindW_some]
    exact⟨g1.trans ⟨_,rfl⟩,buf2 _ _ _ _⟩
noncomputable def outP(L K:List Nat)(n k:Nat):List Nat:=(List.range n).map λi=>if i<k then endP L K n i else 0
theorem outP_len{L K:List Nat}{n k:Nat}:(outP L K n k).length=n:=by simp[outP]
theorem outP_zero{L K:List Nat}{n:Nat}:outP L K n 0=List.replicate n 0:=by
 apply List.ext_getElem<;>simp[outP]
theorem outP_all{L K:List Nat}{n:Nat}:outP L K n n=outL L K n:=by
 unfold outP outL
 apply List.map_congr_left
 intro i hi
 rw[if_pos (List.mem_range.1 hi)]
theorem outP_set{L K:List Nat}{n k:Nat}(hk:k<n):(natI (outP L K n k)).set k ((endP L K n k:Nat):Int)=natI (outP L K n (k+1)):=by
 apply List.ext_getElem
 ·simp[natI,outP]
 ·intro i h1 h2
  simp[natI,outP,List.getElem_set]
  by_cases e:k=i
  ·subst e;simp
  ·rw[if_neg e]
   by_cases q:i<k
   ·rw[if_pos q,if_pos (by omega)]
   ·rw[if_neg q,if_neg (by omega)]
theorem sgN_parts{x n y:Nat}{l u:Bool}(ok:okE n y u):∃c r,sgN x n y l u=c*n+r∧r<n∧c=(if l then x-1 else x)∧r=(if u then y-1 else y):=by
 refine⟨_,_,rfl,?_,rfl,rfl⟩
 unfold okE at ok
 cases u<;>simp at ok ⊢<;>omega
theorem divN{n c r:Nat}(hr:r<n):Int.tdiv ((c*n+r:Nat):Int) n=c∧Int.tmod ((c*n+r:Nat):Int) n=r:=by
 have hn:0<n:=by omega
 rw[Int.tdiv_eq_ediv_of_nonneg (by omega),Int.tmod_eq_emod_of_nonneg (by omega),<-Int.natCast_ediv,<-Int.natCast_emod]
 rw[Nat.add_comm,Nat.add_mul_div_right _ _ hn,Nat.div_eq_of_lt hr,Nat.zero_add,Nat.add_mul_mod_self_right,Nat.mod_eq_of_lt hr]
 exact⟨rfl,rfl⟩
theorem c44(h:Heap)(x y n nb xb lb:Nat)(l u left:Bool)(hn:1<=n∧n<=16)(hx:1<=x∧x<=16)(ok:okE n y u)(k1:cell h nb 0=some (I n))(k2:cell h xb 0=some (I x))(k3:cell h lb 0=some (B left)):ACall Gam 44 [I (sgN x n y l u:Nat),pt nb 0,pt xb 0,pt lb 0] h λr h'=>r=I (ixE n (l==left) u y:Nat)∧h'=h:=by
 obtain⟨c,r,e,hr,ec,er⟩:=sgN_parts (x:=x) (l:=l) ok
 obtain⟨d1,d2⟩:=divN (c:=c) hr
 obtain⟨A,eA⟩:∃A,A=ixE n (l==left) u y:=⟨_,rfl⟩
 rw[<-eA,e]
 unfold ixE at eA
 have hc:c<=16:=by rw[ec];split<;>omega
 have w1:IntKind.i64.wrap (c:Int)=c:=wrap64 (by omega) (by omega)
 have w2:IntKind.i64.wrap ((n:Int)+r)=n+r:=wrap64 (by omega) (by omega)
 have hne:¬n=0:=by omega
 rw[<-er]at eA
 refine ACall_intro g44 rfl ?_
 unfold fn44
 obtain⟨S,eS⟩:∃S:Int,S=((c*n+r:Nat):Int):=⟨_,rfl⟩
 rw[<-eS]at d1 d2 ⊢
 simp(disch:=omega)[k1,k2,k3,d1,d2,w1,w2,hne]
 cases l
 ·have q:¬c<x:=by rw[ec];simp
  cases left
  ·have:A=r:=by rw[eA];simp
   simp(disch:=omega)[q,this]
  ·have:(A:Int)=n+r:=by rw[eA];simp
   simp(disch:=omega)[q,this,k1,w2]
 ·have q:c<x:=by rw[ec];simp;omega
  cases left
  ·have:(A:Int)=n+r:=by rw[eA];simp
   simp(disch:=omega)[q,this,k1,w2]
  ·have:A=r:=by rw[eA];simp
   simp(disch:=omega)[q,this]
/-- The pairs of a point, by the numbers beside it. -/
def prX(n y:Nat)(left:Bool)(p:DirB×DirB):Nat×Nat:=(ixE n (p.1.1==left) p.1.2 y,ixE n (p.2.1==left) p.2.2 y)
theorem prL_ok{n y:Nat}{kd:Nat->Int}(hn:2<=n)(hy:y<=n):∀p∈prL n y kd,okE n y p.1.2∧okE n y p.2.2:=by
 unfold prL okE
 split
 ·rename_i h;simp;omega
 ·split
  ·simp;omega
  ·split
   ·simp;omega
   ·split<;>simp<;>omega
theorem prX_ok{x n y:Nat}{kd:Nat->Int}{left:Bool}(hn:2<=n)(hy:y<=n)(hp:(x+y)%2=1)(h0:kd 0=0)(hnn:kd n=0):∀p∈prL n y kd,PairOk x n kd (prX n y left p)∧y0E x n (prX n y left p).1=y:=by
 intro p hm
 obtain⟨o1,o2⟩:=prL_ok hn hy p hm
 obtain⟨i1,i2,i3,i4⟩:=ix_facts (s:=(p.1.1==left)) hp o1
 refine⟨⟨i1,?_⟩,i3⟩
 unfold prX
 simp only
 rw[lk_ix hp o1]
 have key:tsE kd y (p.1.1==left)=(p.2.1==left)∧tuE n kd y p.1.2=p.2.2:=by
  clear i1 i2 i3 i4 o1 o2
  unfold prL at hm
  unfold tsE tuE
  split at hm
  ·rename_i q
   simp at hm;subst hm;subst q
   cases left<;>simp[h0]
  ·split at hm
   ·rename_i q
    simp at hm;subst hm;subst q
    cases left<;>simp[hnn]
   ·split at hm
    ·rename_i q1 q2 q
     simp at hm
     rcases hm with rfl|rfl<;>cases left<;>simp[q,q1,q2]
    ·split at hm
     ·rename_i q1 q2 _ q
      simp at hm
      rcases hm with rfl|rfl<;>cases left<;>simp[q]
     ·rename_i q1 q2 q3 q4
      simp at hm
      rcases hm with rfl|rfl<;>cases left<;>simp[q1,q2,q3,q4]
 rw[key.1,key.2]
theorem prX_all{x n y:Nat}{kd:Nat->Int}{left:Bool}(hn:2<=n):∀i,i<2*n->y0E x n i=y->InP ((prL n y kd).map (prX n y left)) i:=by
 intro i hi e
 obtain⟨a,b,c,d⟩:=ix_all (x:=x) hi
 rw[e]at a b c d
 obtain⟨s,es⟩:∃s,s=sdE n i:=⟨_,rfl⟩
 obtain⟨u,eu⟩:∃u,u=upE x n i:=⟨_,rfl⟩
 rw[<-es,<-eu]at c
 rw[<-eu]at b
 rw[<-c]
 clear c e es eu hi
 unfold okE at b
 unfold InP prL prX
 split
 ·rename_i q
  have:u=false:=by cases u<;>simp at b ⊢;omega
  subst this
  refine⟨_,by simp only[List.map_cons,List.mem_cons];exact .inl rfl,?_⟩
  cases s<;>cases left<;>simp
 ·split
  ·rename_i q
   have:u=true:=by cases u<;>simp at b ⊢;omega
   subst this
   refine⟨_,by simp only[List.map_cons,List.mem_cons];exact .inl rfl,?_⟩
   cases s<;>cases left<;>simp
  ·split
   ·cases s<;>cases left<;>cases u<;>simp
   ·split
    ·cases s<;>cases left<;>cases u<;>simp
    ·cases s<;>cases left<;>cases u<;>simp
def tail43:Code:=match fn43.code with
 |.seq _ (.seq _ (.seq _ (.seq _ (.seq _ t))))=>t
 |_=>.skip
theorem c43t(h0 h:Heap)(hg0:Grows h0 h)(hp:0<h.length)(σ:Nat->Value)(L K:List Nat)(n kb ko ky nb lb:Nat)(hL:Invo L (2*n))(hK:Invo K n)(hn:n<=32)(ca0:cellsAt h lb 0 (2*n)=some (ints (natI L)))(cb0:n=0∨cellsAt h kb ko n=some (ints (natI K)))(hc:cell h nb 0=some (I n))(s2:σ 2=sl kb ko n ky)(s10:σ 10=pt nb 0)(s11:σ 11=sl lb 0 (2*n) 1):
  awp Gam tail43 (retQ [(8,0),(9,0)] λr h'=>Grows h0 h'∧∃w,r=.tuple #[w,I ((passN L K n).2:Nat)]∧Buf h0 h' w 1 (ints (natI (passN L K n).1))) σ h:=by
 have caL:∀h',Grows h h'->∀k,k<2*n->cell h' lb k=some (I (L.getD k 0)):=λh' g k hk=>by
  have:=natI_cell (k:=k) (h:=h') (b:=lb) (o:=0) (l:=L) (.inr (by rw[hL.len];exact g.cellsAt ca0)) (by rw[hL.len];exact hk)
  simpa using this
 have cbK:∀h',Grows h h'->∀k,k<n->cell h' kb (ko+k)=some (I (K.getD k 0)):=λh' g k hk=>natI_cell (by rw[hK.len];exact cb0.imp id λe=>g.cellsAt e) (by rw[hK.len];exact hk)
 have hend:=λk hk=>endM_to hL hK (k:=k) hk
 have g0:=seen1_good hL hK
 have hok:=λk hk=>lpN_ok hK g0 k hk
 have hs:∀k,lpN (stp L K) K (seen1 L K n n) (k+1)=if(lpN (stp L K) K (seen1 L K n n) k).1.getD k false then lpN (stp L K) K (seen1 L K n n) k else(lpS (stp L K) K (lpN (stp L K) K (seen1 L K n n) k).1 k (lpM (stp L K) K (lpN (stp L K) K (seen1 L K n n) k).1 k),(lpN (stp L K) K (seen1 L K n n) k).2+1):=λ_=>rfl
 have hs0:lpN (stp L K) K (seen1 L K n n) 0=(seen1 L K n n,0):=rfl
 have eR1:(passN L K n).1=outP L K n n:=outP_all.symm
 have eR2:(passN L K n).2=(lpN (stp L K) K (seen1 L K n n) n).2:=rfl
 rw[eR1,eR2]
 obtain⟨F,eF⟩:∃F,F=lpN (stp L K) K (seen1 L K n n):=⟨_,rfl⟩
 simp only[<-eF]at hs hs0 hok ⊢
 dsimp only[tail43,fn43]
 rw[awp_seq,awp_reg]
 generalize hQ:seqQ Gam _ _ 0=Q
 simp(disch:=omega)[s10,hc]
 rw[make_zs (by omega)]
 simp only[bindW_some]
 obtain⟨ob,eob⟩:∃ob,ob=h.length:=⟨_,rfl⟩
 obtain⟨h1,e1⟩:∃h1,h1=h++[⟨ints (List.replicate n 0),true⟩]:=⟨_,rfl⟩
 rw[<-e1,<-eob]
 have g1:Grows h h1:=⟨_,e1⟩
 have k1:h1[ob]?=some ⟨ints (List.replicate n 0),true⟩:=by rw[e1,eob];simp
 have l1:h1.length=ob+1:=by rw[e1,eob];simp
 have hc1:=g1.cell hc
 try simp(disch:=omega)[s10,hc1]
 rw[make_bools _ _ (by omega)]
 simp only[bindW_some]
 obtain⟨sb,esb⟩:∃sb,sb=ob+1:=⟨_,rfl⟩
 rw[l1,<-esb]
 obtain⟨h2,e2⟩:∃h2,h2=h1++[⟨bools (List.replicate n false),true⟩]:=⟨_,rfl⟩
 rw[<-e2]
 have g2:Grows h h2:=g1.trans ⟨_,e2⟩
 have k2:h2[sb]?=some ⟨bools (List.replicate n false),true⟩:=by rw[e2,esb,<-l1];simp
 have k1:h2[ob]?=some ⟨ints (natI (outP L K n 0)),true⟩:=by
  rw[outP_zero,e2,List.getElem?_append_left (by omega),k1]
  simp[natI]
 have eso:ob≠sb:=by omega
 have ols:h.length<=sb:=by omega
 have olo:h.length<=ob:=by omega
 try simp(disch:=omega)
 subst hQ
 simp only[seqQ_zero]
 have hc2:=g2.cell hc
 rw[awp_seq]
 generalize hP:seqQ Gam _ _=PP
 simp(disch:=omega)[s10,hc2]
 refine awp_loop (λk σ h'=>k<=n∧Grows h h'∧h'[ob]?=some ⟨ints (natI (outP L K n k)),true⟩∧h'[sb]?=some ⟨bools (seen1 L K n k),true⟩∧σ 2=sl kb ko n ky∧σ 10=pt nb 0∧σ 11=sl lb 0 (2*n) 1∧σ 18=sl ob 0 n 1∧σ 19=sl sb 0 n 1∧σ 71=I n∧σ 72=I k) (λk=>n-k) 0 ?_ ?_
 ·exact⟨by omega,g2,k1,k2,by simpa using s2,by simpa using s10,by simpa using s11,by simp,by simp,by simp,by simp⟩
 ·rintro k σ h'⟨hk,hg,hO,hS,q2,q10,q11,q18,q19,q71,q72⟩
  simp(disch:=omega)[q71,q72]
  refine fork_dec (λhlt=>?_) (λhge=>?_)
  ·have k1:k<n:=by omega
   obtain⟨q,eq⟩:∃q,q=n+k:=⟨_,rfl⟩
   have w2n:IntKind.i64.wrap ((n:Int)+k)=q:=by rw[wrap64 (by omega) (by omega)];omega
   obtain⟨_,pt1⟩:=hend k k1
   have hsn:=seen1_ok hL hK k (by omega)
   have hmk:=λi hi=>markP_ok hL hK k1 hsn i hi
   have hpl:=λi (hi:i<=endM L K n k)=>path_lt hL hK k1 i λj hj=>pt1.2 j (by omega)
   have es1:seen1 L K n (k+1)=markP L K n k (seen1 L K n k) (endM L K n k):=rfl
   have eep:endP L K n k=pathN L K n k (endM L K n k)-n:=rfl
   have eos:=outP_set (L:=L) (K:=K) k1
   obtain⟨m,em⟩:∃m,m=endM L K n k:=⟨_,rfl⟩
   simp only[<-em]at pt1 hmk hpl es1 eep
   have cl0:=caL h' hg q (by omega)
   have hcn:=hg.cell hc
   have kk2:q<2*n:=by omega
   have kk3:(q:Int)<2*(n:Int):=by omega
   have ep0:L.getD q 0=pathN L K n k 0:=by rw[eq];rfl
   rw[ep0]at cl0
   simp(disch:=omega)[q10,q11,q72,hcn,w2n,cl0,kk2,kk3]
   refine awp_loop (λi τ hh=>i<=m∧Grows h hh∧hh[ob]?=some ⟨ints (natI (outP L K n k)),true⟩∧hh[sb]?=some ⟨bools (markP L K n k (seen1 L K n k) i),true⟩∧τ 2=sl kb ko n ky∧τ 10=pt nb 0∧τ 11=sl lb 0 (2*n) 1∧τ 18=sl ob 0 n 1∧τ 19=sl sb 0 n 1∧τ 71=I n∧τ 72=I k∧τ 20=I k∧τ 21=I ((pathN L K n k i:Nat):Int)) (λi=>m-i) 0 ?_ ?_
   ·exact⟨by omega,hg,hO,hS,by simpa using q2,by simpa using q10,by simpa using q11,by simpa using q18,by simpa using q19,by simpa using q71,by simpa using q72,by simp,by simp⟩
   rintro i τ hh⟨hi,gi,hOi,hSi,t2,t10,t11,t18,t19,t71,t72,t20,t21⟩
   have hml:=(hmk i hi).len
   have ha2:=hpl i hi
   have hci:=gi.cell hc
   have enx:stp L K (pathN L K n k i)=pathN L K n k (i+1):=rfl
   have emk:markW K (markP L K n k (seen1 L K n k) i) (pathN L K n k i)=markP L K n k (seen1 L K n k) (i+1):=rfl
   by_cases him:i<m
   ·have ha:=pt1.2 i him
    obtain⟨a,ea⟩:∃a,a=pathN L K n k i:=⟨_,rfl⟩
    rw[<-ea]at ha t21 enx emk
    have hKa:=hK.lt a ha
    have hLa:=hL.lt _ (show K.getD a 0<2*n by omega)
    have eta:stp L K a=L.getD (K.getD a 0) 0:=rfl
    obtain⟨h3,h4,s1,s2,hS4,l3,l4,f3,f4⟩:=mark_store (K:=K) hSi hml ha hKa
    have g3:=grows_same gi ols l3 f3
    have g4:=grows_same gi ols l4 f4
    have c0:=cbK hh gi a ha
    have c2:=cbK h4 g4 a ha
    have c3:=caL h4 g4 _ (show K.getD a 0<2*n by omega)
    have hO4:=hOi
    rw[<-f4 ob eso]at hO4
    obtain⟨x,ex⟩:∃x,x=K.getD a 0:=⟨_,rfl⟩
    rw[<-ex]at hKa hLa eta s2 c0 c2 c3
    rw[emk]at hS4
    rw[<-eta,enx]at c3
    have hKa2:x<2*n:=by omega
    have hKa3:(x:Int)<2*(n:Int):=by omega
    simp(disch:=omega)[t2,t10,t11,t19,t21,hci,ha,s1,s2,c0,c2,c3,hKa,hKa2,hKa3]
    refine⟨i+1,?_,by omega⟩
    and_intros<;>first|assumption|omega|rfl
   ·have:i=m:=by omega
    subst this
    have ha:=pt1.1
    obtain⟨a,ea⟩:∃a,a=pathN L K n k i:=⟨_,rfl⟩
    rw[<-ea]at ha t21 ha2 eep
    have na:¬a<n:=by omega
    have w3:IntKind.i64.wrap ((a:Int)-n)=((a-n:Nat):Int):=by rw[wrap64 (by omega) (by omega)];omega
    have st:=ints_store (x:=((a-n:Nat):Int)) hOi (k:=k) (by rw[natI_len,outP_len];exact k1)
    rw[<-eep,eos]at st
    rw[<-eep]at w3
    obtain⟨h3,e3⟩:∃h3,h3=hh.set ob ⟨ints (natI (outP L K n (k+1))),true⟩:=⟨_,rfl⟩
    rw[<-e3]at st
    have g3:Grows h h3:=by rw[e3];exact gi.put olo _
    have o3:h3[ob]?=some ⟨ints (natI (outP L K n (k+1))),true⟩:=by rw[e3];exact blk_set hOi
    have s3:h3[sb]?=some ⟨bools (seen1 L K n (k+1)),true⟩:=by rw[e3,List.getElem?_set_ne eso,es1];exact hSi
    simp(disch:=omega)[t10,t21,na,hci]
    simp(disch:=omega)[t10,t18,t20,t21,hci,w3,k1,st]
    try simp(disch:=omega)[t72,wrap64]
    refine⟨k+1,?_,by omega⟩
    and_intros<;>first|assumption|omega|rfl|(congr 1;omega)
  ·have:k=n:=by omega
   subst this
   simp(disch:=omega)
   subst hP
   simp only[seqQ_zero]
   rw[awp_seq,awp_reg]
   generalize hQ:seqQ Gam _ _ 0=Q
   simp(disch:=omega)
   subst hQ
   simp only[seqQ_zero]
   have hcn:=hg.cell hc
   rw[awp_seq]
   generalize hP:seqQ Gam _ _=PP
   simp(disch:=omega)[q10,hcn]
   refine awp_loop (λj σ h'=>j<=k∧Grows h h'∧h'[ob]?=some ⟨ints (natI (outP L K k k)),true⟩∧h'[sb]?=some ⟨bools (F j).1,true⟩∧σ 2=sl kb ko k ky∧σ 11=sl lb 0 (2*k) 1∧σ 18=sl ob 0 k 1∧σ 19=sl sb 0 k 1∧σ 22=I ((F j).2:Nat)∧σ 107=I k∧σ 108=I j) (λj=>k-j) 0 ?_ ?_
   ·exact⟨by omega,hg,hO,by rw[hs0];exact hS,by simpa using q2,by simpa using q11,by simpa using q18,by simpa using q19,by rw[hs0];simp,by simp,by simp⟩
   rintro j σ h'⟨hj,hg,hO,hS,q2,q11,q18,q19,q22,q107,q108⟩
   simp(disch:=omega)[q107,q108]
   refine fork_dec (λhlt=>?_) (λhge=>?_)
   ·have j1:j<k:=by omega
    obtain⟨gm,hcb⟩:=hok j (by omega)
    have hsk:=hs j
    have csk:=bool_cell hS (k:=j) (by rw[gm.len];exact j1)
    obtain⟨S,eS⟩:∃S,S=(F j).1:=⟨_,rfl⟩
    obtain⟨c,ec⟩:∃c,c=(F j).2:=⟨_,rfl⟩
    rw[<-eS]at gm hS hsk csk
    rw[<-ec]at hcb q22 hsk
    cases esn:S.getD j false
    ·rw[esn]at hsk
     simp only[Bool.false_eq_true,if_false]at hsk
     obtain⟨m,em⟩:∃m,m=lpM (stp L K) K S j:=⟨_,rfl⟩
     have lt:=lpM_to hK gm j1
     rw[<-em]at lt hsk
     have lg:=λi (hi:i<=m)=>lp_good hK gm j1 i (λj hj=>lt.2 j (by omega))
     have ceq:cell h' sb j=some (Am.B false):=by rw[csk,esn]
     simp(disch:=omega)[q19,q22,q108,j1,ceq,wrap64]
     refine awp_loop (λi τ hh=>i<=m∧Grows h hh∧hh[ob]?=some ⟨ints (natI (outP L K k k)),true⟩∧hh[sb]?=some ⟨bools (lpS (stp L K) K S j i),true⟩∧τ 2=sl kb ko k ky∧τ 11=sl lb 0 (2*k) 1∧τ 18=sl ob 0 k 1∧τ 19=sl sb 0 k 1∧τ 22=I ((c+1:Nat):Int)∧τ 107=I k∧τ 108=I j∧τ 24=I ((itW (stp L K) i j:Nat):Int)) (λi=>m-i) 0 ?_ ?_
     ·refine⟨by omega,hg,hO,hS,by simpa using q2,by simpa using q11,by simpa using q18,by simpa using q19,?_,by simpa using q107,by simpa using q108,by simp[itW]⟩
      simp
      try omega
     rintro i τ hh⟨hi,gi,hOi,hSi,t2,t11,t18,t19,t22,t107,t108,t24⟩
     obtain⟨gmi,ha,_⟩:=lg i hi
     have csi:=bool_cell hSi (k:=itW (stp L K) i j) (by rw[gmi.len];exact ha)
     have enx:stp L K (itW (stp L K) i j)=itW (stp L K) (i+1) j:=rfl
     have emk:markW K (lpS (stp L K) K S j i) (itW (stp L K) i j)=lpS (stp L K) K S j (i+1):=rfl
     obtain⟨a,ea⟩:∃a,a=itW (stp L K) i j:=⟨_,rfl⟩
     rw[<-ea]at ha csi t24 enx emk
     by_cases him:i<m
     ·have hu:=lt.2 i him
      rw[<-ea]at hu
      rw[hu]at csi
      have hKa:=hK.lt a ha
      have eta:stp L K a=L.getD (K.getD a 0) 0:=rfl
      obtain⟨h3,h4,s1,s2,hS4,l3,l4,f3,f4⟩:=mark_store (K:=K) hSi gmi.len ha hKa
      have g3:=grows_same gi ols l3 f3
      have g4:=grows_same gi ols l4 f4
      have c0:=cbK hh gi a ha
      have c2:=cbK h4 g4 a ha
      have c3:=caL h4 g4 _ (show K.getD a 0<2*k by omega)
      have hO4:=hOi
      rw[<-f4 ob eso]at hO4
      obtain⟨x,ex⟩:∃x,x=K.getD a 0:=⟨_,rfl⟩
      rw[<-ex]at hKa eta s2 c0 c2 c3
      rw[emk]at hS4
      rw[<-eta,enx]at c3
      have hKa2:x<2*k:=by omega
      have hKa3:(x:Int)<2*(k:Int):=by omega
      simp(disch:=omega)[t2,t11,t19,t24,ha,csi,s1,s2,c0,c2,c3,hKa,hKa2,hKa3]
      refine⟨i+1,?_,by omega⟩
      and_intros<;>first|assumption|omega|rfl
     ·have:i=m:=by omega
      subst this
      have hu:=lt.1
      rw[<-ea]at hu
      rw[hu]at csi
      simp(disch:=omega)[t19,t24,ha,csi]
      simp(disch:=omega)[t108,wrap64]
      refine⟨j+1,?_,by omega⟩
      rw[hsk]
      and_intros<;>first|assumption|omega|rfl
    ·rw[esn]at hsk
     simp only[if_true]at hsk
     have ceq:cell h' sb j=some (Am.B true):=by rw[csk,esn]
     simp(disch:=omega)[q19,q108,j1,ceq,wrap64]
     refine⟨j+1,?_,by omega⟩
     rw[hsk,<-eS,<-ec]
     and_intros<;>first|assumption|omega|rfl
   ·have:j=k:=by omega
    subst this
    simp(disch:=omega)
    subst hP
    simp(disch:=omega)[q18,q22]
    exact⟨hg0.trans hg,.inr ⟨ob,j,rfl,by simp[ints,natI,outP],by have:=hg0.le;omega,hO⟩⟩
theorem prV_len{x n y:Nat}:∀ps:List (DirB×DirB),(prV x n y ps).length=ps.length*2
 |[]=>rfl
 |p::ps=>by
  have:=prV_len (x:=x) (n:=n) (y:=y) ps
  unfold prV at this ⊢
  simp only[List.map_cons,List.flatten_cons,List.length_append,List.length_cons,List.length_nil,this]
  omega
theorem prV_at{x n y:Nat}:∀(ps:List (DirB×DirB)) (i:Nat) (hi:i<ps.length),((prV x n y ps).drop (i*2)).take 2=[I (sgN x n y ps[i].1.1 ps[i].1.2:Nat),I (sgN x n y ps[i].2.1 ps[i].2.2:Nat)]
 |[],i,hi=>by simp at hi
 |p::ps,0,_=>by simp[prV]
 |p::ps,i+1,hi=>by
  have:=prV_at (x:=x) (n:=n) (y:=y) ps i (by simpa using hi)
  unfold prV at this ⊢
  simp only[List.map_cons,List.flatten_cons,List.getElem_cons_succ]
  rw[show(i+1)*2=i*2+2 by omega]
  rw[<-this]
  congr 1
theorem prL_len{n y:Nat}{kd:Nat->Int}:1<=(prL n y kd).length∧(prL n y kd).length<=2:=by
 unfold prL
 split
 ·simp
 ·split
  ·simp
  ·split
   ·simp
   ·split<;>simp
theorem setP_natI{l:List Nat}{p:Nat×Nat}:natI (setP l p)=((natI l).set p.1 p.2).set p.2 p.1:=by
 simp[setP,natI,List.map_set]
theorem c43(h:Heap)(hp:0<h.length)(W H:Int)(br:List Int)(s kv:Value)(x n:Nat)(K:List Nat)(left:Bool)(ok:OkP (W,H,br))(hr:Vr h shInts s br)(hx:1<=x∧x<2*W.toNat)(en:n=2*H.toNat)(hK:Invo K n)(rk:Rw h kv 1 (ints (natI K))):ACall Gam 43 [.agg #[I W,I H,s],I x,kv,B left] h λr h'=>Grows h h'∧∃w,r=.tuple #[w,I ((passN (lkL x n λj=>kindW W.toNat H.toNat br x j) K n).2:Nat)]∧Buf h h' w 1 (ints (natI (passN (lkL x n λj=>kindW W.toNat H.toNat br x j) K n).1)):=by
 have w8:=ok.w
 have h8:=ok.h
 simp only at w8 h8
 obtain⟨kd,ekd⟩:∃kd:Nat->Int,kd=λ(j:Nat)=>kindW W.toNat H.toNat br x j:=⟨_,rfl⟩
 rw[<-ekd]
 have kd0:kd 0=0:=by rw[ekd];exact kindW_edge (by unfold edgeW;omega)
 have kdn:kd n=0:=by rw[ekd];exact kindW_edge (by unfold edgeW;omega)
 obtain⟨kb,ko,kn,ky,rfl,eb,cb⟩:=rk
 have eb:kn=n:=by have:=eb;simp[ints,natI,hK.len]at this;exact this
 rw[eb]at cb ⊢
 rw[Nat.mul_one]at cb
 clear eb
 have n2:2<=n∧n<=16:=by omega
 have hH:IntKind.i64.wrap (2*H)=n:=by rw[wrap64 (by omega) (by omega)];omega
 obtain⟨nn,enn⟩:∃nn,nn=2*n:=⟨_,rfl⟩
 have h2n:IntKind.i64.wrap (2*(n:Int))=nn:=by rw[wrap64 (by omega) (by omega)];omega
 refine ACall_intro g43 rfl ?_
 unfold fn43
 rw[awp_seq,awp_reg]
 generalize hQ:seqQ Gam _ _ 0=Q
 simp(disch:=omega)
 obtain⟨xb,exb⟩:∃xb,xb=h.length:=⟨_,rfl⟩
 obtain⟨h1,e1⟩:∃h1,h1=h++[⟨[I x],true⟩,⟨[B left],true⟩]:=⟨_,rfl⟩
 have g1:Grows h h1:=⟨_,e1⟩
 have l1:h1.length=xb+2:=by rw[e1,exb];simp
 rw[<-e1,<-exb]
 subst hQ
 simp only[seqQ_zero]
 rw[awp_seq,awp_reg]
 generalize hQ:seqQ Gam _ _ 0=Q
 have st0:storeAt (h1++[⟨[I 0],true⟩]) h1.length 0 [I n]=some (h1++[⟨[I n],true⟩]):=by simp[storeAt]
 simp(disch:=omega)[hH,st0]
 obtain⟨nb,enb⟩:∃nb,nb=h1.length:=⟨_,rfl⟩
 obtain⟨h2,e2⟩:∃h2,h2=h1++[⟨[I n],true⟩]:=⟨_,rfl⟩
 have g2:Grows h h2:=g1.trans ⟨_,e2⟩
 have l2:h2.length=nb+1:=by rw[e2,enb];simp
 have cx:cell h2 xb 0=some (I x):=by rw[e2,e1,exb];simp[cell]
 have cl:cell h2 (xb+1) 0=some (B left):=by rw[e2,e1,exb];simp[cell]
 have cn:cell h2 nb 0=some (I n):=by rw[e2,enb];simp[cell]
 rw[<-e2,<-enb]
 subst hQ
 simp only[seqQ_zero]
 rw[awp_seq,awp_reg]
 generalize hQ:seqQ Gam _ _ 0=Q
 simp(disch:=omega)[cn,h2n]
 rw[make_zs (by omega)]
 simp only[bindW_some]
 obtain⟨lb,elb⟩:∃lb,lb=h2.length:=⟨_,rfl⟩
 obtain⟨h3,e3⟩:∃h3,h3=h2++[⟨ints (List.replicate nn 0),true⟩]:=⟨_,rfl⟩
 have g3:Grows h2 h3:=⟨_,e3⟩
 have k3:h3[lb]?=some ⟨ints (List.replicate nn 0),true⟩:=by rw[e3,elb];simp
 rw[<-e3,<-elb]
 try simp(disch:=omega)
 subst hQ
 simp only[seqQ_zero]
 rw[awp_seq,awp_reg]
 generalize hQ:seqQ Gam _ _ 0=Q
 simp(disch:=omega)[funcV,okFirst,scalar,isFn]
 subst hQ
 simp only[seqQ_zero]
 have cx3:=g3.cell cx
 obtain⟨y0,ey0⟩:∃y0,y0=(x+1)%2:=⟨_,rfl⟩
 have hy0:Int.tmod (IntKind.i64.wrap ((x:Int)+1)) 2=y0:=by rw[wrap64 (by omega) (by omega),Int.tmod_eq_emod_of_nonneg (by omega)];omega
 have k3:h3[lb]?=some ⟨ints (natI (lkP x n kd y0)),true⟩:=by
  rw[lkP_zero (by omega) (by omega),<-enn,k3]
  simp[natI]
 rw[awp_seq]
 generalize hP:seqQ Gam _ _=PP
 simp(disch:=omega)[cx3,hy0]
 refine awp_loop (λy σ h'=>y<=n+2∧(x+y)%2=1∧Grows h2 h'∧h'[lb]?=some ⟨ints (natI (lkP x n kd y)),true⟩∧σ 2=sl kb ko n ky∧σ 4=.agg #[I W,I H,s]∧σ 5=pt xb 0∧σ 10=pt nb 0∧σ 11=sl lb 0 nn 1∧σ 12=.func (.func 44) #[] #[pt nb 0,pt xb 0,pt (xb+1) 0]∧σ 13=I (y:Nat)) (λy=>n+2-y) y0 ?_ ?_
 ·exact⟨by omega,by omega,g3,k3,by simp,by simp,by simp,by simp,by simp,by simp,by simp⟩
 rintro y σ h'⟨hy,hpar,hg,hL,q2,q4,q5,q10,q11,q12,q13⟩
 have cn':=hg.cell cn
 simp(disch:=omega)[q10,q13,cn']
 refine fork_dec (λhle=>?_) (λhgt=>?_)
 ·have hle:y<=n:=by omega
  have cx':=hg.cell cx
  simp(disch:=omega)[q4,q5,q13,cx']
  have gh:=g2.trans hg
  refine callW_of (c41 h' (pos_of hp gh) W H br s x y ok (hr.grow gh) hx hpar (by omega)) ?_
  rintro v h4⟨g4,b4⟩
  try refine⟨λe=>(by cases e),?_⟩
  rw[<-en,<-ekd]at b4
  obtain⟨ps,eps⟩:∃ps,ps=prL n y kd:=⟨_,rfl⟩
  have pl:=prL_len (n:=n) (y:=y) (kd:=kd)
  have po:=prL_ok (n:=n) (y:=y) (kd:=kd) n2.1 hle
  have px:=prX_ok (x:=x) (left:=left) (kd:=kd) n2.1 hle hpar kd0 kdn
  have pa:=prX_all (x:=x) (n:=n) (y:=y) (kd:=kd) (left:=left) n2.1
  rw[<-eps]at b4 pl po px pa
  have stp:=lkP_step (ps:=ps.map (prX n y left)) hpar (by intro p hp;obtain⟨q,hq,rfl⟩:=List.mem_map.1 hp;exact px q hq) pa
  obtain⟨b,m,rfl,em,lb4,kb4⟩:∃b m,v=sl b 0 m 2∧m=ps.length∧h'.length<=b∧h4[b]?=some ⟨prV x n y ps,true⟩:=by
   rcases b4 with⟨e,_⟩|⟨b,m,e1,e2,e3,e4⟩
   ·have:=congrArg List.length e
    rw[prV_len]at this
    simp at this
    omega
   ·rw[prV_len]at e2
    exact⟨b,m,e1,by omega,e3,e4⟩
  have hlbl:=at_lt hL
  have gh4:=hg.trans g4
  simp(disch:=omega)
  refine awp_loop (λi τ hh=>i<=m∧Grows h2 hh∧hh[lb]?=some ⟨ints (natI (((ps.map (prX n y left)).take i).foldl setP (lkP x n kd y))),true⟩∧hh[b]?=some ⟨prV x n y ps,true⟩∧τ 2=sl kb ko n ky∧τ 4=.agg #[I W,I H,s]∧τ 5=pt xb 0∧τ 10=pt nb 0∧τ 11=sl lb 0 nn 1∧τ 12=.func (.func 44) #[] #[pt nb 0,pt xb 0,pt (xb+1) 0]∧τ 13=I (y:Nat)∧τ 44=sl b 0 m 2∧τ 45=I m∧τ 46=I i) (λi=>m-i) 0 ?_ ?_
  ·exact⟨by omega,gh4,by simpa using g4.at hL,kb4,by simpa using q2,by simpa using q4,by simpa using q5,by simpa using q10,by simpa using q11,by simpa using q12,by simpa using q13,by simp,by simp,by simp⟩
  rintro i τ hh⟨hi,gi,hLi,hbi,t2,t4,t5,t10,t11,t12,t13,t44,t45,t46⟩
  simp(disch:=omega)[t45,t46]
  refine fork_dec (λhlt=>?_) (λhge=>?_)
  ·have hlt:i<ps.length:=by omega
   have hlm:i<m:=by omega
   have c2:cellsAt hh b (i*2) 2=some [I (sgN x n y ps[i].1.1 ps[i].1.2:Nat),I (sgN x n y ps[i].2.1 ps[i].2.2:Nat)]:=by
    rw[cellsAt_of hbi (by simp only[prV_len];omega)]
    simp only[prV_at ps i hlt]
   obtain⟨o1,o2⟩:=po ps[i] (List.getElem_mem hlt)
   obtain⟨⟨x1,x2⟩,_⟩:=px ps[i] (List.getElem_mem hlt)
   have x3:=(lk_lt (x:=x) (kd:=kd) x1).1
   rw[x2]at x3
   have ca1:=c44 hh x y n nb xb (xb+1) ps[i].1.1 ps[i].1.2 left (by omega) (by omega) o1 (gi.cell cn) (gi.cell cx) (gi.cell cl)
   have ca2:=c44 hh x y n nb xb (xb+1) ps[i].2.1 ps[i].2.2 left (by omega) (by omega) o2 (gi.cell cn) (gi.cell cx) (gi.cell cl)
   have efold:((ps.map (prX n y left)).take (i+1)).foldl setP (lkP x n kd y)=setP (((ps.map (prX n y left)).take i).foldl setP (lkP x n kd y)) (prX n y left ps[i]):=by
    rw[List.take_add_one,List.getElem?_map,List.getElem?_eq_getElem hlt]
    simp[List.foldl_append]
   obtain⟨p,ep⟩:∃p,p=prX n y left ps[i]:=⟨_,rfl⟩
   have ep1:ixE n (ps[i].1.1==left) ps[i].1.2 y=p.1:=by rw[ep];rfl
   have ep2:ixE n (ps[i].2.1==left) ps[i].2.2 y=p.2:=by rw[ep];rfl
   rw[ep1]at ca1
   rw[ep2]at ca2
   rw[<-ep]at x1 x3 efold
   obtain⟨Z,eZ⟩:∃Z,Z=((ps.map (prX n y left)).take i).foldl setP (lkP x n kd y):=⟨_,rfl⟩
   rw[<-eZ]at hLi efold
   have lZ:Z.length=nn:=by rw[eZ,setPs_len];simp[lkP,enn]
   obtain⟨A,eA⟩:∃A:Int,A=(sgN x n y ps[i].1.1 ps[i].1.2:Nat):=⟨_,rfl⟩
   obtain⟨A',eA'⟩:∃A':Int,A'=(sgN x n y ps[i].2.1 ps[i].2.2:Nat):=⟨_,rfl⟩
   rw[<-eA]at ca1 c2
   rw[<-eA']at ca2 c2
   obtain⟨a,d⟩:=p
   simp only at ca1 ca2 x1 x3
   have x1':a<nn:=by omega
   have x3':d<nn:=by omega
   have s1:=ints_store (x:=((d:Nat):Int)) hLi (k:=a) (by rw[natI_len];omega)
   obtain⟨h5,e5⟩:∃h5,h5=hh.set lb ⟨ints ((natI Z).set a ((d:Nat):Int)),true⟩:=⟨_,rfl⟩
   rw[<-e5]at s1
   have hL5:h5[lb]?=some ⟨ints ((natI Z).set a ((d:Nat):Int)),true⟩:=by rw[e5];exact blk_set hLi
   have s2:=ints_store (x:=((a:Nat):Int)) hL5 (k:=d) (by rw[List.length_set,natI_len];omega)
   have e6:((natI Z).set a ((d:Nat):Int)).set d ((a:Nat):Int)=natI (setP Z (a,d)):=(setP_natI (l:=Z) (p:=(a,d))).symm
   rw[e6]at s2
   obtain⟨h6,e7⟩:∃h6,h6=h5.set lb ⟨ints (natI (setP Z (a,d))),true⟩:=⟨_,rfl⟩
   rw[<-e7]at s2
   have hL6:h6[lb]?=some ⟨ints (natI (setP Z (a,d))),true⟩:=by rw[e7];exact blk_set hL5
   have g6:Grows h2 h6:=by rw[e7,e5];exact(gi.put (by omega) _).put (by omega) _
   have nbl:b≠lb:=by omega
   have hb6:h6[b]?=some ⟨prV x n y ps,true⟩:=by rw[e7,e5,List.getElem?_set_ne (by omega),List.getElem?_set_ne (by omega)];exact hbi
   try simp(disch:=omega)[t44,t46,hlm,c2,t12,inA0,inA1,agA0,agA1]
   refine callW_of ca1 ?_
   rintro _ _⟨rfl,rfl⟩
   try refine⟨λe=>(by cases e),?_⟩
   try simp(disch:=omega)[t12,inA0,inA1,agA0,agA1]
   refine callW_of ca2 ?_
   rintro _ _⟨rfl,rfl⟩
   try refine⟨λe=>(by cases e),?_⟩
   try simp(disch:=omega)[t11,x1',x3',s1,s2]
   try simp(disch:=omega)[t46,wrap64]
   refine⟨i+1,?_,by omega⟩
   rw[efold]
   and_intros<;>first|assumption|omega|rfl
  ·have:i=m:=by omega
   subst this
   rw[em,List.take_of_length_le (by simp),stp]at hLi
   simp(disch:=omega)[t13,wrap64]
   refine⟨y+2,?_,by omega⟩
   and_intros<;>first|assumption|omega|rfl
 ·have hgt:n<y:=by omega
  rw[lkP_all hgt]at hL
  simp(disch:=omega)
  subst hP
  simp only[seqQ_zero]
  have gh:=g2.trans hg
  have key:=λσ (a:σ 2=sl kb ko n ky) (b:σ 10=pt nb 0) (c:σ 11=sl lb 0 (2*n) 1)=>c43t h h' gh (pos_of hp gh) σ (lkL x n kd) K n kb ko ky nb lb lkL_ok hK (by omega) (cellsAt_all hL (by simp[ints,natI,lkL])) (cb.imp id λe=>gh.cellsAt e) cn' a b c
  dsimp only[tail43,fn43]at key
  exact key _ (by simpa using q2) (by simpa using q10) (by rw[<-enn];simpa using q11)
end Am

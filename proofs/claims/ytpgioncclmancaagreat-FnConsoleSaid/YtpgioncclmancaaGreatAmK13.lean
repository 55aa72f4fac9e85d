/- Contracts: AmH45, AmH46, AmH47, AmH48, AmH49, AmH50, AmH51, AmH52, AmH53, AmH54, AmH55. -/
import Derived.Test.YtpgioncclmancaaGreatAmK12
import Derived.Test.YtpgioncclmancaaGreatAmK11
import Derived.Test.YtpgioncclmancaaGreatAmK7
import Derived.Test.YtpgioncclmancaaGreatAmK8
set_option linter.unusedVariables false
set_option linter.unusedSimpArgs false
set_option maxHeartbeats 4000000
set_option maxRecDepth 40000
namespace Am
open Go
/-- What is known behind the points with this X, by what is known before them. -/
noncomputable def nxN(X:Pan)(x:Nat)(c:List Nat×Nat):List Nat×Nat:=
 ((passN (lkL x (2*X.2.1.toNat) λj=>kindW X.1.toNat X.2.1.toNat X.2.2 x j) c.1 (2*X.2.1.toNat)).1,c.2+(passN (lkL x (2*X.2.1.toNat) λj=>kindW X.1.toNat X.2.1.toNat X.2.2 x j) c.1 (2*X.2.1.toNat)).2)
noncomputable def colN(X:Pan):Nat->List Nat×Nat
 |0=>(nbN (2*X.2.1.toNat),0)
 |t+1=>nxN X (t+1) (colN X t)
noncomputable def frN(X:Pan):Nat->List Nat×Nat
 |0=>(nbN (2*X.2.1.toNat),0)
 |t+1=>nxN X (2*X.1.toNat-1-t) (frN X t)
theorem nxN_ok{X:Pan}{x:Nat}{c:List Nat×Nat}(hc:Invo c.1 (2*X.2.1.toNat)):Invo (nxN X x c).1 (2*X.2.1.toNat)∧(nxN X x c).2<=c.2+2*X.2.1.toNat:=by
 have g0:=seen1_good (lkL_ok (x:=x) (n:=2*X.2.1.toNat) (kd:=λj=>kindW X.1.toNat X.2.1.toNat X.2.2 x j)) hc
 have:=(lpN_ok hc g0 (2*X.2.1.toNat) (Nat.le_refl _)).2
 exact⟨outL_ok lkL_ok hc,by unfold nxN passN;simp only;omega⟩
theorem nb2_ok{m:Nat}:Invo (nbN (2*m)) (2*m):=nbN_ok (by omega)
theorem colN_ok{X:Pan}:∀t,Invo (colN X t).1 (2*X.2.1.toNat)∧(colN X t).2<=t*(2*X.2.1.toNat)
 |0=>⟨nb2_ok,by simp[colN]⟩
 |t+1=>by
  obtain⟨a,b⟩:=colN_ok (X:=X) t
  obtain⟨c,d⟩:=nxN_ok (X:=X) (x:=t+1) a
  refine⟨c,?_⟩
  have e:colN X (t+1)=nxN X (t+1) (colN X t):=rfl
  rw[e,Nat.add_mul]
  omega
theorem frN_ok{X:Pan}:∀t,Invo (frN X t).1 (2*X.2.1.toNat)∧(frN X t).2<=t*(2*X.2.1.toNat)
 |0=>⟨nb2_ok,by simp[frN]⟩
 |t+1=>by
  obtain⟨a,b⟩:=frN_ok (X:=X) t
  obtain⟨c,d⟩:=nxN_ok (X:=X) (x:=2*X.1.toNat-1-t) a
  refine⟨c,?_⟩
  have e:frN X (t+1)=nxN X (2*X.1.toNat-1-t) (frN X t):=rfl
  rw[e,Nat.add_mul]
  omega
theorem cl_le{t n c:Nat}(ht:t<=16)(hn:n<=16)(h:c<=t*n):c<=256:=Nat.le_trans h (Nat.mul_le_mul ht hn)
theorem c39(h:Heap)(hp:0<h.length)(W H:Int)(br:List Int)(s kv:Value)(x cl:Nat)(c:List Nat×Nat)(ok:OkP (W,H,br))(hr:Vr h shInts s br)(hx:x+1<2*W.toNat)(hc:Invo c.1 (2*H.toNat))(hcl:c.2<=256)(rk:Rw h kv 1 (ints (natI c.1))):ACall Gam 39 [.agg #[I W,I H,s],I x,.agg #[kv,I (c.2:Nat)]] h λr h'=>Grows h h'∧∃w,r=.agg #[w,I ((nxN (W,H,br) (x+1) c).2:Nat)]∧Buf h h' w 1 (ints (natI (nxN (W,H,br) (x+1) c).1)):=by
 have w8:=ok.w
 have h8:=ok.h
 simp only at w8 h8
 have hb:=(nxN_ok (X:=(W,H,br)) (x:=x+1) hc).2
 simp only at hb
 obtain⟨D,eD⟩:∃D,D=nxN (W,H,br) (x+1) c:=⟨_,rfl⟩
 have eD1:(passN (lkL (x+1) (2*H.toNat) λj=>kindW W.toNat H.toNat br (x+1:Nat) j) c.1 (2*H.toNat)).1=D.1:=by rw[eD];rfl
 have eD2:c.2+(passN (lkL (x+1) (2*H.toNat) λj=>kindW W.toNat H.toNat br (x+1:Nat) j) c.1 (2*H.toNat)).2=D.2:=by rw[eD];rfl
 have ck:=c43 h hp W H br s kv (x+1) _ c.1 true ok hr ⟨by omega,hx⟩ rfl hc rk
 rw[<-eD]at hb ⊢
 obtain⟨P2,eP2⟩:∃P2,P2=(passN (lkL (x+1) (2*H.toNat) λj=>kindW W.toNat H.toNat br (x+1:Nat) j) c.1 (2*H.toNat)).2:=⟨_,rfl⟩
 rw[eD1,<-eP2]at ck
 rw[<-eP2]at eD2
 have wx:IntKind.i64.wrap ((x:Int)+1)=((x+1:Nat):Int):=by rw[wrap64 (by omega) (by omega)];omega
 have wc:IntKind.i64.wrap ((c.2:Int)+(P2:Nat))=D.2:=by rw[wrap64 (by omega) (by omega)];omega
 obtain⟨c1,c2⟩:=c
 simp only at*
 obtain⟨kb,ko,kn,ky,rfl⟩:∃kb ko kn ky,kv=sl kb ko kn ky:=by obtain⟨b,o,n,y,e,_⟩:=rk;exact⟨b,o,n,y,e⟩
 refine ACall_intro g39 rfl ?_
 unfold fn39
 simp(disch:=omega)[wx]
 refine callW_of ck ?_
 rintro _ h2⟨g2,w,rfl,b2⟩
 try refine⟨λe=>(by first|exact g2|cases e),?_⟩
 obtain⟨bb,rfl⟩:=b2.sl1
 simp(disch:=omega)[wc]
 exact⟨g2,_,rfl,b2⟩
/-- A list of columns, the last of which is this one. -/
def ColS(h:Heap)(lo n k wb:Nat)(v:Value)(c:List Nat×Nat):Prop:=∃b Z,v=sl b 0 (k+1) 2∧lo<=b∧h[b]?=some ⟨Z,true⟩∧Z.length=(k+1)*2∧(Z.drop (k*2)).take 2=[sl wb 0 n 1,I (c.2:Nat)]∧wb≠b∧h[wb]?=some ⟨ints (natI c.1),true⟩
def ColE(h:Heap)(lo n k:Nat)(v:Value)(c:List Nat×Nat):Prop:=∃wb,ColS h lo n k wb v c
def ColR(h:Heap)(m:Nat)(r:Value)(c:List Nat×Nat):Prop:=∃b w,r=sl b 0 (m+1) 2∧cellsAt h b (m*2) 2=some [w,I (c.2:Nat)]∧Rw h w 1 (ints (natI c.1))
theorem Buf.own1{h0 h:Heap}{w:Value}{l:List Nat}{n:Nat}(x:Buf h0 h w 1 (Am.ints (natI l)))(hl:l.length=n)(hn:1<=n):∃b,w=sl b 0 n 1∧h0.length<=b∧h[b]?=some ⟨Am.ints (natI l),true⟩:=by
 rcases x with⟨q,_⟩|⟨b,n',e1,e2,e3,e4⟩
 ·have:=congrArg List.length q
  simp only[Am.ints,List.length_map,natI_len,hl]at this
  simp at this;omega
 ·have:n'=n:=by simpa [Am.ints,natI_len,hl]using e2
  subst this
  exact⟨b,e1,e3,e4⟩
theorem rw_own{h:Heap}{b:Nat}{l:List Nat}{n:Nat}(hb:h[b]?=some ⟨ints (natI l),true⟩)(hl:l.length=n):Rw h (sl b 0 n 1) 1 (ints (natI l)):=
 ⟨b,0,n,1,rfl,by simp[ints,natI_len,hl],.inr (cellsAt_all hb (by simp[ints,natI_len,hl]))⟩
theorem ColS.res{h:Heap}{lo n k wb:Nat}{v:Value}{c:List Nat×Nat}(x:ColS h lo n k wb v c)(hc:c.1.length=n):ColR h k v c:=by
 obtain⟨b,Z,rfl,_,kZ,lZ,eZ,_,kw⟩:=x
 exact⟨b,sl wb 0 n 1,rfl,by rw[cellsAt_of kZ (by simp only;omega)];simp only[eZ],rw_own kw hc⟩
/-- One more column. -/
theorem ColS.app{h h' h3:Heap}{lo n k wb wb3:Nat}{v:Value}{c d:List Nat×Nat}{K:Value->Heap->Prop}(hp:0<h.length)(hlo:lo=h.length)(hg:Grows h h')(g3:Grows h' h3)(x:ColS h' lo n k wb v c)(hk:k<=100)(wl3:h'.length<=wb3)(kw3:h3[wb3]?=some ⟨ints (natI d.1),true⟩)
  (hK:∀v' h4,Grows h h4->ColS h4 lo n (k+1) wb3 v' d->K v' h4):bindW (aBuildSlice 2 1 h3 [(0,.agg #[sl 0 0 0 0,I 0]),(2,.agg #[sl wb3 0 n 1,I (d.2:Nat)])]) (λy h2=>bindW (aAppend 2 h2 y v) K):=by
 subst hlo
 obtain⟨b,Z,rfl,hb,kZ,lZ,eZ,wne,kw⟩:=x
 have eb:aBuildSlice 2 1 h3 [(0,.agg #[sl 0 0 0 0,I 0]),(2,.agg #[sl wb3 0 n 1,I (d.2:Nat)])]=some (sl h3.length 0 1 2,h3++[⟨[sl wb3 0 n 1,I (d.2:Nat)],true⟩]):=by simp[aBuildSlice]
 rw[eb]
 simp only[bindW_some]
 have blt:=at_lt kZ
 have g13:=hg.trans g3
 have bz:Buf h h3 (sl b 0 (k+1) 2) 2 Z:=.inr ⟨b,k+1,rfl,by omega,hb,g3.at kZ⟩
 refine app1 hp g13 (Nat.le_refl _) g13.le bz rfl (by omega) (by simp[maxSize];omega) λv4 h4 g4 l4 b4 n4 f4=>?_
 obtain⟨b5,rfl,hb5,kb5⟩:∃b5,v4=sl b5 0 (k+1+1) 2∧h.length<=b5∧h4[b5]?=some ⟨Z++[sl wb3 0 n 1,I (d.2:Nat)],true⟩:=by
  rcases b4 with⟨q,_⟩|⟨b,n',e1,e2,e3,e4⟩
  ·have:=congrArg List.length q;simp at this
  ·have:n'=k+1+1:=by simp[lZ]at e2;omega
   subst this
   exact⟨b,e1,e3,e4⟩
 have w34:h4[wb3]?=some ⟨ints (natI d.1),true⟩:=f4 wb3 _ kw3 (by intro n e;injection e with e _ _;injection e with e;injection e with e _ _;omega)
 have ne5:wb3≠b5:=by
  have:=n4 b5 _ _ rfl
  have:=at_lt kw3
  omega
 refine hK _ _ g4 ⟨b5,_,rfl,hb5,kb5,by simp[lZ];omega,?_,ne5,w34⟩
 rw[List.drop_append_of_le_length (by omega),List.drop_of_length_le (by omega)]
 simp
theorem c27(h:Heap)(hp:0<h.length)(W H:Int)(br:List Int)(s:Value)(ok:OkP (W,H,br))(hr:Vr h shInts s br):ACall Gam 27 [.agg #[I W,I H,s]] h λr h'=>Grows h h'∧ColR h' (2*W.toNat-1) r (colN (W,H,br) (2*W.toNat-1)):=by
 have w8:=ok.w
 have h8:=ok.h
 simp only at w8 h8
 have cok:=λt=>colN_ok (X:=(W,H,br)) t
 have cs:∀t,colN (W,H,br) (t+1)=nxN (W,H,br) (t+1) (colN (W,H,br) t):=λt=>rfl
 have c0:colN (W,H,br) 0=(nbN (2*H.toNat),0):=rfl
 have ck:=λh' hp' hr' kv x hx hc hcl rk=>c39 h' hp' W H br s kv x 0 (colN (W,H,br) x) ok hr' hx hc hcl rk
 obtain⟨F,eF⟩:∃F,F=colN (W,H,br):=⟨_,rfl⟩
 obtain⟨n,en⟩:∃n,n=2*H.toNat:=⟨_,rfl⟩
 simp only[<-eF]at cok cs c0 ck ⊢
 rw[<-en]at c0
 simp only[<-en]at cok ck
 simp only[<-cs]at ck
 obtain⟨m,em⟩:∃m,m+1=2*W.toNat:=⟨2*W.toNat-1,by omega⟩
 rw[<-em]
 simp only[Nat.add_sub_cancel]
 have hH:IntKind.i64.wrap (2*H)=n:=by rw[wrap64 (by omega) (by omega)];omega
 have hW:IntKind.i64.wrap (2*W)=m+1:=by rw[wrap64 (by omega) (by omega)];omega
 have hW1:IntKind.i64.wrap ((m:Int)+1-1)=m:=by rw[wrap64 (by omega) (by omega)];omega
 have hW2:IntKind.i64.wrap (m:Int)=m:=wrap64 (by omega) (by omega)
 refine ACall_intro g27 rfl ?_
 unfold fn27
 rw[awp_seq,awp_reg]
 generalize hK:seqQ Gam _ _ 0=K
 simp(disch:=omega)
 subst hK
 simp only[seqQ_zero]
 rw[awp_seq,awp_reg]
 generalize hK:seqQ Gam _ _ 0=K
 simp(disch:=omega)[hH]
 refine callW_of (c176 h hp n (by omega)) ?_
 rintro w0 h1⟨g1,b1⟩
 try refine⟨λe=>(by first|exact g1|cases e),?_⟩
 obtain⟨wb,rfl,wlo,kw⟩:=b1.own1 (n:=n) (by simp[nbN]) (by omega)
 simp(disch:=omega)
 have eb:aBuildSlice 2 1 h1 [(0,.agg #[sl 0 0 0 0,I 0]),(2,.agg #[sl wb 0 n 1,I 0])]=some (sl h1.length 0 1 2,h1++[⟨[sl wb 0 n 1,I 0],true⟩]):=by simp[aBuildSlice]
 rw[eb]
 simp only[bindW_some]
 obtain⟨b0,eb0⟩:∃b0,b0=h1.length:=⟨_,rfl⟩
 obtain⟨h2,e2⟩:∃h2,h2=h1++[⟨[sl wb 0 n 1,I 0],true⟩]:=⟨_,rfl⟩
 have g2':Grows h1 h2:=⟨_,e2⟩
 have g2:Grows h h2:=g1.trans g2'
 have l1:=g1.le
 have k2:h2[b0]?=some ⟨[sl wb 0 n 1,I 0],true⟩:=by rw[e2,eb0];simp
 have wlt:=at_lt kw
 have S0:ColE h2 h.length n 0 (sl b0 0 1 2) (F 0):=⟨wb,b0,_,rfl,by omega,k2,rfl,by rw[c0];rfl,by omega,by rw[c0];exact g2'.at kw⟩
 rw[<-e2,<-eb0]
 try simp(disch:=omega)
 subst hK
 simp only[seqQ_zero]
 rw[awp_seq]
 generalize hP:seqQ Gam _ _=PP
 simp(disch:=omega)[hW,hW1,hW2]
 refine awp_loop (λk σ h'=>k<=m∧Grows h h'∧σ 1=.agg #[I W,I H,s]∧σ 14=I m∧σ 15=I k∧ColE h' h.length n k (σ 3) (F k)) (λk=>m-k) 0 ?_ ?_
 ·exact⟨by omega,g2,by simp,by simp,by simp,by simpa using S0⟩
 ·rintro k σ h'⟨hk,hg,q1,q14,q15,wb',S⟩
  have S':=S
  obtain⟨b,Z,q3,hb,kZ,lZ,eZ,wne,kw'⟩:=S'
  obtain⟨i1,i2⟩:=cok k
  simp(disch:=omega)[q14,q15]
  refine fork_dec (λhlt=>?_) (λhge=>?_)
  ·have k1:k<m:=by omega
   have cc:cellsAt h' b (k*2) 2=some [sl wb' 0 n 1,I ((F k).2:Nat)]:=by
    rw[cellsAt_of kZ (by simp only;omega)]
    simp only[eZ]
   have kk1:k<k+1:=by omega
   have kk2:(k:Int)<(k:Int)+1:=by omega
   have cl:=cl_le (t:=k) (by omega) (by omega) i2
   have rk:=rw_own kw' i1.len
   simp(disch:=omega)[q1,q3,q15,cc,kk1,kk2]
   refine callW_of (ck h' (pos_of hp hg) (hr.grow hg) _ k (by omega) i1 cl rk) ?_
   rintro _ h3⟨g3,w3,rfl,b3⟩
   try refine⟨λe=>(by first|exact g3|cases e),?_⟩
   obtain⟨i3,i4⟩:=cok (k+1)
   obtain⟨wb3,rfl,wl3,kw3⟩:=b3.own1 (n:=n) i3.len (by omega)
   rw[q3]at S
   try simp(disch:=omega)
   refine ColS.app hp rfl hg g3 S (by omega) wl3 kw3 λv4 h4 g4 S4=>?_
   have E4:ColE h4 h.length n (k+1) v4 (F (k+1)):=⟨wb3,S4⟩
   simp(disch:=omega)[q14,q15,wrap64]
   refine⟨k+1,?_,by omega⟩
   and_intros<;>first|assumption|omega|rfl
  ·have:k=m:=by omega
   subst this
   have R:=S.res i1.len
   rw[q3]at R
   simp(disch:=omega)
   subst hP
   simp(disch:=omega)[q3]
   exact⟨hg,R⟩
noncomputable def cntA(X:Pan):Int×Int:=if okP X then(((colN X (2*X.1.toNat-1)).2+loopsN (colN X (2*X.1.toNat-1)).1 (nbN (2*X.2.1.toNat)) (2*X.2.1.toNat):Nat),0)else(0,1)
noncomputable def frA(X:Pan)(x:Int):(List Nat×Nat)×Int:=if okP X then(if 0<=x∧x<=2*X.1-1 then(frN X (2*X.1.toNat-1-x.toNat),0)else(([],0),2))else(([],0),1)
def colCode(X:Pan)(x:Int):Int:=if okP X then(if 0<=x∧x<=2*X.1-1 then 0 else 2)else 1
theorem frA_bad{X:Pan}{x:Int}(h:colCode X x≠0):frA X x=(([],0),colCode X x):=by
 unfold colCode at h ⊢
 unfold frA
 split
 ·rename_i q
  rw[if_pos q]at h
  split
  ·rename_i q2;rw[if_pos q2]at h;exact absurd rfl h
  ·rfl
 ·rfl
theorem loopsN_le{A B:List Nat}{n:Nat}(hA:Invo A n)(hB:Invo B n):loopsN A B n<=n:=(lpN_ok hA (loops_good hA hB) n (Nat.le_refl _)).2
/-- A column as it is kept; as it is given back. -/
def FrS(h:Heap)(v:Value)(c:List Nat×Nat):Prop:=∃b o k y,v=.agg #[sl b o k y,I (c.2:Nat)]∧Rw h (sl b o k y) 1 (ints (natI c.1))
def FrR(h h':Heap)(r:Value)(A:(List Nat×Nat)×Int):Prop:=Grows h h'∧∃w,r=.tuple #[.agg #[w,I (A.1.2:Nat)],I A.2]∧Rw h' w 1 (ints (natI A.1.1))
theorem c71(h:Heap)(hp:0<h.length)(v:Value)(X:Pan)(hv:Vr h shPanel v X):ACall Gam 71 [v] h λr h'=>Grows h h'∧r=.tuple #[I (cntA X).1,I (cntA X).2]:=by
 have hv0:=hv
 obtain⟨A,eA⟩:∃A,A=cntA X:=⟨_,rfl⟩
 have eA0:=eA
 unfold cntA at eA0
 rw[<-eA]
 have cok:=λt=>colN_ok (X:=X) t
 have ck:=λW H br s (e:X=(W,H,br)) h hp ok hr=>c27 h hp W H br s ok hr
 obtain⟨W,H,br⟩:=X
 obtain⟨s,rfl,w1,w2,r⟩:=hv.panel
 have ck:=ck W H br s rfl
 refine ACall_intro g71 rfl ?_
 unfold fn71
 rw[awp_seq,awp_reg]
 generalize hK:seqQ Gam _ _ 0=K
 try simp(disch:=omega)
 subst hK
 simp only[seqQ_zero]
 rw[awp_seq]
 generalize hK:seqQ Gam _ _=K
 try simp(disch:=omega)
 refine callW_of (c140 _ _ h hv0) ?_
 rintro _ h1⟨rfl,rfl⟩
 try refine⟨λe=>(by cases e),?_⟩
 cases e1:okP (W,H,br)
 ·simp only[e1,Bool.false_eq_true,if_false]at eA0
  subst eA0
  try simp(disch:=omega)
  subst hK
  try simp(disch:=omega)
  exact Grows.refl _
 have ok:=okP_iff.1 e1
 have w8:=ok.w
 have h8:=ok.h
 simp only at w8 h8 cok
 simp only[e1,if_true]at eA0
 obtain⟨F,eF⟩:∃F,F=colN (W,H,br):=⟨_,rfl⟩
 obtain⟨n,en⟩:∃n,n=2*H.toNat:=⟨_,rfl⟩
 obtain⟨m,em⟩:∃m,m+1=2*W.toNat:=⟨2*W.toNat-1,by omega⟩
 simp only[<-eF,<-en,<-em,Nat.add_sub_cancel]at eA0 cok ck
 have hH:IntKind.i64.wrap (2*H)=n:=by rw[wrap64 (by omega) (by omega)];omega
 try simp(disch:=omega)
 subst hK
 simp only[seqQ_zero]
 rw[awp_seq,awp_reg]
 generalize hK:seqQ Gam _ _ 0=K
 try simp(disch:=omega)
 refine callW_of (ck h1 hp ok r) ?_
 rintro _ h2⟨g2,b,w,rfl,cc,rk⟩
 try refine⟨λe=>(by first|exact g2|cases e),?_⟩
 try simp(disch:=omega)
 subst hK
 simp only[seqQ_zero]
 rw[awp_seq,awp_reg]
 generalize hK:seqQ Gam _ _ 0=K
 have wm:IntKind.i64.wrap ((m:Int)+1-1)=m:=by rw[wrap64 (by omega) (by omega)];omega
 have wm':IntKind.i64.wrap (m:Int)=m:=wrap64 (by omega) (by omega)
 have m1:m<m+1:=by omega
 have m2:(m:Int)<(m:Int)+1:=by omega
 obtain⟨wb,wo,wn,wy,rfl⟩:∃kb ko kn ky,w=sl kb ko kn ky:=by obtain⟨b,o,n,y,e,_⟩:=rk;exact⟨b,o,n,y,e⟩
 simp(disch:=omega)[wm,wm',m1,m2,cc]
 subst hK
 simp only[seqQ_zero]
 rw[awp_seq,awp_reg]
 generalize hK:seqQ Gam _ _ 0=K
 obtain⟨i1,i2⟩:=cok m
 have cl:=cl_le (t:=m) (by omega) (by omega) i2
 have hp2:=pos_of hp g2
 simp(disch:=omega)[hH]
 refine callW_of (c176 h2 hp2 n (by omega)) ?_
 rintro nv h3⟨g3,b3⟩
 try refine⟨λe=>(by first|exact g3|cases e),?_⟩
 have nok:Invo (nbN n) n:=nbN_ok (by omega)
 have ll:=loopsN_le i1 nok
 try simp(disch:=omega)
 refine callW_of (c171 h3 (pos_of hp2 g3) _ _ _ _ n i1 nok (by omega) (rk.grow g3) b3.rw) ?_
 rintro _ h4⟨g4,rfl⟩
 try refine⟨λe=>(by first|exact g4|cases e),?_⟩
 obtain⟨P,eP⟩:∃P,P=loopsN (F m).1 (nbN n) n:=⟨_,rfl⟩
 rw[<-eP]at ll eA0 ⊢
 obtain⟨Q,eQ⟩:∃Q,Q=(F m).2:=⟨_,rfl⟩
 rw[<-eQ]at cl eA0 ⊢
 have wq:IntKind.i64.wrap ((Q:Int)+P)=((Q+P:Nat):Int):=by rw[wrap64 (by omega) (by omega)];omega
 simp(disch:=omega)[wq]
 subst hK
 try simp(disch:=omega)
 refine⟨(g2.trans g3).trans g4,?_⟩
 rw[eA0]
 simp
theorem c151(h:Heap)(v:Value)(X:Pan)(x:Int)(hv:Vr h shPanel v X)(hx:I64 x):ACall Gam 151 [v,I x] h λr h'=>r=I (colCode X x)∧h'=h:=by
 have hv0:=hv
 obtain⟨A,eA⟩:∃A,A=colCode X x:=⟨_,rfl⟩
 have eA0:=eA
 unfold colCode at eA0
 rw[<-eA]
 obtain⟨W,H,br⟩:=X
 obtain⟨s,rfl,w1,w2,r⟩:=hv.panel
 refine ACall_intro g151 rfl ?_
 unfold fn151
 rw[awp_seq,awp_reg]
 generalize hK:seqQ Gam _ _ 0=K
 try simp(disch:=omega)
 subst hK
 simp only[seqQ_zero]
 rw[awp_seq]
 generalize hK:seqQ Gam _ _=K
 try simp(disch:=omega)
 refine callW_of (c140 _ _ h hv0) ?_
 rintro _ h1⟨rfl,rfl⟩
 try refine⟨λe=>(by cases e),?_⟩
 cases e1:okP (W,H,br)
 ·simp only[e1,Bool.false_eq_true,if_false]at eA0
  subst eA0
  try simp(disch:=omega)
  subst hK
  try simp(disch:=omega)
 have ok:=okP_iff.1 e1
 have w8:=ok.w
 simp only at w8
 simp only[e1,if_true]at eA0
 have wW:IntKind.i64.wrap (2*W)=2*W:=wrap64 (by omega) (by omega)
 have wW1:IntKind.i64.wrap (2*W-1)=2*W-1:=wrap64 (by omega) (by omega)
 try simp(disch:=omega)
 subst hK
 simp only[seqQ_zero]
 rw[awp_seq]
 generalize hK:seqQ Gam _ _=K
 simp(disch:=omega)[wW,wW1]
 refine callW_of (c164 x 0 _ h1) ?_
 rintro _ h2⟨rfl,rfl⟩
 try refine⟨λe=>(by cases e),?_⟩
 by_cases q:0<=x∧x<=2*W-1
 ·have:inR x 0 (2*W-1)=true:=inR_iff.2 q
  rw[if_pos q]at eA0
  subst eA0
  rw[this]
  try simp(disch:=omega)
  subst hK
  try simp(disch:=omega)
 ·have:inR x 0 (2*W-1)=false:=by
   cases e:inR x 0 (2*W-1)
   ·rfl
   ·exact absurd (inR_iff.1 e) q
  rw[if_neg q]at eA0
  subst eA0
  rw[this]
  try simp(disch:=omega)
  subst hK
  try simp(disch:=omega)
theorem c85(h:Heap)(hp:0<h.length)(v:Value)(X:Pan)(x:Int)(hv:Vr h shPanel v X)(hx:I64 x):ACall Gam 85 [v,I x] h λr h'=>FrR h h' r (frA X x):=by
 have hv0:=hv
 obtain⟨A,eA⟩:∃A,A=frA X x:=⟨_,rfl⟩
 have eA0:=eA
 have hbad:=frA_bad (X:=X) (x:=x)
 obtain⟨cd,ecd⟩:∃cd,cd=colCode X x:=⟨_,rfl⟩
 have ecd0:=ecd
 unfold colCode at ecd0
 have cc:=c151 h v X x hv hx
 unfold frA at eA0
 rw[<-eA,<-ecd]at hbad
 rw[<-ecd]at cc
 rw[<-eA]
 have cok:=λt=>frN_ok (X:=X) t
 have cs:∀t,frN X (t+1)=nxN X (2*X.1.toNat-1-t) (frN X t):=λt=>rfl
 have c0:frN X 0=(nbN (2*X.2.1.toNat),0):=rfl
 have nx1:∀x c,(passN (lkL x (2*X.2.1.toNat) λj=>kindW X.1.toNat X.2.1.toNat X.2.2 x j) c.1 (2*X.2.1.toNat)).1=(nxN X x c).1:=λx c=>rfl
 have nx2:∀x c,c.2+(passN (lkL x (2*X.2.1.toNat) λj=>kindW X.1.toNat X.2.1.toNat X.2.2 x j) c.1 (2*X.2.1.toNat)).2=(nxN X x c).2:=λx c=>rfl
 obtain⟨W,H,br⟩:=X
 obtain⟨s,rfl,w1,w2,r⟩:=hv.panel
 refine ACall_intro g85 rfl ?_
 unfold fn85
 rw[awp_seq,awp_reg]
 generalize hK:seqQ Gam _ _ 0=K
 try simp(disch:=omega)
 subst hK
 simp only[seqQ_zero]
 rw[awp_seq]
 generalize hK:seqQ Gam _ _=K
 try simp(disch:=omega)
 refine callW_of cc ?_
 rintro _ h1⟨rfl,rfl⟩
 try refine⟨λe=>(by cases e),?_⟩
 by_cases ec:cd=0
 case neg=>
  have hb:=hbad ec
  simp(disch:=omega)[ec]
  subst hK
  try simp(disch:=omega)
  rw[hb]
  exact⟨Grows.refl _,_,rfl,⟨0,0,0,0,rfl,by simp[ints,natI],.inl rfl⟩⟩
 rw[ec]at ecd0
 have e1:okP (W,H,br)=true:=by
  cases e:okP (W,H,br)
  ·rw[e]at ecd0;simp at ecd0
  ·rfl
 simp only[e1,if_true]at ecd0 eA0
 have qx:0<=x∧x<=2*W-1:=by
  by_cases q:0<=x∧x<=2*W-1
  ·exact q
  ·rw[if_neg q]at ecd0;omega
 rw[if_pos qx]at eA0
 have ok:=okP_iff.1 e1
 have w8:=ok.w
 have h8:=ok.h
 simp only at w8 h8 cok
 simp only at cs nx1 nx2 c0
 simp(disch:=omega)[ec]
 subst hK
 simp only[seqQ_zero]
 obtain⟨n,en⟩:∃n,n=2*H.toNat:=⟨_,rfl⟩
 obtain⟨F,eF⟩:∃F,F=frN (W,H,br):=⟨_,rfl⟩
 simp only[<-eF,<-en]at eA0 cok cs nx1 nx2 c0
 have hH:IntKind.i64.wrap (2*H)=n:=by rw[wrap64 (by omega) (by omega)];omega
 rw[awp_seq,awp_reg]
 generalize hK:seqQ Gam _ _ 0=K
 simp(disch:=omega)[hH]
 refine callW_of (c176 h1 hp n (by omega)) ?_
 rintro w0 h2⟨g2,b2⟩
 try refine⟨λe=>(by first|exact g2|cases e),?_⟩
 obtain⟨wb,rfl⟩:=b2.sl1
 try simp(disch:=omega)
 subst hK
 simp only[seqQ_zero]
 obtain⟨m,em⟩:∃m,m=2*W.toNat-1:=⟨_,rfl⟩
 rw[<-em]at eA0
 simp only[<-em]at cs
 obtain⟨xx,rfl⟩:∃xx:Nat,x=xx:=⟨x.toNat,by omega⟩
 rw[Int.toNat_natCast]at eA0
 have hW:IntKind.i64.wrap (2*W)=m+1:=by rw[wrap64 (by omega) (by omega)];omega
 have hW1:IntKind.i64.wrap ((m:Int)+1-1)=m:=by rw[wrap64 (by omega) (by omega)];omega
 have hW2:IntKind.i64.wrap (m:Int)=m:=wrap64 (by omega) (by omega)
 have hF0:Rw h2 (sl wb 0 (ints (natI (nbN n))).length 1) 1 (ints (natI (F 0).1)):=by rw[c0];exact b2.rw
 have xm:xx<=m:=by omega
 rw[awp_seq]
 generalize hP:seqQ Gam _ _=PP
 simp(disch:=omega)[hW,hW1,hW2]
 refine awp_loop (λt σ h'=>t<=m-xx∧Grows h1 h'∧σ 1=I xx∧σ 2=.agg #[I W,I H,s]∧σ 4=.agg #[sl 0 0 0 0,I 0]∧σ 8=I (m-t:Nat)∧FrS h' (σ 7) (F t)) (λt=>m-xx-t) 0 ?_ ?_
 ·exact⟨by omega,g2,by simp,by simp,by simp,by simp,_,_,_,_,by rw[c0];rfl,hF0⟩
 ·rintro t σ h'⟨ht,hg,q1,q2,q4,q8,b,o,k,y,q7,rk⟩
  simp(disch:=omega)[q1,q8]
  refine fork_dec (λhlt=>?_) (λhge=>?_)
  ·have t1:t<m-xx:=by omega
   obtain⟨i1,i2⟩:=cok t
   have cl:=cl_le (t:=t) (by omega) (by omega) i2
   obtain⟨i3,i4⟩:=cok (t+1)
   have cl2:=cl_le (t:=t+1) (by omega) (by omega) i4
   simp(disch:=omega)[q2,q7,q8]
   refine callW_of (c43 h' (pos_of hp hg) W H br s _ (m-t) n (F t).1 false ok (r.grow hg) (by omega) en i1 rk) ?_
   rintro _ h3⟨g3,w,rfl,b3⟩
   try refine⟨λe=>(by first|exact g3|cases e),?_⟩
   rw[nx1,<-cs]at b3
   have e2:=nx2 (m-t) (F t)
   rw[<-cs]at e2
   obtain⟨P2,eP2⟩:∃P2,P2=(passN (lkL (m-t) n λj=>kindW W.toNat H.toNat br (m-t:Nat) j) (F t).1 n).2:=⟨_,rfl⟩
   rw[<-eP2]at e2 ⊢
   have wq:IntKind.i64.wrap (((F t).2:Int)+P2)=(F (t+1)).2:=by rw[wrap64 (by omega) (by omega)];omega
   have wt:IntKind.i64.wrap (((m-t:Nat):Int)-1)=((m-(t+1):Nat):Int):=by rw[wrap64 (by omega) (by omega)];omega
   obtain⟨bb,rfl⟩:=b3.sl1
   simp(disch:=omega)[q7,q8,wq,wt]
   have g03:=hg.trans g3
   have res:FrS h3 (.agg #[sl bb 0 (ints (natI (F (t+1)).1)).length 1,I ((F (t+1)).2:Nat)]) (F (t+1)):=⟨_,_,_,_,rfl,b3.rw⟩
   refine⟨t+1,?_,by omega⟩
   and_intros<;>first|assumption|omega|rfl
  ·have:t=m-xx:=by omega
   subst this
   try simp(disch:=omega)
   subst hP
   simp(disch:=omega)[q4,q7]
   rw[eA0]
   exact⟨hg,_,rfl,rk⟩
theorem cut_to{h:Heap}{b o n k:Nat}(hk:k<=n):aSlice 3 h (sl b o n 1) none (some (I k)) none=some (sl b o k 1,h):=by
 have:(k:Int)<=n:=by omega
 simp[aSlice,bound,hk]
theorem cut_from{h:Heap}{b o n k:Nat}(hk:k<=n):aSlice 3 h (sl b o n 1) (some (I k)) none none=some (sl b (o+k) (n-k) 1,h):=by
 simp[aSlice,bound,hk]
variable {lo : Nat}
/-- The character of a place. -/
def charP(X:Pan)(x y:Int):UInt8:=if ptQ X.1 X.2.1 x y then(if edgeW X.1.toNat X.2.1.toNat x y then 46 else signB (kindW X.1.toNat X.2.1.toNat X.2.2 x y))else 32
def lineP(X:Pan)(y:Nat)(k:Nat):List UInt8:=(List.range k).map λx=>charP X (x:Nat) (y:Nat)
def picP(X:Pan)(k:Nat):List (List UInt8):=(List.range k).map λy=>lineP X y (2*X.1.toNat+1)
theorem lineP_succ(X:Pan)(y k:Nat):lineP X y (k+1)=lineP X y k++[charP X (k:Nat) (y:Nat)]:=by simp[lineP,List.range_succ]
theorem lineP_len(X:Pan)(y k:Nat):(lineP X y k).length=k:=by simp[lineP]
theorem picP_succ(X:Pan)(k:Nat):picP X (k+1)=picP X k++[lineP X k (2*X.1.toNat+1)]:=by simp[picP,List.range_succ]
theorem picP_len(X:Pan)(k:Nat):(picP X k).length=k:=by simp[picP]
theorem kindW_bd{X:Pan}(ok:OkP X){x y:Int}:0<=kindW X.1.toNat X.2.1.toNat X.2.2 x y∧kindW X.1.toNat X.2.1.toNat X.2.2 x y<=2:=by
 unfold kindW
 split
 ·omega
 ·unfold at0
  by_cases q:numP X.1.toNat x.toNat y.toNat<X.2.2.length
  ·rw[List.getD_eq_getElem?_getD,List.getElem?_eq_getElem q]
   exact ok.b _ (List.getElem_mem q)
  ·rw[List.getD_eq_getElem?_getD,List.getElem?_eq_none (by omega)]
   simp
theorem sign_idx{k:Int}(hk:0<=k∧k<=2):(if 0<=k∧k<3 then Option.map (λb:UInt8=>U (b.toNat:Int)) [43,124,45][k.toNat]? else none)=some (U ((signB k).toNat:Int)):=by
 have:k=0∨k=1∨k=2:=by omega
 rcases this with rfl|rfl|rfl<;>rfl
theorem ptQ_iff{W H x y:Int}:ptQ W H x y=true↔(0<=x∧x<=2*W)∧(0<=y∧y<=2*H)∧(x+y)%2=1:=by
 unfold ptQ;simp
theorem c48(h:Heap)(W H:Int)(br:List Int)(s:Value)(x y:Nat)(ok:OkP (W,H,br))(hr:Vr h shInts s br)(hx:x<=16)(hy:y<=16):ACall Gam 48 [.agg #[I W,I H,s],.agg #[I x,I y]] h λr h'=>r=U (charP (W,H,br) (x:Nat) (y:Nat)).toNat∧h'=h:=by
 have w8:=ok.w
 have h8:=ok.h
 have hrow:=ok.row
 simp only at w8 h8 hrow
 obtain⟨A,eA⟩:∃A,A=charP (W,H,br) (x:Nat) (y:Nat):=⟨_,rfl⟩
 have eA0:=eA
 rw[<-eA]
 unfold charP at eA0
 have kb:=kindW_bd ok (x:=x) (y:=y)
 simp only at eA0 kb
 obtain⟨sb,so,sz,rfl,_,_,_,hc⟩:=hr.ints
 refine ACall_intro g48 rfl ?_
 unfold fn48
 rw[awp_seq,awp_reg]
 generalize hK:seqQ Gam _ _ 0=K
 simp(disch:=omega)
 subst hK
 simp only[seqQ_zero]
 rw[awp_seq]
 generalize hK:seqQ Gam _ _=K
 simp(disch:=omega)
 refine callW_of (c36 h W H x y _ w8 h8) ?_
 rintro _ _⟨rfl,rfl⟩
 try refine⟨λe=>(by cases e),?_⟩
 cases ep:ptQ W H x y
 ·rw[ep]at eA0
  simp only[Bool.false_eq_true,if_false]at eA0
  subst eA0
  simp(disch:=omega)
  subst hK
  simp(disch:=omega)
 rw[ep]at eA0
 simp only[if_true]at eA0
 obtain⟨p1,p2,p3⟩:=ptQ_iff.1 ep
 simp(disch:=omega)
 rename_i hz
 refine callW_of (c34 hz W H x y _ w8 h8) ?_
 rintro _ _⟨rfl,rfl⟩
 try refine⟨λe=>(by cases e),?_⟩
 by_cases e0:edgeW W.toNat H.toNat (x:Int) (y:Int)
 ·rw[if_pos e0]at eA0
  subst eA0
  simp(disch:=omega)[e0]
  subst hK
  simp(disch:=omega)
 rw[if_neg e0]at eA0
 simp(disch:=omega)[e0]
 subst hK
 simp only[seqQ_zero]
 rename_i hz
 have ne:=e0
 unfold edgeW at ne
 have hW:(W.toNat:Int)=W:=by omega
 have hH:(H.toNat:Int)=H:=by omega
 have hx1:1<=x∧x<2*W.toNat:=by omega
 have hy1:1<=y∧y<2*H.toNat:=by omega
 have hpar:(x+y)%2=1:=by omega
 have hk:=numP_lt (W:=W.toNat) (H:=H.toNat) (x:=x) (y:=y) hx1 hy1 hpar
 have hnl:numP W.toNat x y<br.length:=by rw[hrow];exact hk
 have ekd:kindW W.toNat H.toNat br (x:Int) (y:Int)=br[numP W.toNat x y]:=by
  unfold kindW
  rw[if_neg e0]
  simp only[Int.toNat_natCast]
  exact at0_of hnl
 have hcb:=ints_cell hc hnl
 rw[<-ekd]at hcb
 obtain⟨kd,ekd2⟩:∃kd,kd=kindW W.toNat H.toNat br (x:Int) (y:Int):=⟨_,rfl⟩
 rw[<-ekd2]at hcb eA0 kb
 have c40':=c40 hz W.toNat H.toNat x y (sl sb so br.length sz) (by omega) (by omega) (by omega) (by omega) hpar
 rw[hW,hH]at c40'
 simp(disch:=omega)
 refine callW_of c40' ?_
 rintro _ _⟨rfl,rfl⟩
 try refine⟨λe=>(by cases e),?_⟩
 have si:=sign_idx kb
 rw[<-eA0]at si
 simp(disch:=omega)[hnl,hcb,si]
theorem app_byte{h h':Heap}{v:Value}{l:List UInt8}{b:UInt8}{K:Value->Heap->Prop}(hp:0<h.length)(hl:l.length<=1000000)(hg:Grows h h')(hv:Buf h h' v 1 (bytesV l))
  (hK:∀v' h'',Grows h h''->Buf h h'' v' 1 (bytesV (l++[b]))->K v' h''):bindW (aBuildSlice 1 1 h' [(0,.agg #[U 0]),(1,U b.toNat)]) λy h''=>bindW (aAppend 1 h'' y v) K:=by
 have e:aBuildSlice 1 1 h' [(0,.agg #[U 0]),(1,U b.toNat)]=some (sl h'.length 0 1 1,h'++[⟨bytesV [b],true⟩]):=by simp[aBuildSlice,bytesV]
 exact append_bytes (xs:=[b]) (n:=1) hp (by simp;omega) hg hv (by simp) rfl e hK
theorem c47(h:Heap)(hp:0<h.length)(W H:Int)(br:List Int)(s:Value)(ok:OkP (W,H,br))(hr:Vr h shInts s br):ACall Gam 47 [.agg #[I W,I H,s],.func (.func 48) #[.agg #[I W,I H,s]] #[]] h λr h'=>Grows h h'∧Buf h h' r 1 (texts (picP (W,H,br) (2*H.toNat+1))):=by
 have w8:=ok.w
 have h8:=ok.h
 simp only at w8 h8
 have ls:=lineP_succ (W,H,br)
 have ll:=lineP_len (W,H,br)
 have ps:=picP_succ (W,H,br)
 have pl:=picP_len (W,H,br)
 have ck:=λh' hr' x y hx hy=>c48 h' W H br s x y ok hr' hx hy
 obtain⟨Fl,eF⟩:∃F,F=lineP (W,H,br):=⟨_,rfl⟩
 obtain⟨Fp,eP⟩:∃F,F=picP (W,H,br):=⟨_,rfl⟩
 obtain⟨Fc,eC⟩:∃F,F=charP (W,H,br):=⟨_,rfl⟩
 obtain⟨m,em⟩:∃m,m=2*W.toNat+1:=⟨_,rfl⟩
 obtain⟨n,en⟩:∃n,n=2*H.toNat+1:=⟨_,rfl⟩
 have f0:∀y,Fl y 0=[]:=λy=>by rw[eF];rfl
 have p0:Fp 0=[]:=by rw[eP];rfl
 simp only[<-eF,<-eP,<-eC,<-em,<-en]at ls ll ps pl ck ⊢
 have hH:IntKind.i64.wrap (2*H)=2*H:=wrap64 (by omega) (by omega)
 have hH1:IntKind.i64.wrap (2*H+1)=n:=by rw[wrap64 (by omega) (by omega)];omega
 have hW:IntKind.i64.wrap (2*W)=2*W:=wrap64 (by omega) (by omega)
 have hW1:IntKind.i64.wrap (2*W+1)=m:=by rw[wrap64 (by omega) (by omega)];omega
 refine ACall_intro g47 rfl ?_
 unfold fn47
 rw[awp_seq,awp_reg]
 generalize hK:seqQ Gam _ _ 0=K
 simp(disch:=omega)
 subst hK
 simp only[seqQ_zero]
 rw[awp_seq,awp_reg]
 generalize hK:seqQ Gam _ _ 0=K
 simp(disch:=omega)
 subst hK
 simp only[seqQ_zero]
 rw[awp_seq]
 generalize hP:seqQ Gam _ _=PP
 simp(disch:=omega)[hH,hH1]
 obtain⟨fv,efv⟩:∃fv,fv=Value.func (.func 48) #[.agg #[I W,I H,s]] #[]:=⟨_,rfl⟩
 refine awp_loop (λy σ h'=>y<=n∧Grows h h'∧Buf h h' (σ 5) 1 (texts (Fp y))∧σ 1=fv∧σ 2=.agg #[I W,I H,s]∧σ 13=I n∧σ 14=I y) (λy=>n-y) 0 ?_ ?_
 ·exact⟨by omega,Grows.refl _,by rw[p0];simpa [texts]using Buf.nil,by simp[efv],by simp,by simp,by simp⟩
 rintro y σ h'⟨hy,hg,b5,q1,q2,q13,q14⟩
 simp(disch:=omega)[q13,q14]
 refine fork_dec (λhlt=>?_) (λhge=>?_)
 ·have y1:y<n:=by omega
  have hp':=pos_of hp hg
  rw[runT_inl,awp_skip,seqQ_zero,awp_seq]
  generalize hB:seqQ Gam _ _=BB
  rw[awp_block]
  generalize hB1:blockQ _ BB=B1
  rw[awp_seq,awp_reg]
  generalize hK:seqQ Gam _ _ 0=K
  simp(disch:=omega)[q14]
  subst hK
  simp only[seqQ_zero]
  rw[awp_seq,awp_reg]
  generalize hK:seqQ Gam _ _ 0=K
  simp(disch:=omega)
  subst hK
  simp only[seqQ_zero]
  rw[awp_seq]
  generalize hK:seqQ Gam _ _=K
  simp(disch:=omega)[q2,hW,hW1]
  refine awp_loop (λx τ hh=>x<=m∧Grows h' hh∧Buf h' hh (τ 7) 1 (bytesV (Fl y x))∧τ 1=fv∧τ 2=.agg #[I W,I H,s]∧τ 5=σ 5∧τ 6=I y∧τ 13=I n∧τ 14=I y∧τ 21=I m∧τ 22=I x) (λx=>m-x) 0 ?_ ?_
  ·exact⟨by omega,Grows.refl _,by rw[f0];simpa [bytesV]using Buf.nil,by simpa using q1,by simpa using q2,by simp,by simp,by simpa using q13,by simpa using q14,by simp,by simp⟩
  rintro x τ hh⟨hx,gx,b7,t1,t2,t5,t6,t13,t14,t21,t22⟩
  simp(disch:=omega)[t21,t22]
  refine fork_dec (λhlt=>?_) (λhge=>?_)
  ·have x1:x<m:=by omega
   simp(disch:=omega)[t1,t6,t22,efv]
   refine callW_of (ck hh (hr.grow (hg.trans gx)) x y (by omega) (by omega)) ?_
   rintro _ _⟨rfl,rfl⟩
   try refine⟨λe=>(by cases e),?_⟩
   try simp(disch:=omega)
   refine app_byte hp' (by rw[ll];omega) gx b7 λv4 h4 g4 b4=>?_
   rw[<-ls]at b4
   simp(disch:=omega)[t22,wrap64]
   refine⟨x+1,?_,by omega⟩
   and_intros<;>first|assumption|omega|rfl
  ·have:x=m:=by omega
   subst this
   simp(disch:=omega)
   subst hK
   simp only[seqQ_zero]
   rw[awp_reg]
   have tb:=text_buf b7
   simp(disch:=omega)[t5,tb]
   refine append_word hp (by rw[pl];omega) (hg.trans gx) (b5.grow gx) λv4 h4 g4 b4=>?_
   rw[<-ps]at b4
   try simp(disch:=omega)
   subst hB1
   rw[blockQ_eq,if_neg (by omega)]
   subst hB
   simp only[seqQ_zero]
   simp(disch:=omega)[t14,wrap64]
   refine⟨y+1,?_,by omega⟩
   and_intros<;>first|assumption|omega|rfl
 ·have:y=n:=by omega
  subst this
  simp(disch:=omega)
  subst hP
  obtain⟨bb,e5⟩:=b5.sl1
  rw[e5]at b5
  simp(disch:=omega)[e5]
  exact⟨hg,b5⟩
theorem recv48{f:Nat}{W H:Int}{b o n z:Nat}{h:Heap}:funcV f [.agg #[I W,I H,sl b o n z]] [] h=some (.func (.func f) #[.agg #[I W,I H,sl b o n z]] #[],h):=rfl
theorem c110(h:Heap)(hp:0<h.length)(v:Value)(X:Pan)(hv:Vr h shPanel v X)(ok:OkP X):ACall Gam 110 [v] h λr h'=>Grows h h'∧∃w,r=.tuple #[w,I 0]∧Buf h h' w 1 (texts (picP X (2*X.2.1.toNat+1))):=by
 have hv0:=hv
 obtain⟨W,H,br⟩:=X
 obtain⟨s,rfl,w1,w2,r⟩:=hv.panel
 refine ACall_intro g110 rfl ?_
 unfold fn110
 rw[awp_seq,awp_reg]
 generalize hK:seqQ Gam _ _ 0=K
 simp(disch:=omega)
 subst hK
 simp only[seqQ_zero]
 rw[awp_seq]
 generalize hK:seqQ Gam _ _=K
 simp(disch:=omega)
 refine callW_of (c140 _ _ h hv0) ?_
 rintro _ h1⟨rfl,rfl⟩
 try refine⟨λe=>(by cases e),?_⟩
 rw[okP_iff.2 ok]
 simp(disch:=omega)
 subst hK
 simp only[seqQ_zero]
 obtain⟨sb,so,sn,sz,rfl⟩:∃b o n z,s=sl b o n z:=by obtain⟨b,o,z,e,_⟩:=r.ints;exact⟨b,o,_,z,e⟩
 rw[awp_seq,awp_reg]
 generalize hK:seqQ Gam _ _ 0=K
 simp(disch:=omega)[recv48]
 refine callW_of (c47 h1 hp W H br _ ok r) ?_
 rintro w h2⟨g2,b2⟩
 try refine⟨λe=>(by first|exact g2|cases e),?_⟩
 obtain⟨bb,rfl⟩:=b2.sl1
 try simp(disch:=omega)
 subst hK
 simp(disch:=omega)
 exact⟨g2,b2⟩
abbrev Poly:=Int×List Int
def w64(n:Int):Int:=IntKind.i64.wrap n
/-- All but these m elements from f on are zero; their ends are not. -/
structure Trim (cs:List Int) (f m:Nat):Prop where
 le:f+m<=cs.length
 lo:∀i,i<f->cs.getD i 0=0
 hi:∀i,f+m<=i->i<cs.length->cs.getD i 0=0
 ends:m=0∨(cs.getD f 0≠0∧cs.getD (f+m-1) 0≠0)
open Classical in
noncomputable def trimP(low:Int)(cs:List Int):Poly:=if h:∃p:Nat×Nat,Trim cs p.1 p.2∧p.2≠0 then(low+(Classical.choose h).1,(cs.drop (Classical.choose h).1).take (Classical.choose h).2)else(0,[])
theorem Trim.uniq{cs:List Int}{f m f' m':Nat}(a:Trim cs f m)(b:Trim cs f' m')(hm:m≠0):f'=f∧m'=m:=by
 obtain⟨a1,a2⟩:=a.ends.resolve_left hm
 have hm':m'≠0:=by
  intro e
  subst e
  by_cases q:f<f'
  ·exact a1 (b.lo f q)
  ·exact a1 (b.hi f (by omega) (by have:=a.le;omega))
 obtain⟨b1,b2⟩:=b.ends.resolve_left hm'
 have la:=a.le
 have lb:=b.le
 have h1:¬f<f':=λq=>a1 (b.lo f q)
 have h2:¬f'<f:=λq=>b1 (a.lo f' q)
 have h3:¬f'+m'<=f+m-1:=λq=>a2 (b.hi _ q (by omega))
 have h4:¬f+m<=f'+m'-1:=λq=>b2 (a.hi _ q (by omega))
 omega
theorem trim_is{low:Int}{cs:List Int}{f m:Nat}(a:Trim cs f m):trimP low cs=if m=0 then(0,[])else(low+f,(cs.drop f).take m):=by
 unfold trimP
 by_cases hm:m=0
 ·rw[if_pos hm,dif_neg]
  rintro⟨⟨f',m'⟩,b,hm'⟩
  have:=b.uniq a hm'
  exact hm' (by simp only at hm' this;omega)
 ·rw[if_neg hm,dif_pos ⟨(f,m),a,hm⟩]
  have hx:∃p:Nat×Nat,Trim cs p.1 p.2∧p.2≠0:=⟨(f,m),a,hm⟩
  obtain⟨h1,h2⟩:=Classical.choose_spec hx
  obtain⟨e1,e2⟩:=a.uniq h1 hm
  rw[e1,e2]
/-- What stands behind: no zeros at the ends, or nothing at all. -/
structure Neat (B:Nat) (p:Poly):Prop where
 ends:p.2=[]∧p.1=0∨(p.2≠[]∧Trim p.2 0 p.2.length)
 bd:p.2≠[]->-(B:Int)<=p.1∧p.1+p.2.length<=B
 i64:∀x∈p.2,I64 x
theorem Trim.ex(cs:List Int):∃f m,Trim cs f m:=by
 by_cases h:∃f m,Trim cs f m∧m≠0
 ·obtain⟨f,m,a,_⟩:=h;exact⟨f,m,a⟩
 refine⟨0,0,by omega,by intro i hi;omega,?_,.inl rfl⟩
 intro i _ hi
 refine Classical.byContradiction λhne=>h ?_
 -- the first that is not zero, and the last
 have p1:∃f,cs.getD f 0≠0∧∀j,j<f->cs.getD j 0=0:=by
  have:∀n,(∃f,f<n∧cs.getD f 0≠0∧∀j,j<f->cs.getD j 0=0)∨∀j,j<n->cs.getD j 0=0:=by
   intro n
   induction n with
   |zero=>right;intro j hj;omega
   |succ n ih=>
    rcases ih with⟨f,hf,a,b⟩|ih
    ·exact .inl ⟨f,by omega,a,b⟩
    ·by_cases q:cs.getD n 0=0
     ·right;intro j hj
      by_cases e:j=n
      ·rw[e];exact q
      ·exact ih j (by omega)
     ·exact .inl ⟨n,by omega,q,ih⟩
  rcases this (i+1)with⟨f,_,a,b⟩|a
  ·exact⟨f,a,b⟩
  ·exact absurd (a i (by omega)) hne
 have p2:∃l,l<cs.length∧cs.getD l 0≠0∧∀j,l<j->j<cs.length->cs.getD j 0=0:=by
  have:∀n,n<=cs.length->(∃l,l<cs.length∧cs.length-n<=l∧cs.getD l 0≠0∧∀j,l<j->j<cs.length->cs.getD j 0=0)∨∀j,cs.length-n<=j->j<cs.length->cs.getD j 0=0:=by
   intro n
   induction n with
   |zero=>intro _;right;intro j hj hj2;omega
   |succ n ih=>
    intro hn
    rcases ih (by omega)with⟨l,a0,a,b,c⟩|ih
    ·exact .inl ⟨l,a0,by omega,b,c⟩
    ·by_cases q:cs.getD (cs.length-(n+1)) 0=0
     ·right;intro j hj hj2
      by_cases e:j=cs.length-(n+1)
      ·rw[e];exact q
      ·exact ih j (by omega) hj2
     ·exact .inl ⟨cs.length-(n+1),by omega,by omega,q,λj h1 h2=>ih j (by omega) h2⟩
  rcases this cs.length (Nat.le_refl _)with⟨l,a0,_,a,b⟩|a
  ·exact⟨l,a0,a,b⟩
  ·exact absurd (a i (by omega) hi) hne
 obtain⟨f,f1,f2⟩:=p1
 obtain⟨l,l0,l1,l2⟩:=p2
 have hfl:f<=l:=by
  by_cases q:l<f
  ·exact absurd (f2 l q) l1
  ·omega
 refine⟨f,l+1-f,⟨by omega,f2,λi h1 h2=>l2 i (by omega) h2,.inr ⟨f1,?_⟩⟩,by omega⟩
 rw[show f+(l+1-f)-1=l by omega]
 exact l1
theorem getD_part{cs:List Int}{f m i:Nat}(hi:i<m)(hm:f+m<=cs.length):((cs.drop f).take m).getD i 0=cs.getD (f+i) 0:=by
 simp[List.getD_eq_getElem?_getD,List.getElem?_take_of_lt hi]
theorem trim_neat{B:Nat}{low:Int}{cs:List Int}(hx:∀x∈cs,I64 x)(hb:-(B:Int)<=low∧low+cs.length<=B):Neat B (trimP low cs):=by
 obtain⟨f,m,a⟩:=Trim.ex cs
 rw[trim_is a]
 by_cases hm:m=0
 ·rw[if_pos hm]
  exact⟨.inl ⟨rfl,rfl⟩,by simp,by simp⟩
 ·rw[if_neg hm]
  have hl:((cs.drop f).take m).length=m:=by have:=a.le;simp;omega
  have hne:(cs.drop f).take m≠[]:=by intro e;rw[e]at hl;simp at hl;omega
  obtain⟨a1,a2⟩:=a.ends.resolve_left hm
  refine⟨.inr ⟨hne,⟨by omega,by intro i hi;omega,by intro i h1 h2;omega,.inr ⟨?_,?_⟩⟩⟩,λ_=>?_,λx hx'=>hx x ?_⟩
  ·simp only
   rw[getD_part (by omega) a.le];exact a1
  ·simp only
   rw[hl,getD_part (by omega) a.le,show f+(0+m-1)=f+m-1 by omega];exact a2
  ·have:=a.le
   simp only[hl]
   omega
  ·exact List.mem_of_mem_drop (List.mem_of_mem_take hx')
/-- Trimmed already. -/
theorem trim_same{B:Nat}{p:Poly}(h:Neat B p):trimP p.1 p.2=p:=by
 rcases h.ends with⟨a,b⟩|⟨a,b⟩
 ·have t:Trim p.2 0 0:=by rw[a];exact⟨by simp,by simp,by simp,.inl rfl⟩
  rw[trim_is t,if_pos rfl]
  obtain⟨x,y⟩:=p
  simp only at a b
  rw[a,b]
 ·have hl:p.2.length≠0:=by intro e;exact a (List.length_eq_zero_iff.1 e)
  rw[trim_is b,if_neg hl]
  simp
/-- Times a power. -/
def shiftP(k:Int)(p:Poly):Poly:=if p.2=[]then(0,[])else(p.1+k,p.2)
theorem trim_shift{low k:Int}{cs:List Int}:trimP (low+k) cs=shiftP k (trimP low cs):=by
 obtain⟨f,m,a⟩:=Trim.ex cs
 rw[trim_is a,trim_is a]
 by_cases hm:m=0
 ·rw[if_pos hm,if_pos hm];rfl
 ·rw[if_neg hm,if_neg hm]
  have hl:((cs.drop f).take m).length=m:=by have:=a.le;simp;omega
  have hne:(cs.drop f).take m≠[]:=by intro e;rw[e]at hl;simp at hl;omega
  unfold shiftP
  rw[if_neg hne]
  simp only
  congr 1
  omega
/-- One number added at a place. -/
def addAt(out:List Int)(i:Nat)(x:Int):List Int:=out.set i (w64 (out.getD i 0+x))
def addK(A:List Int)(off:Nat):Nat->List Int->List Int
 |0,out=>out
 |k+1,out=>addAt (addK A off k out) (off+k) (A.getD k 0)
def mulK(A B:List Int)(i:Nat):Nat->List Int->List Int
 |0,out=>out
 |k+1,out=>addAt (mulK A B i k out) (i+k) (w64 (A.getD i 0*B.getD k 0))
def mulI(A B:List Int):Nat->List Int
 |0=>List.replicate (A.length+B.length-1) 0
 |i+1=>mulK A B i B.length (mulI A B i)
noncomputable def mulP(a b:Poly):Poly:=if a.2=[]∨b.2=[]then(0,[])else trimP (a.1+b.1) (mulI a.2 b.2 a.2.length)
def addI(a b:Poly):List Int:=addK b.2 (b.1-min a.1 b.1).toNat b.2.length (addK a.2 (a.1-min a.1 b.1).toNat a.2.length (List.replicate (max (a.1+a.2.length) (b.1+b.2.length)-min a.1 b.1).toNat 0))
noncomputable def addP(a b:Poly):Poly:=if a.2=[]then trimP b.1 b.2 else if b.2=[]then trimP a.1 a.2 else trimP (min a.1 b.1) (addI a b)
theorem w64_ok(n:Int):I64 (w64 n):=by
 unfold w64 I64 IntKind.wrap
 have e:(2:Int)^64=18446744073709551616:=rfl
 have e2:(2:Int)^(64-1)=9223372036854775808:=rfl
 simp only[IntKind.signed,IntKind.bits,Bool.true_and,decide_eq_true_eq,e,e2]
 split<;>constructor<;>omega
theorem addAt_len{out:List Int}{i:Nat}{x:Int}:(addAt out i x).length=out.length:=by simp[addAt]
theorem addAt_i64{out:List Int}{i:Nat}{x:Int}(h:∀y∈out,I64 y):∀y∈addAt out i x,I64 y:=by
 intro y hy
 rcases List.mem_or_eq_of_mem_set hy with h1|h1
 ·exact h y h1
 ·rw[h1];exact w64_ok _
theorem addK_len{A:List Int}{off:Nat}:∀(k:Nat) (out:List Int),(addK A off k out).length=out.length
 |0,_=>rfl
 |k+1,out=>by rw[addK,addAt_len,addK_len k]
theorem addK_i64{A:List Int}{off:Nat}:∀(k:Nat) (out:List Int),(∀y∈out,I64 y)->∀y∈addK A off k out,I64 y
 |0,_,h=>h
 |k+1,out,h=>addAt_i64 (addK_i64 k out h)
theorem mulK_len{A B:List Int}{i:Nat}:∀(k:Nat) (out:List Int),(mulK A B i k out).length=out.length
 |0,_=>rfl
 |k+1,out=>by rw[mulK,addAt_len,mulK_len k]
theorem mulK_i64{A B:List Int}{i:Nat}:∀(k:Nat) (out:List Int),(∀y∈out,I64 y)->∀y∈mulK A B i k out,I64 y
 |0,_,h=>h
 |k+1,out,h=>addAt_i64 (mulK_i64 k out h)
theorem zeros_i64{n:Nat}:∀y∈List.replicate n (0:Int),I64 y:=by
 intro y hy
 rw[List.eq_of_mem_replicate hy]
 exact⟨by omega,by omega⟩
theorem mulI_len{A B:List Int}:∀i,(mulI A B i).length=A.length+B.length-1
 |0=>by simp[mulI]
 |i+1=>by rw[mulI,mulK_len,mulI_len i]
theorem mulI_i64{A B:List Int}:∀i,∀y∈mulI A B i,I64 y
 |0=>zeros_i64
 |i+1=>mulK_i64 _ _ (mulI_i64 i)
theorem mul_neat{B C:Nat}{a b:Poly}(ha:Neat B a)(hb:Neat C b):Neat (B+C) (mulP a b):=by
 unfold mulP
 split
 ·exact⟨.inl ⟨rfl,rfl⟩,by simp,by simp⟩
 ·rename_i h
  have h1:a.2≠[]:=λe=>h (.inl e)
  have h2:b.2≠[]:=λe=>h (.inr e)
  have l1:a.2.length≠0:=by intro e;exact h1 (List.length_eq_zero_iff.1 e)
  have l2:b.2.length≠0:=by intro e;exact h2 (List.length_eq_zero_iff.1 e)
  refine trim_neat (mulI_i64 _) ?_
  rw[mulI_len]
  have:=ha.bd h1
  have:=hb.bd h2
  omega
theorem neat_trim{B:Nat}{p:Poly}(h:Neat B p):Neat B (trimP p.1 p.2):=by rw[trim_same h];exact h
theorem add_neat{B:Nat}{a b:Poly}(ha:Neat B a)(hb:Neat B b):Neat B (addP a b):=by
 unfold addP
 split
 ·exact neat_trim hb
 ·rename_i h1
  split
  ·exact neat_trim ha
  ·rename_i h2
   refine trim_neat (addK_i64 _ _ (addK_i64 _ _ zeros_i64)) ?_
   unfold addI
   rw[addK_len,addK_len,List.length_replicate]
   have:=ha.bd h1
   have:=hb.bd h2
   omega
theorem mul_shift{k:Int}{a b:Poly}:mulP (shiftP k a) b=shiftP k (mulP a b):=by
 unfold mulP
 by_cases h1:a.2=[]
 ·have e:(shiftP k a).2=[]:=by unfold shiftP;rw[if_pos h1]
  rw[if_pos (.inl e),if_pos (.inl h1)];rfl
 ·have e:shiftP k a=(a.1+k,a.2):=by unfold shiftP;rw[if_neg h1]
  rw[e]
  by_cases h2:b.2=[]
  ·rw[if_pos (.inr h2),if_pos (.inr h2)];rfl
  ·rw[if_neg (by simp[h1,h2]),if_neg (by simp[h1,h2])]
   simp only
   rw[show a.1+k+b.1=a.1+b.1+k by omega]
   exact trim_shift
def loopP:Poly:=(-2,[-1,0,0,0,-1])
def unitP:Poly:=(0,[1])
noncomputable def pwP:Nat->Poly
 |0=>unitP
 |k+1=>mulP (pwP k) loopP
noncomputable def pwS(p:Int):Nat->Poly
 |0=>(p,[1])
 |k+1=>mulP (pwS p k) loopP
theorem pwS_is(p:Int):∀k,pwS p k=shiftP p (pwP k)
 |0=>by simp[pwS,pwP,shiftP,unitP]
 |k+1=>by rw[pwS,pwP,pwS_is p k,mul_shift]
theorem loop_neat:Neat 3 loopP:=⟨.inr ⟨by decide,⟨by decide,by decide,λi h1 h2=>by omega,.inr ⟨by decide,by decide⟩⟩⟩,by decide,λx hx=>by simp[loopP]at hx;unfold I64;omega⟩
end Am

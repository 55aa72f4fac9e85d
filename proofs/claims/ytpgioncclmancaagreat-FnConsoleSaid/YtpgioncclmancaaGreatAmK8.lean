/- Contracts: AmH4, AmH5, AmH6, AmH7, AmH8, AmH9, AmH10, AmH11, AmH12. -/
import Derived.Test.YtpgioncclmancaaGreatAmK7
import Derived.Test.YtpgioncclmancaaGreatAmK5
import Derived.Test.YtpgioncclmancaaGreatAmK2
import Derived.Test.YtpgioncclmancaaGreatAmTab
set_option linter.unusedVariables false
set_option linter.unusedSimpArgs false
set_option maxHeartbeats 4000000
set_option maxRecDepth 40000
namespace Am
open Go
/-- Whether lines cross at a point. -/
def crossQ(W H:Nat)(br:List Int)(x y:Int):Bool:=!decide (edgeW W H x y)&&decide (at0 br (numP W x.toNat y.toNat)=0)
def cntZ(br:List Int)(k:Nat):Nat:=((br.take k).filter λx=>decide (x=0)).length
theorem cntZ_le(br:List Int)(k:Nat):cntZ br k<=k:=by
 unfold cntZ
 have h1:=List.length_filter_le (λx=>decide (x=0)) (br.take k)
 rw[List.length_take]at h1
 omega
theorem cntZ_succ{br:List Int}{k:Nat}(hk:k<br.length):cntZ br (k+1)=cntZ br k+if br[k]=0 then 1 else 0:=by
 unfold cntZ
 rw[List.take_succ_eq_append_getElem hk,List.filter_append,List.length_append]
 by_cases e:br[k]=0<;>simp[e]
def slopeW(x:Int):Int:=if x%2=1 then 1 else -1
/-- The next point of a walker, inner or not. -/
structure NxP (W H:Nat) (x y:Int):Prop where
 hx:0<=x∧x<=2*W
 hy:0<=y∧y<=2*H
 hp:(x+y)%2=1
theorem OkW.nxp{W H:Nat}{w:Wk}(h:OkW W H w):NxP W H (w.1+w.2.2.1) (w.2.1+w.2.2.2):=by
 obtain⟨d1,d2,p1,p2,p3,p4,p5⟩:=h
 exact⟨p3,p4,by rcases d1 with e|e<;>rcases d2 with f|f<;>rw[e,f]<;>omega⟩
theorem inner_num{W H:Nat}{br:List Int}{x y:Int}(n:NxP W H x y)(hn:br.length=rowN W (2*H))(w1:1<=W)(h1:1<=H)(he:¬edgeW W H x y):∃a b:Nat,x=a∧y=b∧(1<=a∧a<2*W)∧(1<=b∧b<2*H)∧(a+b)%2=1∧numP W a b<br.length:=by
 obtain⟨p3,p4,p5⟩:=n
 unfold edgeW at he
 simp only[not_or]at he
 refine⟨x.toNat,y.toNat,by omega,by omega,by omega,by omega,by omega,?_⟩
 rw[hn]
 exact numP_lt (by omega) (by omega) (by omega)
theorem OkP.nat{W H:Int}{br:List Int}(ok:OkP (W,H,br)):∃a b:Nat,W=a∧H=b∧W.toNat=a∧H.toNat=b∧1<=a∧a<9∧1<=b∧b<9∧br.length=rowN a (2*b):=by
 have hr:=ok.row
 have h1:=ok.w
 have h2:=ok.h
 simp only at h1 h2 hr
 exact⟨W.toNat,H.toNat,by omega,by omega,rfl,rfl,by omega,by omega,by omega,by omega,hr⟩
theorem c35(h:Heap)(W H x y:Int)(br:List Int)(s:Value)(ok:OkP (W,H,br))(hr:Vr h shInts s br)(n:NxP W.toNat H.toNat x y):ACall Gam 35 [.agg #[I W,I H,s],.agg #[I x,I y]] h λr h'=>r=B (crossQ W.toNat H.toNat br x y)∧h'=h:=by
 obtain⟨b2,o2,z2,rfl,_,hm,_,hc⟩:=hr.ints
 obtain⟨a,b,eW,eH,e1,e2,a1,a8,b1,b8,hrow⟩:=ok.nat
 rw[e1,e2]at n ⊢
 refine ACall_intro g35 rfl ?_
 unfold fn35
 simp(disch:=omega)
 refine callW_of (c34 h W H x y _ (by omega) (by omega)) ?_
 rintro _ h1⟨rfl,rfl⟩
 try refine⟨λe=>(by cases e),?_⟩
 rw[e1,e2]
 by_cases he:edgeW a b x y
 ·simp(disch:=omega)[he,crossQ]
 ·obtain⟨xa,ya,rfl,rfl,q1,q2,q3,q4⟩:=inner_num n hrow a1 b1 he
  simp(disch:=omega)[he]
  rw[eW,eH]
  refine callW_of (c40 h1 a b xa ya _ a1 a8 (by omega) (by omega) q3) ?_
  rintro _ h2⟨rfl,rfl⟩
  try refine⟨λe=>(by cases e),?_⟩
  have hcc:=ints_cell hc q4
  simp(disch:=omega)[q4,hcc,crossQ,he,at0_of q4]
theorem c179(h:Heap)(x y:Int)(hx:0<=x):ACall Gam 179 [.agg #[I x,I y]] h λr h'=>r=I (slopeW x)∧h'=h:=by
 have e:x.tmod 2=x%2:=Int.tmod_eq_emod_of_nonneg hx
 refine ACall_intro g179 rfl ?_
 unfold fn179
 simp(disch:=omega)[e]
 refine fork_dec (λh1=>?_) (λh1=>?_)
 ·simp(disch:=omega)[slopeW,h1]
 ·simp(disch:=omega)[slopeW,h1]
theorem c28(h:Heap)(W H x y:Int)(br:List Int)(s:Value)(ok:OkP (W,H,br))(hr:Vr h shInts s br)(n:NxP W.toNat H.toNat x y)(he:¬edgeW W.toNat H.toNat x y):ACall Gam 28 [.agg #[I W,I H,s],.agg #[I x,I y]] h λr h'=>r=I (cntZ br (numP W.toNat x.toNat y.toNat))∧h'=h:=by
 obtain⟨b2,o2,z2,rfl,hz,hm,_,hc⟩:=hr.ints
 have h128:=ok_len ok
 obtain⟨a,b,eW,eH,e1,e2,a1,a8,b1,b8,hrow⟩:=ok.nat
 rw[e1,e2]at n he
 rw[e1]
 obtain⟨xa,ya,rfl,rfl,q1,q2,q3,q4⟩:=inner_num n hrow a1 b1 he
 rw[Int.toNat_natCast,Int.toNat_natCast]
 obtain⟨N,hN⟩:∃N,N=numP a xa ya:=⟨_,rfl⟩
 have c4:=c40 h a b xa ya (sl b2 o2 br.length z2) a1 a8 (by omega) (by omega) q3
 rw[<-hN]at q4 c4 ⊢
 rw[eW,eH]
 refine ACall_intro g28 rfl ?_
 unfold fn28
 rw[awp_seq,awp_reg]
 generalize hK:seqQ Gam _ _ 0=K
 simp(disch:=omega)
 subst hK
 simp only[seqQ_zero]
 simp(disch:=omega)
 refine callW_of c4 ?_
 rintro _ h1⟨rfl,rfl⟩
 try refine⟨λe=>(by cases e),?_⟩
 have es:aSlice 3 h1 (sl b2 o2 br.length z2) none (some (I N)) none=some (sl b2 o2 N z2,h1):=by
  have:N<=br.length:=by omega
  simp[aSlice,bound,this]
  omega
 rw[es]
 simp only[bindW_some]
 simp(disch:=omega)
 refine awp_loop (λk σ h'=>h'=h1∧k<=N∧σ 5=I (cntZ br k)∧σ 13=sl b2 o2 N z2∧σ 14=I N∧σ 15=I k) (λk=>N-k) 0 ?_ ?_
 ·exact⟨rfl,by omega,by simp[cntZ],by simp,by simp,by simp⟩
 ·rintro k σ h'⟨rfl,hk,q5,q13,q14,q15⟩
  simp(disch:=omega)[q14,q15]
  refine fork_dec (λhlt=>?_) (λhge=>?_)
  ·have k1:k<N:=by omega
   have k2:k<br.length:=by omega
   have hcc:=ints_cell hc k2
   have hs:=cntZ_succ k2
   have hb:=cntZ_le br k
   simp(disch:=omega)[q5,q13,q14,q15,k1,hcc]
   by_cases e0:br[k]=0
   ·rw[if_pos e0]at hs
    simp(disch:=omega)[e0,q5,q15,wrap64]
    refine⟨k+1,?_,by omega⟩
    and_intros<;>first|assumption|rfl|omega|(simp[hs];done)|(simp[hs];omega)
   ·rw[if_neg e0]at hs
    simp(disch:=omega)[e0,q5,q15,wrap64]
    refine⟨k+1,?_,by omega⟩
    and_intros<;>first|assumption|rfl|omega|(simp[hs];done)|(simp[hs];omega)
  ·have:k=N:=by omega
   subst this
   simp(disch:=omega)[q5]
/-- A slice that is read; nil or not. -/
def Rw(h:Heap)(v:Value)(z:Nat)(cs:List Value):Prop:=∃b o n y,v=sl b o n y∧n*z=cs.length∧(n=0∨cellsAt h b o (n*z)=some cs)
theorem Rw.grow{h h':Heap}{v:Value}{z:Nat}{cs:List Value}(x:Rw h v z cs)(g:Grows h h'):Rw h' v z cs:=by
 obtain⟨b,o,n,y,h1,h2,h3⟩:=x
 exact⟨b,o,n,y,h1,h2,h3.imp id λh=>g.cellsAt h⟩
theorem Rw.nil{h:Heap}{z y:Nat}:Rw h (sl 0 0 0 y) z []:=⟨0,0,0,y,rfl,by simp,.inl rfl⟩
theorem Buf.rw{h0 h:Heap}{v:Value}{z:Nat}{cs:List Value}(x:Buf h0 h v z cs):Rw h v z cs:=by
 obtain⟨b,o,n,h1,h2,h3⟩:=x.reads
 exact⟨b,o,n,z,h1,h2,h3⟩
/-- Rows of equal length, one behind the other. -/
theorem flat_at{α:Type}{f:α->List Value}{z:Nat}(hf:∀a,(f a).length=z):∀{l:List α} {i:Nat} (hi:i<l.length),(((l.map f).flatten).drop (i*z)).take z=f l[i]
 |a::l,0,_=>by simp[<-hf a]
 |a::l,i+1,hi=>by
  have hi':i<l.length:=by simpa using hi
  have:=flat_at hf hi'
  simp only[List.map_cons,List.flatten_cons,List.getElem_cons_succ]
  rw[show(i+1)*z=(f a).length+i*z by rw[hf,Nat.add_mul];omega,List.drop_length_add_append]
  exact this
theorem flat_len{α:Type}{f:α->List Value}{z:Nat}(hf:∀a,(f a).length=z):∀{l:List α},((l.map f).flatten).length=l.length*z
 |[]=>by simp
 |a::l=>by simp only[List.map_cons,List.flatten_cons,List.length_append,hf,flat_len hf,List.length_cons,Nat.add_mul];omega
theorem flat_cells{α:Type}{f:α->List Value}{z:Nat}(hf:∀a,(f a).length=z){h:Heap}{b o n:Nat}{l:List α}(hn:n*z=(l.map f).flatten.length)(hz:0<z)(hc:n=0∨cellsAt h b o (n*z)=some (l.map f).flatten):n=l.length∧∀i (hi:i<l.length),cellsAt h b (o+i*z) z=some (f l[i]):=by
 rw[flat_len hf]at hn
 have e:n=l.length:=Nat.eq_of_mul_eq_mul_right hz hn
 refine⟨e,λi hi=>?_⟩
 rcases hc with hc|hc
 ·omega
 ·have:=cellsAt_in (i:=i*z) (m:=z) hc (by
   have:(i+1)*z<=n*z:=Nat.mul_le_mul_right z (by omega)
   rw[Nat.add_mul]at this;omega)
  rw[flat_at hf hi]at this
  exact this
/-- Walkers that are read. -/
def WkAt(h:Heap)(v:Value)(ws:List Wk):Prop:=∃b o,v=sl b o ws.length 4∧∀i (hi:i<ws.length),cellsAt h b (o+i*4) 4=some [I ws[i].1,I ws[i].2.1,I ws[i].2.2.1,I ws[i].2.2.2]
theorem WkAt.grow{h h':Heap}{v:Value}{ws:List Wk}(x:WkAt h v ws)(g:Grows h h'):WkAt h' v ws:=by
 obtain⟨b,o,e,c⟩:=x
 exact⟨b,o,e,λi hi=>g.cellsAt (c i hi)⟩
theorem wkAt_of{h:Heap}{b:Nat}{ws:List Wk}(hb:h[b]?=some ⟨wksV ws,true⟩):WkAt h (sl b 0 ws.length 4) ws:=by
 have hl:(wksV ws).length=ws.length*4:=by rw[wksV_len];omega
 refine⟨b,0,rfl,λi hi=>?_⟩
 exact(flat_cells (f:=λw:Wk=>[I w.1,I w.2.1,I w.2.2.1,I w.2.2.2]) (λ_=>rfl) (n:=ws.length) (hl.symm) (by omega) (.inr (cellsAt_all hb hl.symm))).2 i hi
def passAt(W H:Nat)(br:List Int)(w:Wk):Option (Int×Bool):=if crossQ W H br (w.1+w.2.2.1) (w.2.1+w.2.2.2)then some ((cntZ br (numP W (w.1+w.2.2.1).toNat (w.2.1+w.2.2.2).toNat):Nat),decide (w.2.2.1*w.2.2.2=slopeW (w.1+w.2.2.1)))else none
def passL(W H:Nat)(br:List Int)(ws:List Wk):List (Int×Bool):=ws.filterMap (passAt W H br)
def passV(l:List (Int×Bool)):List Value:=(l.map λp=>[I p.1,B p.2]).flatten
theorem passV_len{l:List (Int×Bool)}:(passV l).length=l.length*2:=flat_len (f:=λp:Int×Bool=>[I p.1,B p.2]) (λ_=>rfl)
theorem passL_snoc{W H:Nat}{br:List Int}{ws:List Wk}{w:Wk}:passL W H br (ws++[w])=passL W H br ws++(passAt W H br w).toList:=by
 unfold passL
 rw[List.filterMap_append]
 cases e:passAt W H br w<;>simp[e]
theorem passL_le{W H:Nat}{br:List Int}{ws:List Wk}:(passL W H br ws).length<=ws.length:=List.length_filterMap_le _ _
theorem cross_in{W H:Nat}{br:List Int}{x y:Int}(h:crossQ W H br x y=true):¬edgeW W H x y:=by
 unfold crossQ at h
 simp only[Bool.and_eq_true,Bool.not_eq_true',decide_eq_false_iff_not]at h
 exact h.1
/-- One pass at the end of an own list. -/
theorem app_pass{h h':Heap}{v:Value}{l:List (Int×Bool)}{c:Int}{b:Bool}{K:Value->Heap->Prop}(hp:0<h.length)(g:Grows h h')(hl:l.length<=1000)(hv:Buf h h' v 2 (passV l))
  (hK:∀v' h2,Grows h h2->Buf h h2 v' 2 (passV (l++[(c,b)]))->K v' h2):bindW (aAppend 2 (h'++[⟨[I c,B b],true⟩]) (sl h'.length 0 1 2) v) K:=by
 refine app1 hp g (Nat.le_refl _) g.le hv rfl (by omega) (by rw[passV_len];simp[maxSize];omega) λv' h2 g2 _ b2 _ _=>?_
 exact hK v' h2 g2 (by simpa [passV]using b2)
theorem c45(h:Heap)(hp:0<h.length)(W H:Int)(br:List Int)(s v:Value)(ws:List Wk)(ok:OkP (W,H,br))(hr:Vr h shInts s br)(hv:WkAt h v ws)(hws:∀w∈ws,OkW W.toNat H.toNat w)(hl:ws.length<=512):ACall Gam 45 [.agg #[I W,I H,s],v] h λr h'=>Grows h h'∧Buf h h' r 2 (passV (passL W.toNat H.toNat br ws)):=by
 obtain⟨b,o,rfl,hcell⟩:=hv
 obtain⟨a,bh,eW,eH,e1,e2,a1,a8,b1,b8,hrow⟩:=ok.nat
 refine ACall_intro g45 rfl ?_
 unfold fn45
 rw[awp_seq,awp_reg]
 generalize hK:seqQ Gam _ _ 0=K
 simp(disch:=omega)
 subst hK
 simp only[seqQ_zero]
 rw[awp_seq,awp_reg]
 generalize hK:seqQ Gam _ _ 0=K
 simp(disch:=omega)
 subst hK
 simp only[seqQ_zero]
 rw[awp_seq]
 generalize hP:seqQ Gam _ _=P
 simp(disch:=omega)
 refine awp_loop (λk σ h'=>k<=ws.length∧Grows h h'∧Buf h h' (σ 5) 2 (passV (passL W.toNat H.toNat br (ws.take k)))∧σ 2=.agg #[I W,I H,s]∧σ 10=sl b o ws.length 4∧σ 11=I ws.length∧σ 12=I k) (λk=>ws.length-k) 0 ?_ ?_
 ·exact⟨by omega,Grows.refl _,by simpa [passL,passV]using Buf.nil,by simp,by simp,by simp,by simp⟩
 ·rintro k σ h'⟨hk,hg,b5,q2,q10,q11,q12⟩
  simp(disch:=omega)[q11,q12]
  refine fork_dec (λhlt=>?_) (λhge=>?_)
  ·have k1:k<ws.length:=by omega
   have hcc:=hg.cellsAt (hcell k k1)
   have hw:=hws _ (List.getElem_mem k1)
   have hsn:ws.take (k+1)=ws.take k++[ws[k]]:=List.take_succ_eq_append_getElem k1
   have hpl:=passL_le (W:=W.toNat) (H:=H.toNat) (br:=br) (ws:=ws.take k)
   rw[List.length_take]at hpl
   obtain⟨w,ew⟩:∃w,w=ws[k]:=⟨_,rfl⟩
   rw[<-ew]at hcc hw hsn
   obtain⟨x,y,dx,dy⟩:=w
   have hn:=hw.nxp
   have hw0:=hw
   obtain⟨d1,d2,p1,p2,p3,p4,p5⟩:=hw0
   simp only at d1 d2 p1 p2 p3 p4 p5 hn hcc
   have hm:dx*dy=1∨dx*dy=-1:=by rcases d1 with rfl|rfl<;>rcases d2 with rfl|rfl<;>omega
   simp(disch:=omega)[q2,q10,q12,k1,hcc]
   refine callW_of (c58 h' x y dx dy (by omega) (by omega) (by omega) (by omega)) ?_
   rintro _ h1⟨rfl,rfl⟩
   try refine⟨λe=>(by cases e),?_⟩
   simp(disch:=omega)[q2]
   refine callW_of (c35 h1 W H _ _ br s ok (hr.grow hg) hn) ?_
   rintro _ h1⟨rfl,rfl⟩
   try refine⟨λe=>(by cases e),?_⟩
   cases ec:crossQ W.toNat H.toNat br (x+dx) (y+dy)
   ·have ep:passAt W.toNat H.toNat br (x,y,dx,dy)=none:=by simp[passAt,ec]
    simp(disch:=omega)[q12,wrap64]
    have bb:Buf h h1 (σ 5) 2 (passV (passL W.toNat H.toNat br (ws.take (k+1)))):=by
     rw[hsn,passL_snoc,ep]
     simpa using b5
    refine⟨k+1,?_,by omega⟩
    and_intros<;>first|assumption|omega|rfl
   ·have ep:passAt W.toNat H.toNat br (x,y,dx,dy)=some (((cntZ br (numP W.toNat (x+dx).toNat (y+dy).toNat):Nat):Int),decide (dx*dy=slopeW (x+dx))):=by simp[passAt,ec]
    simp(disch:=omega)[q2]
    refine callW_of (c28 h1 W H _ _ br s ok (hr.grow hg) hn (cross_in ec)) ?_
    rintro _ h1⟨rfl,rfl⟩
    try refine⟨λe=>(by cases e),?_⟩
    simp(disch:=omega)[wrap64]
    refine callW_of (c179 h1 _ _ (by omega)) ?_
    rintro _ h1⟨rfl,rfl⟩
    try refine⟨λe=>(by cases e),?_⟩
    simp(disch:=omega)
    have eb:aBuildSlice 2 1 h1 [(0,.agg #[I 0,B false]),(2,.agg #[I (cntZ br (numP W.toNat (x+dx).toNat (y+dy).toNat)),B (decide (dx*dy=slopeW (x+dx)))])]=some (sl h1.length 0 1 2,h1++[⟨[I (cntZ br (numP W.toNat (x+dx).toNat (y+dy).toNat)),B (decide (dx*dy=slopeW (x+dx)))],true⟩]):=by simp[aBuildSlice]
    rw[eb]
    simp only[bindW_some]
    refine app_pass hp hg (by omega) b5 λv' h2 g2 b2=>?_
    simp(disch:=omega)[q2,q10,q11,q12,wrap64]
    have bb:Buf h h2 v' 2 (passV (passL W.toNat H.toNat br (ws.take (k+1)))):=by
     rw[hsn,passL_snoc,ep]
     exact b2
    refine⟨k+1,?_,by omega⟩
    and_intros<;>first|assumption|omega|rfl
  ·have:k=ws.length:=by omega
   subst this
   rw[List.take_length]at b5
   simp(disch:=omega)
   subst hP
   obtain⟨bb,e5⟩:∃bb n,σ 5=sl bb 0 n 2:=by
    rcases b5 with⟨_,e⟩|⟨b,n,e,_⟩
    ·exact⟨0,0,e⟩
    ·exact⟨b,n,e⟩
   obtain⟨n5,e5⟩:=e5
   rw[e5]at b5
   simp(disch:=omega)[e5]
   exact⟨hg,b5⟩
theorem own_facts{X:Pan}(ok:OkP X):Owned (stepW X.1.toNat X.2.1.toNat X.2.2) (segW X.2.1.toNat) (wkW X.2.1.toNat) (4*X.1.toNat*X.2.1.toNat) (4*X.1.toNat*X.2.1.toNat):=by
 have A:=walks (W:=X.1.toNat) (H:=X.2.1.toNat) (br:=X.2.2) (by have:=ok.w;omega) (by have:=ok.h;omega)
 exact A.owned (λk hk=>wkW_ok (by have:=ok.h;omega) hk) (λk hk=>wkW_seg (by have:=ok.h;omega) hk) _ (Nat.le_refl _)
theorem starts_len(X:Pan):(startsP X).length=curveN X:=startsN_len _ _ _ _ _
theorem curvesQ_len(X:Pan):(curvesQ X).length=curveN X:=curvesL_len
theorem segs_le{X:Pan}(ok:OkP X):4*X.1.toNat*X.2.1.toNat<=256:=by
 exact(Nat.mul_le_mul (by have:=ok.w;omega) (by have:=ok.h;omega):4*X.1.toNat*X.2.1.toNat<=4*8*8)
theorem curveN_lim{X:Pan}(ok:OkP X):curveN X<=256:=by
 have A:=walks (W:=X.1.toNat) (H:=X.2.1.toNat) (br:=X.2.2) (by have:=ok.w;omega) (by have:=ok.h;omega)
 have h1:=(A.st (λk hk=>wkW_ok (by have:=ok.h;omega) hk) _ (Nat.le_refl _)).2.2
 have h2:=segs_le ok
 exact Nat.le_trans h1 h2
/-- The walker with which a curve begins. -/
noncomputable def headW(X:Pan)(c:Nat):Wk:=wkW X.2.1.toNat ((startsP X).getD c 0)
noncomputable def curveW(X:Pan)(c:Nat):List Wk:=orbW (stepW X.1.toNat X.2.1.toNat X.2.2) (headW X c) (perW (stepW X.1.toNat X.2.1.toNat X.2.2) (headW X c))
theorem start_at{X:Pan}(ok:OkP X){c:Nat}(hc:c<curveN X):(startsP X).getD c 0<4*X.1.toNat*X.2.1.toNat∧at0 (ownP X) ((startsP X).getD c 0)=c∧∀j,j<(startsP X).getD c 0->at0 (ownP X) j≠c:=by
 have ow:=own_facts ok
 have hl:c<(startsP X).length:=by rw[starts_len];exact hc
 have e:(startsP X).getD c 0=(startsP X)[c]:=by rw[List.getD_eq_getElem?_getD,List.getElem?_eq_getElem hl];rfl
 obtain⟨h1,h2⟩:=ow.st c hl
 have h3:=ow.on c hl 0
 have h4:segW X.2.1.toNat (itW (stepW X.1.toNat X.2.1.toNat X.2.2) 0 (wkW X.2.1.toNat (startsP X)[c]))=(startsP X)[c]:=wkW_seg (by have:=ok.h;omega) h1
 rw[e]
 refine⟨h1,?_,h2⟩
 have h3':at0 (ownP X) (segW X.2.1.toNat (itW (stepW X.1.toNat X.2.1.toNat X.2.2) 0 (wkW X.2.1.toNat (startsP X)[c])))=c:=h3
 rw[h4]at h3'
 exact h3'
theorem first_ok{X:Pan}(ok:OkP X){c:Nat}(hc:c<curveN X):OkW X.1.toNat X.2.1.toNat (headW X c):=wkW_ok (by have:=ok.h;omega) (start_at ok hc).1
theorem curve_ok{X:Pan}(ok:OkP X){c:Nat}(hc:c<curveN X):∀w∈curveW X c,OkW X.1.toNat X.2.1.toNat w:=by
 have A:=walks (W:=X.1.toNat) (H:=X.2.1.toNat) (br:=X.2.2) (by have:=ok.w;omega) (by have:=ok.h;omega)
 intro w hw
 unfold curveW orbW at hw
 obtain⟨j,_,rfl⟩:=List.mem_map.1 hw
 exact A.vi (first_ok ok hc) j
theorem curveQ_at{X:Pan}{c:Nat}(hc:c<(curvesQ X).length):(curvesQ X)[c]=curveW X c:=by
 have hl:c<(startsP X).length:=by rw[starts_len,<-curvesQ_len];exact hc
 have e:(startsP X).getD c 0=(startsP X)[c]:=by rw[List.getD_eq_getElem?_getD,List.getElem?_eq_getElem hl];rfl
 unfold curveW headW
 rw[e]
 exact List.getElem_map (l:=startsP X) _ (h:=hc)
theorem curveW_len{X:Pan}(ok:OkP X){c:Nat}(hc:c<curveN X):(curveW X c).length<=256:=by
 have A:=walks (W:=X.1.toNat) (H:=X.2.1.toNat) (br:=X.2.2) (by have:=ok.w;omega) (by have:=ok.h;omega)
 have h1:=(A.per (first_ok ok hc)).2.1
 unfold curveW
 rw[orbW_len]
 exact Nat.le_trans h1 (segs_le ok)
noncomputable def passesA(X:Pan)(c:Int):List (Int×Bool)×Int:=if okP X then(if 0<=c∧c<curveN X then(passL X.1.toNat X.2.1.toNat X.2.2 (curveW X c.toNat),0)else([],2))else([],1)
theorem passesA_len(X:Pan)(c:Int):(passesA X c).1.length<=256:=by
 unfold passesA
 split
 ·rename_i h
  have ok:=okP_iff.1 h
  split
  ·rename_i hc
   have h1:=passL_le (W:=X.1.toNat) (H:=X.2.1.toNat) (br:=X.2.2) (ws:=curveW X c.toNat)
   have h2:=curveW_len ok (c:=c.toNat) (by omega)
   exact Nat.le_trans h1 h2
  ·simp
 ·simp
/-- A slice and a code. -/
def RwC(h h':Heap)(r:Value)(z:Nat)(cs:List Value)(c:Int):Prop:=∃v,r=.tuple #[v,I c]∧Rw h' v z cs∧(∃b o n y,v=sl b o n y)∧Grows h h'
theorem Rw.sl{h:Heap}{v:Value}{z:Nat}{cs:List Value}(x:Rw h v z cs):∃b o n y,v=Am.sl b o n y:=by
 obtain⟨b,o,n,y,e,_⟩:=x
 exact⟨b,o,n,y,e⟩
/-- Codes of curves. -/
noncomputable def curveC(X:Pan)(L:List Int):Int:=if okP X then(if ∀x∈L,0<=x∧x<curveN X then 0 else 2)else 1
theorem c155(h:Heap)(hp:0<h.length)(v w:Value)(X:Pan)(L:List Int)(hv:Vr h shPanel v X)(hw:Rw h w 1 (ints L))(hl:L.length<=1000):ACall Gam 155 [v,w] h λr h'=>Grows h h'∧r=I (curveC X L):=by
 have hv0:=hv
 obtain⟨W,H,br⟩:=X
 obtain⟨s,rfl,w1,w2,r⟩:=hv.panel
 obtain⟨b,o,n,y,rfl,hn,hc⟩:=hw
 have en:n=L.length:=by simpa [ints]using hn
 subst en
 simp only[Nat.mul_one]at hc
 have hc':L=[]∨cellsAt h b o L.length=some (ints L):=hc.imp (λe=>List.length_eq_zero_iff.1 e) id
 refine ACall_intro g155 rfl ?_
 unfold fn155
 rw[awp_seq,awp_reg]
 generalize hK:seqQ Gam _ _ 0=K
 simp(disch:=omega)
 subst hK
 simp only[seqQ_zero]
 rw[awp_seq]
 generalize hK:seqQ Gam _ _=K
 simp(disch:=omega)
 refine callW_of (c140 _ _ h hv0) ?_
 rintro _ h1⟨rfl,rfl⟩
 try refine⟨λe=>(by cases e),?_⟩
 cases e1:okP (W,H,br)
 ·have eA:curveC (W,H,br) L=1:=by simp[curveC,e1]
  rw[eA]at hK
  simp(disch:=omega)
  subst hK
  simp(disch:=omega)
  exact Grows.refl _
 have ok:=okP_iff.1 e1
 have hN:=curveN_lim ok
 simp(disch:=omega)
 subst hK
 simp only[seqQ_zero]
 rw[awp_seq]
 generalize hP:seqQ Gam _ _=PP
 simp(disch:=omega)
 refine awp_loop (λk σ h'=>Grows h1 h'∧k<=L.length∧(∀x∈L.take k,0<=x∧x<curveN (W,H,br))∧σ 2=.agg #[I W,I H,s]∧σ 10=sl b o L.length y∧σ 11=I L.length∧σ 12=I k) (λk=>L.length-k) 0 ?_ ?_
 ·exact⟨Grows.refl _,by omega,by simp,by simp,by simp,by simp,by simp⟩
 ·rintro k σ h'⟨g,hk,hin,q2,q10,q11,q12⟩
  simp(disch:=omega)[q11,q12]
  refine fork_dec (λhlt=>?_) (λhge=>?_)
  ·have k1:k<L.length:=by omega
   have hcc:=ints_cell (hc'.imp id (grows_cellsAt g)) k1
   simp(disch:=omega)[q2,q10,q12,k1,hcc]
   refine callW_of (c154 h' (pos_of hp g) _ (W,H,br) (hv0.grow g) ok) ?_
   rintro _ h2⟨g2,rfl⟩
   try refine⟨λe=>(by first|exact g2|cases e),?_⟩
   have e3:IntKind.i64.wrap ((curveN (W,H,br):Int)-1)=(curveN (W,H,br):Int)-1:=wrap64 (by omega) (by omega)
   simp(disch:=omega)[e3]
   refine callW_of (c164 _ _ _ h2) ?_
   rintro _ h3⟨rfl,rfl⟩
   try refine⟨λe=>(by cases e),?_⟩
   have eI:inR L[k] 0 ((curveN (W,H,br):Int)-1)=decide (0<=L[k]∧L[k]<curveN (W,H,br)):=by
    unfold inR
    by_cases q:0<=L[k]∧L[k]<curveN (W,H,br)
    ·simp[q];omega
    ·simp[q];omega
   rw[eI]
   by_cases q:0<=L[k]∧L[k]<curveN (W,H,br)
   ·simp(disch:=omega)[q,q12,wrap64]
    refine⟨k+1,?_,by omega⟩
    have hin':∀x∈L.take (k+1),0<=x∧x<curveN (W,H,br):=by
     intro x hx
     rw[List.take_succ_eq_append_getElem k1]at hx
     rcases List.mem_append.1 hx with hx|hx
     ·exact hin x hx
     ·simp at hx;rw[hx];exact q
    and_intros<;>first|assumption|omega|exact g.trans g2|exact hin'
   ·have eA:curveC (W,H,br) L=2:=by
     unfold curveC
     rw[e1,if_pos rfl,if_neg]
     intro hh
     exact q (hh _ (List.getElem_mem k1))
    rw[eA]at hP
    simp(disch:=omega)[q]
    subst hP
    simp(disch:=omega)
    exact g.trans g2
  ·have:k=L.length:=by omega
   subst this
   rw[List.take_length]at hin
   have eA:curveC (W,H,br) L=0:=by
    unfold curveC
    rw[e1,if_pos rfl,if_pos hin]
   rw[eA]at hP
   simp(disch:=omega)
   subst hP
   simp(disch:=omega)
   exact g
theorem Rw.one{h:Heap}{b:Nat}{c:Int}(hb:h[b]?=some ⟨[I c],true⟩):Rw h (Am.sl b 0 1 1) 1 (ints [c]):=
 ⟨b,0,1,1,rfl,by simp[ints],.inr (by simpa [ints]using cellsAt_all hb (n:=1) rfl)⟩
theorem curveC_one(X:Pan)(c:Int):curveC X [c]=(passesA X c).2:=by
 unfold curveC passesA
 split
 ·by_cases q:0<=c∧c<curveN X
  ·rw[if_pos (by simpa using q),if_pos q]
  ·rw[if_neg (by simpa using q),if_neg q]
 ·rfl
/-- A curve in memory. -/
theorem CurR.cell{h:Heap}{lo b1 z:Nat}{Z:List Value}{X:Pan}{B0:Heap}(cr:CurR h lo (sl b1 0 (curveN X) z) Z (curvesQ X))(bz:Buf B0 h (sl b1 0 (curveN X) 1) 1 Z){c:Nat}(hc:c<curveN X):∃b,cell h b1 c=some (sl b 0 (curveW X c).length 4)∧WkAt h (sl b 0 (curveW X c).length 4) (curveW X c):=by
 have hl:c<(curvesQ X).length:=by rw[curvesQ_len];exact hc
 obtain⟨b,e1,e2,e3,_⟩:=cr.2 c hl
 rw[curveQ_at hl]at e1 e3
 have hz:c<Z.length:=by rw[cr.1];exact hl
 have:=bz.at1 (i:=c) hz
 rw[List.getElem?_eq_getElem hz]at e1
 refine⟨b,?_,wkAt_of e3⟩
 rw[this]
 simpa using e1
theorem c112(h:Heap)(hp:0<h.length)(v:Value)(X:Pan)(c:Int)(hv:Vr h shPanel v X):ACall Gam 112 [v,I c] h λr h'=>RwC h h' r 2 (passV (passesA X c).1) (passesA X c).2:=by
 have hv0:=hv
 have e2:=curveC_one X c
 obtain⟨W,H,br⟩:=X
 obtain⟨s,rfl,w1,w2,r⟩:=hv.panel
 refine ACall_intro g112 rfl ?_
 unfold fn112
 rw[awp_seq,awp_reg]
 generalize hK:seqQ Gam _ _ 0=K
 simp(disch:=omega)
 subst hK
 simp only[seqQ_zero]
 rw[awp_seq]
 generalize hK:seqQ Gam _ _=K
 have eb:aBuildSlice 1 1 h [(0,.agg #[I 0]),(1,I c)]=some (sl h.length 0 1 1,h++[⟨[I c],true⟩]):=by simp[aBuildSlice]
 simp(disch:=omega)
 rw[eb]
 simp only[bindW_some]
 try simp(disch:=omega)
 obtain⟨h0,e0⟩:∃h0,h0=h++[⟨[I c],true⟩]:=⟨_,rfl⟩
 rw[<-e0]
 have g0:Grows h h0:=⟨_,e0⟩
 have l0:=g0.le
 have kb:h0[h.length]?=some ⟨[I c],true⟩:=by rw[e0];simp
 refine callW_of (c155 h0 (by omega) _ _ (W,H,br) [c] (hv0.grow g0) (Rw.one kb) (by simp)) ?_
 rintro _ h1⟨g1,rfl⟩
 try refine⟨λe=>(by first|exact g1|cases e),?_⟩
 rw[e2]
 have g01:=g0.trans g1
 obtain⟨A,hA⟩:∃A,A=passesA (W,H,br) c:=⟨_,rfl⟩
 have hA0:=hA
 unfold passesA at hA
 by_cases e1:okP (W,H,br)=true
 rotate_left
 ·rw[if_neg e1]at hA
  rw[<-hA0,hA]at hK ⊢
  simp(disch:=omega)
  subst hK
  simp(disch:=omega)
  exact⟨_,rfl,Rw.nil,⟨_,_,_,_,rfl⟩,g01⟩
 rw[if_pos e1]at hA
 by_cases hc:0<=c∧c<curveN (W,H,br)
 rotate_left
 ·rw[if_neg hc]at hA
  rw[<-hA0,hA]at hK ⊢
  simp(disch:=omega)
  subst hK
  simp(disch:=omega)
  exact⟨_,rfl,Rw.nil,⟨_,_,_,_,rfl⟩,g01⟩
 rw[if_pos hc]at hA
 rw[<-hA0,hA]at hK ⊢
 have ok:=okP_iff.1 e1
 simp(disch:=omega)
 subst hK
 simp only[seqQ_zero]
 rw[awp_seq,awp_reg]
 generalize hK:seqQ Gam _ _ 0=K
 simp(disch:=omega)
 refine callW_of (c55s h1 (pos_of hp g01) W H br s ok (r.grow g01)) ?_
 rintro _ h2⟨g2,b1,b2,Z,rfl,bz,cr,hb2,hO⟩
 try refine⟨λe=>(by first|exact g2|cases e),?_⟩
 simp(disch:=omega)
 subst hK
 simp only[seqQ_zero]
 obtain⟨cn,rfl⟩:=Int.eq_ofNat_of_zero_le hc.1
 have hcn:cn<curveN (W,H,br):=by omega
 obtain⟨bb,ecell,wk⟩:=cr.cell bz hcn
 have g02:=g01.trans g2
 simp(disch:=omega)[hcn,ecell]
 refine callW_of (c45 h2 (pos_of hp g02) W H br s _ (curveW (W,H,br) cn) ok (r.grow g02) wk (curve_ok ok hcn) (by have:=curveW_len ok hcn;omega)) ?_
 rintro r3 h3⟨g3,b3⟩
 try refine⟨λe=>(by first|exact g3|cases e),?_⟩
 obtain⟨b,o,n,y,rfl⟩:=b3.rw.sl
 simp(disch:=omega)
 exact⟨_,rfl,by simpa using b3.rw,⟨_,_,_,_,rfl⟩,g02.trans g3⟩
def passS(p:Int×Bool):List UInt8:=(if p.2 then 43 else 45)::decS p.1
def passT(l:List (Int×Bool)):List UInt8:=joinS [32] (l.map passS)
theorem passT_len:∀(l:List (Int×Bool)),(∀p∈l,I64 p.1)->∀k,k<=l.length->(joinS [32] ((l.take k).map passS)).length<=22*k
 |l,hx,0,_=>by simp[joinS]
 |l,hx,k+1,h=>by
  have ih:=passT_len l hx k (by omega)
  rw[List.take_succ_eq_append_getElem (by omega),List.map_append,List.map_cons,List.map_nil,joinS_snoc]
  have:=(decS_len (hx _ (List.getElem_mem (show k<l.length by omega)))).2
  split
  ·simp[passS];omega
  ·simp only[List.length_append,List.length_singleton,passS,List.length_cons,List.length_nil];omega
theorem passV_at{h:Heap}{v:Value}{l:List (Int×Bool)}(hv:Rw h v 2 (passV l)):∃b o y,v=sl b o l.length y∧∀i (hi:i<l.length),cellsAt h b (o+i*2) 2=some [I l[i].1,B l[i].2]:=by
 obtain⟨b,o,n,y,rfl,hn,hc⟩:=hv
 obtain⟨e,hc2⟩:=flat_cells (f:=λp:Int×Bool=>[I p.1,B p.2]) (λ_=>rfl) hn (by omega) hc
 subst e
 exact⟨b,o,y,rfl,hc2⟩
theorem c113(h:Heap)(hp:0<h.length)(v:Value)(l:List (Int×Bool))(hv:Rw h v 2 (passV l))(hl:l.length<=1000)(hx:∀p∈l,I64 p.1):ACall Gam 113 [v] h λr h'=>Grows h h'∧r=S (passT l):=by
 obtain⟨b,o,y,rfl,hcell⟩:=passV_at hv
 refine ACall_intro g113 rfl ?_
 unfold fn113
 rw[awp_seq,awp_reg]
 generalize hK:seqQ Gam _ _ 0=K
 simp(disch:=omega)
 subst hK
 simp only[seqQ_zero]
 rw[awp_seq,awp_reg]
 generalize hK:seqQ Gam _ _ 0=K
 simp(disch:=omega)
 subst hK
 simp only[seqQ_zero]
 rw[awp_seq]
 generalize hP:seqQ Gam _ _=PP
 simp(disch:=omega)
 refine awp_loop (λk σ h'=>k<=l.length∧Grows h h'∧Buf h h' (σ 3) 1 (texts ((l.take k).map passS))∧σ 8=sl b o l.length y∧σ 9=I l.length∧σ 10=I k) (λk=>l.length-k) 0 ?_ ?_
 ·exact⟨by omega,Grows.refl _,by simpa [texts]using Buf.nil,by simp,by simp,by simp⟩
 ·rintro k σ h'⟨hk,hg,p3,p8,p9,p10⟩
  simp(disch:=omega)[p9,p10]
  refine fork_dec (λhlt=>?_) (λhge=>?_)
  ·have k1:k<l.length:=by omega
   have hx1:=hx _ (List.getElem_mem k1)
   have hcc:=hg.cellsAt (hcell k k1)
   have hsn:(l.take (k+1)).map passS=(l.take k).map passS++[passS l[k]]:=by rw[List.take_succ_eq_append_getElem k1,List.map_append];rfl
   obtain⟨u,hu⟩:∃u,u=l[k]:=⟨_,rfl⟩
   rw[<-hu]at hx1 hcc hsn
   obtain⟨ci,cb⟩:=u
   have hdl:=decS_len hx1
   cases cb
   ·simp(disch:=omega)[p8,p10,k1,hcc]
    refine callW_of (c75 ci hx1 _ (pos_of hp hg)) ?_
    rintro _ h2⟨rfl,g2⟩
    have hg2:=hg.trans g2
    try refine⟨λe=>(by first|exact g2|cases e),?_⟩
    have e1:1+(decS ci).length<=4611686018427387904:=by simp only at hdl;omega
    simp(disch:=omega)[e1]
    refine append_word hp (by simp;omega) hg2 (p3.grow g2) λv3 h3 g3 b3=>?_
    try simp(disch:=omega)[p8,p9,p10,wrap64]
    refine⟨k+1,⟨by omega,g3,?_,by omega⟩,by omega⟩
    rw[<-List.map_take,hsn]
    exact b3
   ·simp(disch:=omega)[p8,p10,k1,hcc]
    refine callW_of (c75 ci hx1 _ (pos_of hp hg)) ?_
    rintro _ h2⟨rfl,g2⟩
    have hg2:=hg.trans g2
    try refine⟨λe=>(by first|exact g2|cases e),?_⟩
    have e1:1+(decS ci).length<=4611686018427387904:=by simp only at hdl;omega
    simp(disch:=omega)[e1]
    refine append_word hp (by simp;omega) hg2 (p3.grow g2) λv3 h3 g3 b3=>?_
    try simp(disch:=omega)[p8,p9,p10,wrap64]
    refine⟨k+1,⟨by omega,g3,?_,by omega⟩,by omega⟩
    rw[<-List.map_take,hsn]
    exact b3
  ·have:k=l.length:=by omega
   subst this
   have hdl:=passT_len l hx l.length (Nat.le_refl _)
   rw[List.take_length]at p3 hdl
   try simp(disch:=omega)
   subst hP
   simp(disch:=omega)
   refine callW_of (c167 _ _ [32] _ p3.reads (by omega) (by simp;omega)) ?_
   rintro _ h2⟨rfl,rfl⟩
   try refine⟨λe=>(by cases e),?_⟩
   simp(disch:=omega)
   exact⟨hg,rfl⟩
/-- An own list of own rows. -/
structure RowsO (h0 h:Heap) (v:Value) (Z:List Value) (L:List (List Int)):Prop where
 buf:Buf h0 h v 1 Z
 len:Z.length=L.length
 row:∀i (hi:i<L.length),(L[i]=[]∧Z[i]?=some (sl 0 0 0 1))∨∃b,Z[i]?=some (sl b 0 L[i].length 1)∧h0.length<=b∧h[b]?=some ⟨ints L[i],true⟩∧∀n y,v≠sl b 0 n y
theorem RowsO.nil{h0 h:Heap}:RowsO h0 h (sl 0 0 0 1) [] []:=⟨Buf.nil,rfl,by simp⟩
theorem RowsO.grow{h0 h h':Heap}{v:Value}{Z:List Value}{L:List (List Int)}(x:RowsO h0 h v Z L)(g:Grows h h'):RowsO h0 h' v Z L:=
 ⟨x.buf.grow g,x.len,λi hi=>(x.row i hi).imp id λ⟨b,a1,a2,a3,a4⟩=>⟨b,a1,a2,g.at a3,a4⟩⟩
/-- One more row: from an own slice of numbers that came later. -/
theorem RowsO.app{h0 h h1:Heap}{v w:Value}{Z:List Value}{L:List (List Int)}{R:List Int}{K:Value->Heap->Prop}(hp:0<h0.length)(g:Grows h0 h)(x:RowsO h0 h v Z L)(g1:Grows h h1)(r:Buf h h1 w 1 (ints R))(hl:L.length<=1000)
  (hK:∀v' h',Grows h0 h'->RowsO h0 h' v' (Z++[w]) (L++[R])->K v' h'):bindW (aBuildSlice 1 1 h1 [(0,.agg #[sl 0 0 0 0]),(1,w)]) (λy h2=>bindW (aAppend 1 h2 y v) K):=by
 have x1:=x.grow g1
 have hw:∃b n,w=sl b 0 n 1:=by
  rcases r with⟨_,e⟩|⟨b,n,e,_⟩
  ·exact⟨0,0,e⟩
  ·exact⟨b,n,e⟩
 obtain⟨wb,wn,rfl⟩:=hw
 have eb:aBuildSlice 1 1 h1 [(0,.agg #[sl 0 0 0 0]),(1,sl wb 0 wn 1)]=some (sl h1.length 0 1 1,h1++[⟨[sl wb 0 wn 1],true⟩]):=by simp[aBuildSlice]
 rw[eb]
 simp only[bindW_some]
 have hl1:=g.le
 refine app1 hp (g.trans g1) (Nat.le_refl _) (g.trans g1).le x1.buf rfl (by omega) (by rw[x1.len];simp[maxSize];omega) λv' h' g' l' b' n' fr=>?_
 refine hK v' h' g' ⟨b',by simp[x1.len],λi hi=>?_⟩
 by_cases q:i<L.length
 ·rw[List.getElem_append_left q,List.getElem?_append_left (by rw[x1.len];exact q)]
  rcases x1.row i q with e|⟨b,a1,a2,a3,a4⟩
  ·exact .inl e
  ·refine .inr ⟨b,a1,a2,fr b _ a3 λn=>a4 n 1,λn y e=>?_⟩
   have:=n' _ _ _ e
   have:=at_lt a3
   omega
 ·have:i=L.length:=by simp at hi;omega
  subst this
  rw[List.getElem_append_right (by omega),List.getElem?_append_right (by rw[x1.len];exact Nat.le_refl _),x1.len]
  simp only[Nat.sub_self,List.getElem_singleton,List.getElem?_cons_zero]
  rcases r with⟨e1,e2⟩|⟨b,n,e1,e2,e3,e4⟩
  ·left
   have:R=[]:=by simpa [ints]using e1
   refine⟨this,by rw[e2]⟩
  ·right
   have en:n=R.length:=by simpa [ints]using e2
   refine⟨b,by rw[e1,en],by omega,?_,λm y e=>?_⟩
   ·refine fr b _ e4 λm e=>?_
    rcases x.buf with⟨_,q2⟩|⟨b2,n2,q2,_,_,q5⟩
    ·rw[q2]at e
     simp[sl]at e<;>omega
    ·rw[q2]at e
     simp[sl]at e
     have:=at_lt q5
     omega
   ·have:=n' _ _ _ e
    have:=at_lt e4
    omega
/-- Rows that are read. -/
def RowsR(h:Heap)(v:Value)(L:List (List Int)):Prop:=∃b o y,v=sl b o L.length y∧∀i (hi:i<L.length),∃w,cell h b (o+i)=some w∧Vr h shInts w L[i]
theorem RowsR.nil{h:Heap}{y:Nat}:RowsR h (sl 0 0 0 y) []:=⟨0,0,y,rfl,by simp⟩
theorem RowsO.read{h0 h:Heap}{v:Value}{Z:List Value}{L:List (List Int)}(x:RowsO h0 h v Z L)(hx:∀R∈L,R.length<=1048576∧∀x∈R,I64 x):RowsR h v L:=by
 obtain⟨b,e⟩:=x.buf.sl1
 have bz:=x.buf
 rw[e,x.len]at bz
 refine⟨b,0,1,by rw[e,x.len],λi hi=>?_⟩
 have hz:i<Z.length:=by rw[x.len];exact hi
 have hc:=bz.at1 (i:=i) hz
 obtain⟨r1,r2⟩:=hx _ (List.getElem_mem hi)
 refine⟨Z[i],by simpa using hc,?_⟩
 rcases x.row i hi with⟨q1,q2⟩|⟨b2,a1,a2,a3,_⟩
 ·rw[List.getElem?_eq_getElem hz]at q2
  injection q2 with q2
  rw[q2,q1]
  exact Vr.of_ints (.inl rfl) (by simp) (by simp) (.inl rfl)
 ·rw[List.getElem?_eq_getElem hz]at a1
  injection a1 with a1
  rw[a1]
  exact Vr.of_ints (.inl rfl) (by rw[maxLen_eq];omega) r2 (.inr (cellsAt_all a3 (by simp[ints])))
def codeP(p:Int×Bool):Int:=if p.2 then p.1+1 else -p.1-1
noncomputable def codeRow(X:Pan)(c:Nat):List Int:=(passL X.1.toNat X.2.1.toNat X.2.2 (curveW X c)).map codeP
noncomputable def codeL(X:Pan)(k:Nat):List (List Int):=(List.range k).map (codeRow X)
noncomputable def codeA(X:Pan):List (List Int)×Int:=if okP X then(if 40<curveN X then([],5)else(codeL X (curveN X),0))else([],1)
theorem codeL_succ(X:Pan)(k:Nat):codeL X (k+1)=codeL X k++[codeRow X k]:=by simp[codeL,List.range_succ]
theorem codeL_len(X:Pan)(k:Nat):(codeL X k).length=k:=by simp[codeL]
theorem passL_bd{W H:Nat}{br:List Int}{ws:List Wk}(hb:br.length<=112):∀p∈passL W H br ws,0<=p.1∧p.1<=112:=by
 intro p hp
 unfold passL at hp
 obtain⟨w,_,e⟩:=List.mem_filterMap.1 hp
 unfold passAt at e
 split at e
 ·injection e with e
  have h1:cntZ br (numP W (w.1+w.2.2.1).toNat (w.2.1+w.2.2.2).toNat)<=112:=by
   unfold cntZ
   have h1:=List.length_filter_le (λx=>decide (x=0)) (br.take (numP W (w.1+w.2.2.1).toNat (w.2.1+w.2.2.2).toNat))
   rw[List.length_take]at h1
   omega
  rw[<-e]
  simp only
  omega
 ·cases e
theorem codeRow_bd{X:Pan}(ok:OkP X){c:Nat}(hc:c<curveN X):(codeRow X c).length<=256∧∀x∈codeRow X c,-113<=x∧x<=113:=by
 have hb:X.2.2.length<=112:=by obtain⟨W,H,br⟩:=X;exact ok_len ok
 refine⟨?_,?_⟩
 ·unfold codeRow
  rw[List.length_map]
  exact Nat.le_trans passL_le (curveW_len ok hc)
 ·intro x hx
  unfold codeRow at hx
  obtain⟨p,hp,rfl⟩:=List.mem_map.1 hx
  have:=passL_bd hb p hp
  unfold codeP
  split<;>omega
theorem codeL_bd{X:Pan}(ok:OkP X){k:Nat}(hk:k<=curveN X):∀R∈codeL X k,R.length<=256∧∀x∈R,-113<=x∧x<=113:=by
 intro R hR
 unfold codeL at hR
 obtain⟨c,hc,rfl⟩:=List.mem_map.1 hR
 exact codeRow_bd ok (by have:=List.mem_range.1 hc;omega)
/-- Appending a number to an own list. -/
theorem app_int{h h':Heap}{v:Value}{l:List Int}{x:Int}{K:Value->Heap->Prop}(hp:0<h.length)(g:Grows h h')(hl:l.length<=100000)(hv:Buf h h' v 1 (ints l))
  (hK:∀v' h2,Grows h h2->Buf h h2 v' 1 (ints (l++[x]))->K v' h2):bindW (aBuildSlice 1 1 h' [(0,.agg #[I 0]),(1,I x)]) (λy h2=>bindW (aAppend 1 h2 y v) K):=by
 have eb:aBuildSlice 1 1 h' [(0,.agg #[I 0]),(1,I x)]=some (sl h'.length 0 1 1,h'++[⟨[I x],true⟩]):=by simp[aBuildSlice]
 rw[eb]
 simp only[bindW_some]
 refine app1 hp g (Nat.le_refl _) g.le hv rfl (by omega) (by simp[ints,maxSize];omega) λv' h2 g2 _ b2 _ _=>?_
 exact hK v' h2 g2 (by simpa [ints]using b2)
/-- What CodeOf gives. -/
def CodeR(h h':Heap)(r:Value)(L:List (List Int))(c:Int):Prop:=∃v,r=.tuple #[v,I c]∧RowsR h' v L∧Grows h h'
theorem c68(h:Heap)(hp:0<h.length)(v:Value)(X:Pan)(hv:Vr h shPanel v X):ACall Gam 68 [v] h λr h'=>CodeR h h' r (codeA X).1 (codeA X).2:=by
 have hv0:=hv
 obtain⟨W,H,br⟩:=X
 obtain⟨s,rfl,w1,w2,r⟩:=hv.panel
 refine ACall_intro g68 rfl ?_
 unfold fn68
 rw[awp_seq,awp_reg]
 generalize hK:seqQ Gam _ _ 0=K
 simp(disch:=omega)
 subst hK
 simp only[seqQ_zero]
 rw[awp_seq]
 generalize hK:seqQ Gam _ _=K
 simp(disch:=omega)
 refine callW_of (c140 _ _ h hv0) ?_
 rintro _ h1⟨rfl,rfl⟩
 try refine⟨λe=>(by cases e),?_⟩
 cases e1:okP (W,H,br)
 ·have eA:codeA (W,H,br)=([],1):=by simp[codeA,e1]
  rw[eA]at hK
  simp(disch:=omega)
  subst hK
  simp(disch:=omega)
  exact⟨_,rfl,RowsR.nil,Grows.refl _⟩
 have ok:=okP_iff.1 e1
 have hN:=curveN_lim ok
 simp(disch:=omega)
 subst hK
 simp only[seqQ_zero]
 rw[awp_seq,awp_reg]
 generalize hK:seqQ Gam _ _ 0=K
 simp(disch:=omega)
 refine callW_of (c55s h1 hp W H br s ok r) ?_
 rintro _ h2⟨g2,b1,b2,Z,rfl,bz,cr,hb2,hO⟩
 try refine⟨λe=>(by first|exact g2|cases e),?_⟩
 simp(disch:=omega)
 subst hK
 simp only[seqQ_zero]
 rw[awp_seq]
 generalize hK:seqQ Gam _ _=K
 simp(disch:=omega)
 refine fork_dec (λh40=>?_) (λh40=>?_)
 ·have eA:codeA (W,H,br)=([],5):=by simp[codeA,e1];omega
  rw[eA]at hK
  simp(disch:=omega)
  subst hK
  simp(disch:=omega)
  exact⟨_,rfl,RowsR.nil,g2⟩
 have eA:codeA (W,H,br)=(codeL (W,H,br) (curveN (W,H,br)),0):=by simp[codeA,e1];omega
 rw[eA]at hK
 simp(disch:=omega)
 subst hK
 simp only[seqQ_zero]
 rw[awp_seq,awp_reg]
 generalize hK:seqQ Gam _ _ 0=K
 simp(disch:=omega)
 subst hK
 simp only[seqQ_zero]
 have hp2:=pos_of hp g2
 obtain⟨N,eN⟩:∃N,N=curveN (W,H,br):=⟨_,rfl⟩
 have hcell:∀c,c<N->∃b,cell h2 b1 c=some (sl b 0 (curveW (W,H,br) c).length 4)∧WkAt h2 (sl b 0 (curveW (W,H,br) c).length 4) (curveW (W,H,br) c):=λc hc=>cr.cell bz (by omega)
 have hbd:∀c,c<N->(codeRow (W,H,br) c).length<=256∧∀x∈codeRow (W,H,br) c,-113<=x∧x<=113:=λc hc=>codeRow_bd ok (by omega)
 have hbl:=codeL_bd ok (k:=N) (by omega)
 have hwl:∀c,c<N->(curveW (W,H,br) c).length<=256:=λc hc=>curveW_len ok (by omega)
 have hwo:∀c,c<N->∀w∈curveW (W,H,br) c,OkW W.toNat H.toNat w:=λc hc=>curve_ok ok (by omega)
 rw[<-eN]at hN h40 ⊢
 rw[awp_seq]
 generalize hP:seqQ Gam _ _=PP
 simp(disch:=omega)
 refine awp_loop (λk σ h'=>k<=N∧Grows h2 h'∧(∃Z',RowsO h2 h' (σ 6) Z' (codeL (W,H,br) k))∧σ 1=.agg #[I W,I H,s]∧σ 24=sl b1 0 N 1∧σ 25=I N∧σ 26=I k) (λk=>N-k) 0 ?_ ?_
 ·exact⟨by omega,Grows.refl _,⟨[],by simpa [codeL]using RowsO.nil⟩,by simp,by simp,by simp,by simp⟩
 ·rintro k σ h'⟨hk,hg,⟨Z',ro⟩,q1,q24,q25,q26⟩
  simp(disch:=omega)[q25,q26]
  refine fork_dec (λhlt=>?_) (λhge=>?_)
  ·have k1:k<N:=by omega
   obtain⟨bb,ecell,wk⟩:=hcell k k1
   have ecell:=hg.cell ecell
   have wk:=wk.grow hg
   have hb:=hbd k k1
   have hgg:=g2.trans hg
   simp(disch:=omega)[q1,q24,q26,k1,ecell]
   refine callW_of (c45 h' (pos_of hp2 hg) W H br s _ (curveW (W,H,br) k) ok (r.grow hgg) wk (hwo k k1) (by have:=hwl k k1;omega)) ?_
   rintro r3 h3⟨g3,b3⟩
   try refine⟨λe=>(by first|exact g3|cases e),?_⟩
   obtain⟨PL,hPL⟩:∃PL,PL=passL W.toNat H.toNat br (curveW (W,H,br) k):=⟨_,rfl⟩
   rw[<-hPL]at b3
   have hrow:codeRow (W,H,br) k=PL.map codeP:=by rw[hPL];rfl
   rw[hrow]at hb
   obtain⟨pb,po,py,rfl,pcell⟩:=passV_at b3.rw
   have hpl:PL.length<=256:=by have:=hb.1;rw[List.length_map]at this;exact this
   simp(disch:=omega)
   refine awp_loop (λj τ hh=>j<=PL.length∧Grows h3 hh∧Buf h3 hh (τ 9) 1 (ints ((PL.take j).map codeP))∧τ 1=.agg #[I W,I H,s]∧τ 6=σ 6∧τ 24=sl b1 0 N 1∧τ 25=I N∧τ 26=I k∧τ 33=sl pb po PL.length py∧τ 34=I PL.length∧τ 35=I j) (λj=>PL.length-j) 0 ?_ ?_
   ·exact⟨by omega,Grows.refl _,by simpa [ints]using Buf.nil,by simpa using q1,by simp,by simpa using q24,by simpa using q25,by simpa using q26,by simp,by simp,by simp⟩
   ·rintro j τ hh⟨hj,gj,b9,r1,r6,r24,r25,r26,r33,r34,r35⟩
    simp(disch:=omega)[r34,r35]
    refine fork_dec (λjlt=>?_) (λjge=>?_)
    ·have j1:j<PL.length:=by omega
     have pc:=gj.cellsAt (pcell j j1)
     have hin:codeP PL[j]∈PL.map codeP:=List.mem_map.2 ⟨_,List.getElem_mem j1,rfl⟩
     have hbj:=hb.2 _ hin
     have hsn:(PL.take (j+1)).map codeP=(PL.take j).map codeP++[codeP PL[j]]:=by rw[List.take_succ_eq_append_getElem j1,List.map_append];rfl
     have hlj:((PL.take j).map codeP).length<=100000:=by rw[List.length_map,List.length_take];omega
     obtain⟨u,hu⟩:∃u,u=PL[j]:=⟨_,rfl⟩
     rw[<-hu]at pc hbj hsn
     obtain⟨ci,cb⟩:=u
     cases cb
     ·have ec:codeP (ci,false)=-ci-1:=rfl
      rw[ec]at hbj hsn
      have e2:IntKind.i64.wrap (-ci)=-ci:=wrap64 (by omega) (by omega)
      simp(disch:=omega)[r33,r35,j1,pc]
      rw[e2,wrap64 (by omega) (by omega)]
      refine app_int (pos_of (pos_of hp2 hg) g3) gj hlj b9 λv4 h4 g4 b4=>?_
      simp(disch:=omega)[r1,r6,r24,r25,r26,r33,r34,r35,wrap64]
      rw[<-hsn]at b4
      refine⟨j+1,?_,by omega⟩
      and_intros<;>first|assumption|omega|(rw[<-List.map_take];assumption)
     ·have ec:codeP (ci,true)=ci+1:=rfl
      rw[ec]at hbj hsn
      simp(disch:=omega)[r33,r35,j1,pc]
      rw[wrap64 (by omega) (by omega)]
      refine app_int (pos_of (pos_of hp2 hg) g3) gj hlj b9 λv4 h4 g4 b4=>?_
      simp(disch:=omega)[r1,r6,r24,r25,r26,r33,r34,r35,wrap64]
      rw[<-hsn]at b4
      refine⟨j+1,?_,by omega⟩
      and_intros<;>first|assumption|omega|(rw[<-List.map_take];assumption)
    ·have:j=PL.length:=by omega
     subst this
     rw[List.take_length,<-hrow]at b9
     simp(disch:=omega)[r6]
     refine RowsO.app hp2 hg ro (g3.trans gj) (b9.base g3.le) (by rw[codeL_len];omega) λv6 h6 g6 ro6=>?_
     rw[<-codeL_succ]at ro6
     simp(disch:=omega)[r1,r24,r25,r26,wrap64]
     refine⟨k+1,?_,by omega⟩
     and_intros<;>first|assumption|omega|exact⟨_,ro6⟩
  ·have:k=N:=by omega
   subst this
   have rr:=ro.read λR hR=>⟨by have:=(hbl R hR).1;omega,λx hx=>by have:=(hbl R hR).2 x hx;unfold I64;omega⟩
   obtain⟨b6,e6⟩:=ro.buf.sl1
   rw[e6]at rr
   simp(disch:=omega)
   subst hP
   simp(disch:=omega)[e6]
   exact⟨_,rfl,rr,g2.trans hg⟩
end Am

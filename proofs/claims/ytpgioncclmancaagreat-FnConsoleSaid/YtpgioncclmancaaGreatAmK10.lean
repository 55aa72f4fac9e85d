/- Contracts: AmH22, AmH23, AmH24, AmH25, AmH26, AmH27, AmH28. -/
import Derived.Test.YtpgioncclmancaaGreatAmK9
import Derived.Test.YtpgioncclmancaaGreatAmK2
set_option linter.unusedVariables false
set_option linter.unusedSimpArgs false
set_option maxHeartbeats 4000000
set_option maxRecDepth 40000
namespace Am
open Go
noncomputable def signsN(X:Pan)(k:Nat):List Int:=(List.range k).map λk=>signW ((dirP X).ov.getD k (0,0,0,0)) ((dirP X).un.getD k (0,0,0,0))
theorem signsN_all(X:Pan):signsP X=signsN X (nCross X.2.2):=rfl
theorem signsN_succ(X:Pan)(k:Nat):signsN X (k+1)=signsN X k++[signW ((dirP X).ov.getD k (0,0,0,0)) ((dirP X).un.getD k (0,0,0,0))]:=by simp[signsN,List.range_succ]
theorem signsN_len(X:Pan)(k:Nat):(signsN X k).length=k:=by simp[signsN]
theorem signsN_bd(X:Pan)(k:Nat):∀x∈signsN X k,x=1∨x=-1:=by
 intro x hx
 unfold signsN at hx
 obtain⟨j,_,rfl⟩:=List.mem_map.1 hx
 unfold signW
 split<;>simp
theorem nCross_le{W H:Int}{br:List Int}(ok:OkP (W,H,br)):nCross br<=112:=by
 have h1:=ok_len ok
 have h2:=cntZ_le br br.length
 unfold nCross;omega
theorem getD_at{α:Type}{l:List α}{k:Nat}{d:α}(hk:k<l.length):l.getD k d=l[k]:=by
 rw[List.getD_eq_getElem?_getD,List.getElem?_eq_getElem hk];rfl
theorem c52(h:Heap)(hp:0<h.length)(W H:Int)(br:List Int)(s:Value)(ok:OkP (W,H,br))(hr:Vr h shInts s br):ACall Gam 52 [.agg #[I W,I H,s]] h λr h'=>Grows h h'∧Buf h h' r 1 (ints (signsP (W,H,br))):=by
 have hnl:=nCross_le ok
 have dok:=dirN_ok ok (Nat.le_refl _)
 rw[signsN_all]
 refine ACall_intro g52 rfl ?_
 unfold fn52
 rw[awp_seq,awp_reg]
 generalize hK:seqQ Gam _ _ 0=K
 simp(disch:=omega)
 subst hK
 simp only[seqQ_zero]
 rw[awp_seq,awp_reg]
 generalize hK:seqQ Gam _ _ 0=K
 simp(disch:=omega)
 subst hK
 simp only[seqQ_zero]
 rw[awp_seq,awp_reg]
 generalize hK:seqQ Gam _ _ 0=K
 simp(disch:=omega)
 refine callW_of (c30 h hp W H br s ok hr) ?_
 rintro _ h1⟨g1,b,rfl,hb,d⟩
 try refine⟨λe=>(by first|exact g1|cases e),?_⟩
 have dok:DirOk (nCross br) (dirP (W,H,br)):=dok
 obtain⟨n,hn⟩:∃n,n=nCross br:=⟨_,rfl⟩
 simp only[<-hn]at dok hnl ⊢
 obtain⟨D,hD⟩:∃D,D=dirP (W,H,br):=⟨_,rfl⟩
 have hss:=signsN_succ (W,H,br)
 have hsl:=signsN_len (W,H,br)
 rw[<-hD]at dok d
 simp only[<-hD]at hss
 simp(disch:=omega)
 subst hK
 simp only[seqQ_zero]
 obtain⟨wb,wo,e1,oc⟩:=wkAt_of d.ov
 simp[sl]at e1
 obtain⟨rfl,rfl⟩:=e1
 obtain⟨wb,wo,e1,uc⟩:=wkAt_of d.un
 simp[sl]at e1
 obtain⟨rfl,rfl⟩:=e1
 rw[awp_seq]
 generalize hP:seqQ Gam _ _=PP
 simp(disch:=omega)
 refine awp_loop (λk σ h'=>k<=n∧Grows h1 h'∧Buf h1 h' (σ 3) 1 (ints (signsN (W,H,br) k))∧σ 5=sl (b+1) 0 n 4∧σ 18=sl b 0 n 4∧σ 19=I n∧σ 20=I k) (λk=>n-k) 0 ?_ ?_
 ·exact⟨by omega,Grows.refl _,by simpa [signsN,ints]using Buf.nil,by simp,by simp,by simp,by simp⟩
 ·rintro k σ h'⟨hk,hg,b3,q5,q18,q19,q20⟩
  simp(disch:=omega)[q19,q20]
  refine fork_dec (λhlt=>?_) (λhge=>?_)
  ·have k1:k<n:=by omega
   have ko:k<D.ov.length:=by rw[dok.ol];exact k1
   have ku:k<D.un.length:=by rw[dok.ul];exact k1
   have c1:=hg.cellsAt (oc k ko)
   have c2:=hg.cellsAt (uc k ku)
   obtain⟨x1,x2⟩:=dok.od _ (List.getElem_mem ko)
   obtain⟨y1,y2⟩:=dok.ud _ (List.getElem_mem ku)
   have hs:=hss k
   rw[getD_at ko,getD_at ku]at hs
   obtain⟨u,hu⟩:∃u,u=D.ov[k]:=⟨_,rfl⟩
   obtain⟨w,hw⟩:∃w,w=D.un[k]:=⟨_,rfl⟩
   rw[<-hu]at c1 x1 x2 hs
   rw[<-hw]at c2 y1 y2 hs
   obtain⟨ux,uy,udx,udy⟩:=u
   obtain⟨wx,wy,wdx,wdy⟩:=w
   simp only[Nat.zero_add]at c1 c2 x1 x2 y1 y2
   have e2:=(cell_in (i:=2) c2 (by omega)).1
   have e3:=(cell_in (i:=3) c2 (by omega)).1
   simp only[List.getElem?_cons_zero,List.getElem?_cons_succ]at e2 e3
   have p1:=prod_bd x1 y2
   have p2:=prod_bd x2 y1
   have w1:IntKind.i64.wrap (udx*wdy)=udx*wdy:=wrap64 (by omega) (by omega)
   have w2:IntKind.i64.wrap (udy*wdx)=udy*wdx:=wrap64 (by omega) (by omega)
   have w3:IntKind.i64.wrap (udx*wdy-udy*wdx)=udx*wdy-udy*wdx:=wrap64 (by omega) (by omega)
   have hsg:signW (ux,uy,udx,udy) (wx,wy,wdx,wdy)=if 0<udx*wdy-udy*wdx then 1 else -1:=rfl
   rw[hsg]at hs
   simp(disch:=omega)[q5,q18,q20,k1,c1,e2,e3,w1,w2,w3]
   refine fork_dec (λhpos=>?_) (λhpos=>?_)
   ·rw[if_pos (by omega)]at hs
    try simp(disch:=omega)
    refine app_int (pos_of hp g1) hg (by rw[hsl];omega) b3 λv' h2 g2 b2'=>?_
    rw[<-hs]at b2'
    simp(disch:=omega)[q5,q18,q19,q20,wrap64]
    refine⟨k+1,?_,by omega⟩
    and_intros<;>first|assumption|omega|rfl
   ·rw[if_neg (by omega)]at hs
    try simp(disch:=omega)
    refine app_int (pos_of hp g1) hg (by rw[hsl];omega) b3 λv' h2 g2 b2'=>?_
    rw[<-hs]at b2'
    simp(disch:=omega)[q5,q18,q19,q20,wrap64]
    refine⟨k+1,?_,by omega⟩
    and_intros<;>first|assumption|omega|rfl
  ·have:k=n:=by omega
   subst this
   obtain⟨bb,e3⟩:=b3.sl1
   rw[e3]at b3
   simp(disch:=omega)
   subst hP
   simp(disch:=omega)[e3]
   exact⟨g1.trans hg,by rw[<-hn];exact b3.base g1.le⟩
theorem sum_bd{L:List Int}(hx:∀x∈L,-1000<=x∧x<=1000):∀k,k<=L.length->-(1000*(k:Int))<=(L.take k).sum∧(L.take k).sum<=1000*k
 |0,_=>by simp
 |k+1,h=>by
  have ih:=sum_bd hx k (by omega)
  have:=hx _ (List.getElem_mem (show k<L.length by omega))
  rw[List.take_succ_eq_append_getElem (by omega),List.sum_append]
  simp only[List.sum_cons,List.sum_nil]
  omega
theorem c190(h:Heap)(v:Value)(L:List Int)(hv:Rw h v 1 (ints L))(hl:L.length<=1000)(hx:∀x∈L,-1000<=x∧x<=1000):ACall Gam 190 [v] h λr h'=>r=I L.sum∧h'=h:=by
 obtain⟨b,o,n,y,rfl,hn,hc⟩:=hv
 have en:n=L.length:=by simpa [ints]using hn
 subst en
 simp only[Nat.mul_one]at hc
 have hc':L=[]∨cellsAt h b o L.length=some (ints L):=hc.imp (λe=>List.length_eq_zero_iff.1 e) id
 refine ACall_intro g190 rfl ?_
 unfold fn190
 rw[awp_seq,awp_reg]
 generalize hK:seqQ Gam _ _ 0=K
 simp(disch:=omega)
 subst hK
 simp only[seqQ_zero]
 rw[awp_seq,awp_reg]
 generalize hK:seqQ Gam _ _ 0=K
 simp(disch:=omega)
 subst hK
 simp only[seqQ_zero]
 rw[awp_seq]
 generalize hP:seqQ Gam _ _=PP
 simp(disch:=omega)
 refine awp_loop (λk σ h'=>h'=h∧k<=L.length∧σ 3=I (L.take k).sum∧σ 6=sl b o L.length y∧σ 7=I L.length∧σ 8=I k) (λk=>L.length-k) 0 ?_ ?_
 ·exact⟨rfl,by omega,by simp,by simp,by simp,by simp⟩
 ·rintro k σ h'⟨rfl,hk,q3,q6,q7,q8⟩
  simp(disch:=omega)[q7,q8]
  refine fork_dec (λhlt=>?_) (λhge=>?_)
  ·have k1:k<L.length:=by omega
   have cx:=ints_cell hc' k1
   have s1:=sum_bd hx k hk
   have s2:=hx _ (List.getElem_mem k1)
   have hs:(L.take (k+1)).sum=(L.take k).sum+L[k]:=by rw[List.take_succ_eq_append_getElem k1,List.sum_append];simp
   have w1:IntKind.i64.wrap ((L.take k).sum+L[k])=(L.take (k+1)).sum:=by rw[wrap64 (by omega) (by omega),hs]
   simp(disch:=omega)[q3,q6,q7,q8,k1,cx,w1,wrap64]
   refine⟨k+1,?_,by omega⟩
   and_intros<;>first|assumption|omega|rfl
  ·have:k=L.length:=by omega
   subst this
   rw[List.take_length]at q3
   simp(disch:=omega)
   subst hP
   simp(disch:=omega)[q3]
noncomputable def writheA(X:Pan):Int×Int:=if okP X then((signsP X).sum,0)else(0,1)
theorem c144(h:Heap)(hp:0<h.length)(v:Value)(X:Pan)(hv:Vr h shPanel v X):ACall Gam 144 [v] h λr h'=>Grows h h'∧r=.tuple #[I (writheA X).1,I (writheA X).2]:=by
 have hv0:=hv
 obtain⟨W,H,br⟩:=X
 obtain⟨s,rfl,w1,w2,r⟩:=hv.panel
 refine ACall_intro g144 rfl ?_
 unfold fn144
 rw[awp_seq,awp_reg]
 generalize hK:seqQ Gam _ _ 0=K
 simp(disch:=omega)
 subst hK
 simp only[seqQ_zero]
 rw[awp_seq]
 generalize hK:seqQ Gam _ _=K
 simp(disch:=omega)
 refine callW_of (c140 _ _ h hv0) ?_
 rintro _ h1⟨rfl,rfl⟩
 try refine⟨λe=>(by cases e),?_⟩
 cases e1:okP (W,H,br)
 ·have eA:writheA (W,H,br)=(0,1):=by simp[writheA,e1]
  rw[eA]at hK
  simp(disch:=omega)
  subst hK
  simp(disch:=omega)
  exact Grows.refl _
 have ok:=okP_iff.1 e1
 have eA:writheA (W,H,br)=((signsP (W,H,br)).sum,0):=by simp[writheA,e1]
 rw[eA]at hK
 simp(disch:=omega)
 subst hK
 simp only[seqQ_zero]
 simp(disch:=omega)
 refine callW_of (c52 h1 hp W H br s ok r) ?_
 rintro r2 h2⟨g2,b2⟩
 try refine⟨λe=>(by first|exact g2|cases e),?_⟩
 have hsl:(signsP (W,H,br)).length=nCross br:=signsN_len _ _
 have hbd:∀x∈signsP (W,H,br),x=1∨x=-1:=signsN_bd _ _
 have hnl:=nCross_le ok
 try simp(disch:=omega)
 refine callW_of (c190 h2 r2 (signsP (W,H,br)) b2.rw (by omega) λx hx=>by have:=hbd x hx;omega) ?_
 rintro _ h3⟨rfl,rfl⟩
 try refine⟨λe=>(by cases e),?_⟩
 simp(disch:=omega)
 exact g2
theorem Walks.cover{α:Type}{f R:α->α}{seg:α->Nat}{V:α->Prop}{N:Nat}(a:Walks f R seg V N){wk:Nat->α}(hw:∀k,k<N->V (wk k))(hs:∀k,k<N->seg (wk k)=k):∀k,k<=N->∀s,s<N->0<=at0 (curvesSt f seg wk N k).1 s->∃i,∃hi:i<(startsN f seg wk N k).length,at0 (curvesSt f seg wk N k).1 s=i∧∃m,seg (itW f m (wk (startsN f seg wk N k)[i]))=s
 |0,_=>by
  intro s h h0
  simp[curvesSt,at0,List.getD_eq_getElem?_getD,List.getElem?_replicate,h]at h0
 |k+1,hk=>by
  have ih:=Walks.cover a hw hs k (by omega)
  obtain⟨s1,s2,s3⟩:=a.st hw k (by omega)
  have hl:=startsN_len f seg wk N k
  by_cases h0:0<=at0 (curvesSt f seg wk N k).1 k
  ·have e1:curvesSt f seg wk N (k+1)=curvesSt f seg wk N k:=by simp only[curvesSt];rw[if_pos h0]
   have e2:startsN f seg wk N (k+1)=startsN f seg wk N k:=by simp only[startsN];rw[if_pos h0]
   simp only[e1,e2]
   exact ih
  ·obtain⟨O,hO⟩:∃O,O=(curvesSt f seg wk N k).1:=⟨_,rfl⟩
   obtain⟨c,hc⟩:∃c,c=(curvesSt f seg wk N k).2:=⟨_,rfl⟩
   have e1:curvesSt f seg wk N (k+1)=(paint f seg (wk k) c O (perW f (wk k)),c+1):=by simp only[curvesSt];rw[if_neg h0,hO,hc]
   have e2:startsN f seg wk N (k+1)=startsN f seg wk N k++[k]:=by simp only[startsN];rw[if_neg h0]
   rw[<-hO]at h0 s1 ih
   rw[<-hc]at hl
   obtain⟨S,hS⟩:∃S,S=startsN f seg wk N k:=⟨_,rfl⟩
   rw[<-hS]at hl e2
   simp only[<-hS]at ih
   simp only[e1,e2]
   intro s h h1
   rw[paint_at (by rw[s1];exact h)]at h1 ⊢
   by_cases q:∃j,j<perW f (wk k)∧seg (itW f j (wk k))=s
   ·rw[if_pos q]
    obtain⟨j,_,hj⟩:=q
    refine⟨c,by rw[List.length_append,hl];simp,rfl,j,?_⟩
    rw[List.getElem_append_right (by omega)]
    simp only[hl,Nat.sub_self,List.getElem_singleton]
    exact hj
   ·rw[if_neg q]at h1 ⊢
    obtain⟨i,hi,a1,m,a2⟩:=ih s h h1
    refine⟨i,by rw[List.length_append];omega,a1,m,?_⟩
    rw[List.getElem_append_left hi]
    exact a2
/-- A walker's segment lies on a curve, either way round. -/
theorem curve_has{X:Pan}(ok:OkP X){u:Wk}(hu:OkW X.1.toNat X.2.1.toNat u):∃c,c<curveN X∧(u∈curveW X c∨backW u∈curveW X c):=by
 have A:=walks (W:=X.1.toNat) (H:=X.2.1.toNat) (br:=X.2.2) (by have:=ok.w;omega) (by have:=ok.h;omega)
 have hs:=A.lt _ hu
 have h0:=(own_facts ok).all _ hs
 obtain⟨i,hi,_,m,hm⟩:=A.cover (λk hk=>wkW_ok (by have:=ok.h;omega) hk) (λk hk=>wkW_seg (by have:=ok.h;omega) hk) _ (Nat.le_refl _) _ hs h0
 have hc:i<curveN X:=by rw[<-starts_len];exact hi
 have ehd:headW X i=wkW X.2.1.toNat (startsP X)[i]:=by
  have e:(startsP X).getD i 0=(startsP X)[i]:=getD_at hi
  unfold headW;rw[e]
 have hm':segW X.2.1.toNat (itW (stepW X.1.toNat X.2.1.toNat X.2.2) m (headW X i))=segW X.2.1.toNat u:=by rw[ehd];exact hm
 have P:=A.per (first_ok ok hc)
 rw[itW_mod P.2.2.1]at hm'
 have hmem:itW (stepW X.1.toNat X.2.1.toNat X.2.2) (m%perW (stepW X.1.toNat X.2.1.toNat X.2.2) (headW X i)) (headW X i)∈curveW X i:=by
  unfold curveW orbW
  exact List.mem_map.2 ⟨_,List.mem_range.2 (Nat.mod_lt _ P.1),rfl⟩
 refine⟨i,hc,?_⟩
 rcases(A.sg _ _ (A.vi (first_ok ok hc) _) hu).1 hm' with e|e
 ·rw[e]at hmem;exact .inl hmem
 ·rw[e]at hmem;exact .inr hmem
/-- Each member of a curve has one before it. -/
theorem curve_pre{X:Pan}(ok:OkP X){c:Nat}(hc:c<curveN X){w:Wk}(hw:w∈curveW X c):∃p∈curveW X c,stepW X.1.toNat X.2.1.toNat X.2.2 p=w:=by
 have A:=walks (W:=X.1.toNat) (H:=X.2.1.toNat) (br:=X.2.2) (by have:=ok.w;omega) (by have:=ok.h;omega)
 have P:=A.per (first_ok ok hc)
 unfold curveW orbW at hw ⊢
 obtain⟨j,hj,rfl⟩:=List.mem_map.1 hw
 have hj:=List.mem_range.1 hj
 cases j with
 |zero=>
  refine⟨_,List.mem_map.2 ⟨perW (stepW X.1.toNat X.2.1.toNat X.2.2) (headW X c)-1,List.mem_range.2 (by omega),rfl⟩,?_⟩
  have:itW (stepW X.1.toNat X.2.1.toNat X.2.2) (perW (stepW X.1.toNat X.2.1.toNat X.2.2) (headW X c)-1+1) (headW X c)=headW X c:=by
   rw[show perW (stepW X.1.toNat X.2.1.toNat X.2.2) (headW X c)-1+1=perW (stepW X.1.toNat X.2.1.toNat X.2.2) (headW X c)by omega]
   exact P.2.2.1
  exact this
 |succ j=>exact⟨_,List.mem_map.2 ⟨j,List.mem_range.2 (by omega),rfl⟩,rfl⟩
/-- After each member of a curve comes a walker of the same curve. -/
theorem curve_next{X:Pan}(ok:OkP X){c:Nat}(hc:c<curveN X){w:Wk}(hw:w∈curveW X c):OkW X.1.toNat X.2.1.toNat (stepW X.1.toNat X.2.1.toNat X.2.2 w)∧at0 (ownP X) (segW X.2.1.toNat (stepW X.1.toNat X.2.1.toNat X.2.2 w))=c:=by
 have A:=walks (W:=X.1.toNat) (H:=X.2.1.toNat) (br:=X.2.2) (by have:=ok.w;omega) (by have:=ok.h;omega)
 have hl:c<(startsP X).length:=by rw[starts_len];exact hc
 have ehd:headW X c=wkW X.2.1.toNat (startsP X)[c]:=by
  have e:(startsP X).getD c 0=(startsP X)[c]:=getD_at hl
  unfold headW;rw[e]
 unfold curveW orbW at hw
 obtain⟨j,hj,rfl⟩:=List.mem_map.1 hw
 refine⟨A.vi (first_ok ok hc) (j+1),?_⟩
 have:=(own_facts ok).on c hl (j+1)
 rw[ehd]
 exact this
/-- At a crossing, some curve comes in on each of the two lines. -/
theorem cross_met{X:Pan}(ok:OkP X){x y:Int}(n:NxP X.1.toNat X.2.1.toNat x y)(hc:crossQ X.1.toNat X.2.1.toNat X.2.2 x y=true)(o:Bool):∃c,c<curveN X∧∃w∈curveW X c,w.1+w.2.2.1=x∧w.2.1+w.2.2.2=y∧overQ w=o:=by
 have he:=cross_in hc
 unfold edgeW at he
 simp only[not_or]at he
 obtain⟨hx,hy,hp⟩:=n
 have fin:∀dy:Int,dy=1∨dy=-1->(∀e:Int,e=1∨e=-1->overQ (x-e,y-e*dy,e,e*dy)=o)->∃c,c<curveN X∧∃w∈curveW X c,w.1+w.2.2.1=x∧w.2.1+w.2.2.2=y∧overQ w=o:=by
  intro dy hdy ho
  have hu:OkW X.1.toNat X.2.1.toNat (x-1,y-dy,1,dy):=by
   refine⟨.inl rfl,hdy,?_,?_,?_,?_,?_⟩<;>simp only<;>omega
  obtain⟨c,hcc,q|q⟩:=curve_has ok hu
  ·refine⟨c,hcc,_,q,by simp only;omega,by simp only;omega,?_⟩
   have:=ho 1 (.inl rfl)
   simpa using this
  ·obtain⟨p,hp1,hp2⟩:=curve_pre ok hcc q
   refine⟨c,hcc,p,hp1,?_⟩
   have hpo:=curve_ok ok hcc p hp1
   obtain⟨px,py,pdx,pdy⟩:=p
   have b1:px+pdx=x:=by
    have:=congrArg (λw:Wk=>w.1) hp2
    simp only[stepW,backW]at this
    omega
   have b2:py+pdy=y:=by
    have:=congrArg (λw:Wk=>w.2.1) hp2
    simp only[stepW,backW]at this
    omega
   have b3:=step_cross (W:=X.1.toNat) (H:=X.2.1.toNat) (br:=X.2.2) hpo (by simp only[b1,b2];exact hc)
   rw[b3]at hp2
   simp only[nextW,backW,Prod.mk.injEq]at hp2
   obtain⟨_,_,c3,c4⟩:=hp2
   refine⟨b1,b2,?_⟩
   have:=ho (-1) (.inr rfl)
   have e1:px=x- -1:=by omega
   have e2:py=y- -1*dy:=by omega
   have e3:-1*dy=pdy:=by omega
   rw[e3]at this e2
   rw[e1,e2,c3]
   exact this
 have sl:slopeW x=1∨slopeW x=-1:=by unfold slopeW;split<;>simp
 have ov:∀dy e:Int,e=1∨e=-1->overQ (x-e,y-e*dy,e,e*dy)=decide (dy=slopeW x):=by
  intro dy e h
  unfold overQ
  simp only
  have:x-e+e=x:=by omega
  rw[this]
  congr 1
  rcases h with rfl|rfl<;>simp<;>omega
 cases o
 ·refine fin (-slopeW x) (by omega) λe h=>?_
  rw[ov _ _ h,decide_eq_false_iff_not]
  omega
 ·refine fin (slopeW x) (by omega) λe h=>?_
  rw[ov _ _ h,decide_eq_true_iff]
/-- Every number of a crossing is one. -/
theorem cross_ex{br:List Int}:∀m,m<=br.length->∀k,k<cntZ br m->∃j,∃hj:j<br.length,br[j]=0∧cntZ br j=k
 |0,_=>by intro k hk;have:=cntZ_le br 0;omega
 |m+1,hm=>by
  intro k hk
  rw[cntZ_succ (by omega)]at hk
  by_cases q:k<cntZ br m
  ·exact cross_ex m (by omega) k q
  ·by_cases e:br[m]=0
   ·rw[if_pos e]at hk
    exact⟨m,by omega,e,by omega⟩
   ·rw[if_neg e]at hk;omega
theorem cross_pt{X:Pan}(ok:OkP X){k:Nat}(hk:k<nCross X.2.2):∃x y:Int,NxP X.1.toNat X.2.1.toNat x y∧crossQ X.1.toNat X.2.1.toNat X.2.2 x y=true∧cntZ X.2.2 (numP X.1.toNat x.toNat y.toNat)=k:=by
 obtain⟨j,hj,h0,h1⟩:=cross_ex _ (Nat.le_refl _) k hk
 have hr:=ok.row
 obtain⟨x,y,hp⟩:=IsPt.ex (W:=X.1.toNat) (H:=X.2.1.toNat) (k:=j) (by have:=ok.w;omega) (by have:=ok.h;omega) (by omega)
 obtain⟨b1,b2,b3⟩:=hp.bd
 have b4:=hp.y1
 have b5:=hp.y2
 have hn:=hp.num
 refine⟨x,y,⟨by omega,by omega,by omega⟩,?_,by simp only[Int.toNat_natCast];rw[hn];exact h1⟩
 have ne:¬edgeW X.1.toNat X.2.1.toNat (x:Int) (y:Int):=by unfold edgeW;omega
 unfold crossQ
 simp only[Int.toNat_natCast,Bool.and_eq_true,Bool.not_eq_true',decide_eq_false_iff_not,decide_eq_true_eq]
 exact⟨ne,by rw[hn,at0_of hj];exact h0⟩
def vE(o:Bool)(D:Dirs)(k:Nat):Wk:=if o then D.ov.getD k (0,0,0,0)else D.un.getD k (0,0,0,0)
def cE(o:Bool)(D:Dirs)(k:Nat):Int:=if o then D.oc.getD k 0 else D.uc.getD k 0
theorem getDset{α:Type}{l:List α}{i k:Nat}{a d:α}(hk:k<l.length):(l.set i a).getD k d=if i=k then a else l.getD k d:=by
 rw[getD_at (by rw[List.length_set];exact hk),List.getElem_set,getD_at hk]
theorem dirS_E{W H n:Nat}{br:List Int}{c:Int}{D:Dirs}{w:Wk}(d:DirOk n D){k:Nat}(hk:k<n)(o:Bool):(vE o (dirS W H br c D w) k=vE o D k∧cE o (dirS W H br c D w) k=cE o D k∧¬(crossQ W H br (w.1+w.2.2.1) (w.2.1+w.2.2.2)=true∧overQ w=o∧crossK W br w=k))∨(crossQ W H br (w.1+w.2.2.1) (w.2.1+w.2.2.2)=true∧vE o (dirS W H br c D w) k=nextW w∧cE o (dirS W H br c D w) k=c):=by
 unfold dirS
 cases e1:crossQ W H br (w.1+w.2.2.1) (w.2.1+w.2.2.2)
 ·left;simp
 ·simp only[if_true]
  have k1:k<D.ov.length:=by rw[d.ol];exact hk
  have k2:k<D.un.length:=by rw[d.ul];exact hk
  have k3:k<D.oc.length:=by rw[d.cl];exact hk
  have k4:k<D.uc.length:=by rw[d.dl];exact hk
  cases e2:overQ w<;>cases o<;>by_cases e3:crossK W br w=k<;>simp[vE,cE,List.getElem?_set,k1,k2,k3,k4,e3]
/-- What an entry is once a curve has come by. -/
def MetE(X:Pan)(o:Bool)(D:Dirs)(k:Nat):Prop:=OkW X.1.toNat X.2.1.toNat (vE o D k)∧at0 (ownP X) (segW X.2.1.toNat (vE o D k))=cE o D k∧0<=cE o D k∧cE o D k<curveN X
theorem dirF_E{X:Pan}(ok:OkP X){c:Nat}(hc:c<curveN X){k:Nat}(hk:k<nCross X.2.2)(o:Bool):∀(ws:List Wk) (D:Dirs),DirOk (nCross X.2.2) D->(∀w∈ws,w∈curveW X c)->(MetE X o D k∨∃w∈ws,crossQ X.1.toNat X.2.1.toNat X.2.2 (w.1+w.2.2.1) (w.2.1+w.2.2.2)=true∧overQ w=o∧crossK X.1.toNat X.2.2 w=k)->MetE X o (ws.foldl (dirS X.1.toNat X.2.1.toNat X.2.2 c) D) k
 |[],D,d,_,h=>by
  rcases h with h|⟨w,hw,_⟩
  ·exact h
  ·simp at hw
 |w::ws,D,d,hw,h=>by
  simp only[List.foldl_cons]
  have hwc:=hw w (by simp)
  have hwo:=curve_ok ok hc w hwc
  refine dirF_E ok hc hk o ws _ (dirS_ok d hwo) (λu hu=>hw u (by simp[hu])) ?_
  rcases dirS_E (W:=X.1.toNat) (H:=X.2.1.toNat) (br:=X.2.2) (c:=c) (w:=w) d hk o with⟨e1,e2,e3⟩|⟨e1,e2,e3⟩
  ·rcases h with h|⟨u,hu,q1,q2,q3⟩
   ·left
    unfold MetE at h ⊢
    rw[e1,e2];exact h
   ·rcases List.mem_cons.1 hu with q|q
    ·rw[q]at q1 q2 q3
     exact absurd ⟨q1,q2,q3⟩ e3
    ·exact .inr ⟨u,q,q1,q2,q3⟩
  ·left
   obtain⟨n1,n2⟩:=curve_next ok hc hwc
   rw[step_cross hwo e1]at n1 n2
   unfold MetE
   rw[e2,e3]
   exact⟨n1,n2,by omega,by omega⟩
theorem dirN_E{X:Pan}(ok:OkP X){k:Nat}(hk:k<nCross X.2.2)(o:Bool){c:Nat}(hc:c<curveN X){w:Wk}(hw:w∈curveW X c)(h1:crossQ X.1.toNat X.2.1.toNat X.2.2 (w.1+w.2.2.1) (w.2.1+w.2.2.2)=true)(h2:overQ w=o)(h3:crossK X.1.toNat X.2.2 w=k):∀m,c<m->m<=curveN X->MetE X o (dirN X m) k
 |0,h,_=>by omega
 |m+1,h,hm=>by
  show MetE X o ((curveW X m).foldl (dirS X.1.toNat X.2.1.toNat X.2.2 m) (dirN X m)) k
  refine dirF_E ok (by omega) hk o _ _ (dirN_ok ok (by omega)) (λu hu=>hu) ?_
  by_cases e:c=m
  ·subst e
   exact .inr ⟨w,hw,h1,h2,h3⟩
  ·exact .inl (dirN_E ok hk o hc hw h1 h2 h3 m (by omega) (by omega))
theorem dir_met{X:Pan}(ok:OkP X){k:Nat}(hk:k<nCross X.2.2)(o:Bool):MetE X o (dirP X) k:=by
 obtain⟨x,y,n,hc,e⟩:=cross_pt ok hk
 obtain⟨c,hcc,w,hw,e1,e2,e3⟩:=cross_met ok n hc o
 exact dirN_E ok hk o hcc hw (by rw[e1,e2];exact hc) e3 (by unfold crossK;rw[e1,e2];exact e) _ hcc (Nat.le_refl _)
def addR(T:List (List Int))(a b:Nat)(s:Int):List (List Int):=T.set a ((T.getD a []).set b ((T.getD a []).getD b 0+s))
def linkS(T:List (List Int))(a b:Nat)(s:Int):List (List Int):=if a=b then T else addR (addR T a b s) b a s
def linkS2(T:List (List Int))(a b:Nat)(s:Int):List (List Int):=if a=b then addR T a b s else addR (addR T a b s) b a s
def linkZ(N:Nat):List (List Int):=List.replicate N (List.replicate N 0)
structure LinkOk (N:Nat) (m:Int) (T:List (List Int)):Prop where
 len:T.length=N
 row:∀i (hi:i<T.length),T[i].length=N∧∀x∈T[i],-m<=x∧x<=m
theorem linkZ_ok(N:Nat):LinkOk N 0 (linkZ N):=by
 refine⟨by simp[linkZ],λi hi=>?_⟩
 simp only[linkZ,List.getElem_replicate,List.length_replicate,true_and]
 intro x hx
 have:=List.eq_of_mem_replicate hx
 omega
theorem LinkOk.mono{N:Nat}{m m':Int}{T:List (List Int)}(t:LinkOk N m T)(h:m<=m'):LinkOk N m' T:=
 ⟨t.len,λi hi=>⟨(t.row i hi).1,λx hx=>by have:=(t.row i hi).2 x hx;omega⟩⟩
theorem LinkOk.at{N:Nat}{m:Int}{T:List (List Int)}(t:LinkOk N m T){a b:Nat}(ha:a<N)(hb:b<N):-m<=(T.getD a []).getD b 0∧(T.getD a []).getD b 0<=m:=by
 have h1:a<T.length:=by rw[t.len];exact ha
 rw[getD_at h1]
 obtain⟨r1,r2⟩:=t.row a h1
 rw[getD_at (by rw[r1];exact hb)]
 exact r2 _ (List.getElem_mem _)
theorem addR_ok{N:Nat}{m:Int}{T:List (List Int)}{a b:Nat}{s:Int}(t:LinkOk N m T)(ha:a<N)(hb:b<N)(hs:-1<=s∧s<=1):LinkOk N (m+1) (addR T a b s):=by
 have h1:a<T.length:=by rw[t.len];exact ha
 have hx:=t.at ha hb
 refine⟨by simp[addR,t.len],λi hi=>?_⟩
 simp only[addR,List.getElem_set]
 split
 ·obtain⟨r1,r2⟩:=t.row a h1
  rw[getD_at h1]at hx ⊢
  refine⟨by rw[List.length_set];exact r1,λx hx'=>?_⟩
  rcases List.mem_or_eq_of_mem_set hx' with q|q
  ·have:=r2 x q;omega
  ·omega
 ·have hi':i<T.length:=by simpa [addR]using hi
  obtain⟨r1,r2⟩:=t.row i hi'
  exact⟨r1,λx hx=>by have:=r2 x hx;omega⟩
theorem addR_at{N:Nat}{m:Int}{T:List (List Int)}{a b i j:Nat}{s:Int}(t:LinkOk N m T)(ha:a<N)(hi:i<N)(hj:j<N):((addR T a b s).getD i []).getD j 0=if a=i∧b=j then(T.getD i []).getD j 0+s else(T.getD i []).getD j 0:=by
 have h1:i<T.length:=by rw[t.len];exact hi
 unfold addR
 rw[getDset h1]
 by_cases e:a=i
 ·subst e
  rw[if_pos rfl]
  have hl:j<(T.getD a []).length:=by rw[getD_at h1,(t.row a h1).1];exact hj
  rw[getDset hl]
  by_cases e2:b=j
  ·subst e2;simp
  ·simp[e2]
 ·simp[e]
/-- Two tables agree off the diagonal. -/
def LinkEq(N:Nat)(T U:List (List Int)):Prop:=∀i j,i<N->j<N->i≠j->(T.getD i []).getD j 0=(U.getD i []).getD j 0
theorem linkS_ok{N:Nat}{m:Int}{T:List (List Int)}{a b:Nat}{s:Int}(t:LinkOk N m T)(ha:a<N)(hb:b<N)(hs:-1<=s∧s<=1):LinkOk N (m+2) (linkS T a b s):=by
 unfold linkS
 split
 ·exact t.mono (by omega)
 ·exact(addR_ok (addR_ok t ha hb hs) hb ha hs).mono (by omega)
theorem linkS2_ok{N:Nat}{m:Int}{T:List (List Int)}{a b:Nat}{s:Int}(t:LinkOk N m T)(ha:a<N)(hb:b<N)(hs:-1<=s∧s<=1):LinkOk N (m+2) (linkS2 T a b s):=by
 unfold linkS2
 split
 ·exact(addR_ok t ha hb hs).mono (by omega)
 ·exact(addR_ok (addR_ok t ha hb hs) hb ha hs).mono (by omega)
theorem linkS_eq{N:Nat}{m:Int}{T U:List (List Int)}{a b:Nat}{s:Int}(t:LinkOk N m T)(u:LinkOk N m U)(ha:a<N)(hb:b<N)(hs:-1<=s∧s<=1)(e:LinkEq N T U):LinkEq N (linkS T a b s) (linkS2 U a b s):=by
 intro i j hi hj hij
 have e0:=e i j hi hj hij
 unfold linkS linkS2
 by_cases q:a=b
 ·subst q
  rw[if_pos rfl,if_pos rfl,addR_at u ha hi hj,if_neg (by omega)]
  exact e0
 ·rw[if_neg q,if_neg q,addR_at (addR_ok t ha hb hs) hb hi hj,addR_at (addR_ok u ha hb hs) hb hi hj,addR_at t ha hi hj,addR_at u ha hi hj,e0]
noncomputable def linkN(X:Pan):Nat->List (List Int)
 |0=>linkZ (curveN X)
 |k+1=>linkS (linkN X k) (cE true (dirP X) k).toNat (cE false (dirP X) k).toNat (signW (vE true (dirP X) k) (vE false (dirP X) k))
noncomputable def linkN2(X:Pan):Nat->List (List Int)
 |0=>linkZ (curveN X)
 |k+1=>linkS2 (linkN2 X k) (cE true (dirP X) k).toNat (cE false (dirP X) k).toNat (signW (vE true (dirP X) k) (vE false (dirP X) k))
theorem signW_bd(a b:Wk):-1<=signW a b∧signW a b<=1:=by unfold signW;split<;>omega
theorem linkN_ok{X:Pan}(ok:OkP X):∀k,k<=nCross X.2.2->LinkOk (curveN X) (2*k) (linkN X k)∧LinkOk (curveN X) (2*k) (linkN2 X k)∧LinkEq (curveN X) (linkN X k) (linkN2 X k)
 |0,_=>⟨linkZ_ok _,linkZ_ok _,λ_ _ _ _ _=>rfl⟩
 |k+1,hk=>by
  obtain⟨i1,i2,i3⟩:=linkN_ok ok k (by omega)
  obtain⟨_,_,a1,a2⟩:=dir_met ok (show k<nCross X.2.2 by omega) true
  obtain⟨_,_,b1,b2⟩:=dir_met ok (show k<nCross X.2.2 by omega) false
  have hs:=signW_bd (vE true (dirP X) k) (vE false (dirP X) k)
  have e:(2:Int)*((k+1:Nat):Int)=2*k+2:=by omega
  rw[e]
  exact⟨linkS_ok i1 (by omega) (by omega) hs,linkS2_ok i2 (by omega) (by omega) hs,linkS_eq i1 i2 (by omega) (by omega) hs i3⟩
noncomputable def linkA(X:Pan)(a b:Int):Int×Int:=if curveC X [a,b]≠0 then(0,curveC X [a,b])else if a=b then(0,6)else((((linkN X (nCross X.2.2)).getD a.toNat []).getD b.toNat 0).tdiv 2,0)
structure TabO (lo hi:Nat) (h:Heap) (v:Value) (N:Nat) (R:List Nat) (T:List (List Int)):Prop where
 tl:R.length=T.length
 blk:(R=[]∧v=sl 0 0 0 1)∨∃b,v=sl b 0 R.length 1∧lo<=b∧b<hi∧h[b]?=some ⟨R.map λr=>sl r 0 N 1,true⟩∧∀r∈R,r≠b
 rl:∀i (hi:i<T.length),T[i].length=N
 row:∀i (hi':i<T.length),∃r,R[i]?=some r∧lo<=r∧r<hi∧h[r]?=some ⟨ints T[i],true⟩
 inj:∀i j r:Nat,R[i]?=some r->R[j]?=some r->i=j
theorem TabO.nil{lo hi N:Nat}{h:Heap}:TabO lo hi h (sl 0 0 0 1) N [] []:=⟨rfl,.inl ⟨rfl,rfl⟩,by simp,by simp,by simp⟩
theorem TabO.mod{lo hi lo' hi' N:Nat}{h h':Heap}{v:Value}{R:List Nat}{T:List (List Int)}(x:TabO lo hi h v N R T)(m:Mod lo' hi' h h')(hd:hi<=lo'):TabO lo hi h' v N R T:=by
 refine⟨x.tl,x.blk.imp id ?_,x.rl,λi hi'=>?_,x.inj⟩
 ·rintro⟨b,e,h1,h2,h3,h4⟩
  exact⟨b,e,h1,h2,by rw[m.2 b (at_lt h3) (.inl (by omega))];exact h3,h4⟩
 ·obtain⟨r,e,h1,h2,h3⟩:=x.row i hi'
  exact⟨r,e,h1,h2,by rw[m.2 r (at_lt h3) (.inl (by omega))];exact h3⟩
theorem TabO.grow{lo hi N:Nat}{h h':Heap}{v:Value}{R:List Nat}{T:List (List Int)}(x:TabO lo hi h v N R T)(g:Grows h h'):TabO lo hi h' v N R T:=
 x.mod (g.mod (lo:=hi) (hi:=hi)) (Nat.le_refl _)
theorem TabO.wide{lo hi hi' N:Nat}{h:Heap}{v:Value}{R:List Nat}{T:List (List Int)}(x:TabO lo hi h v N R T)(g:hi<=hi'):TabO lo hi' h v N R T:=by
 refine⟨x.tl,x.blk.imp id ?_,x.rl,λi q=>?_,x.inj⟩
 ·rintro⟨b,e,h1,h2,h3⟩
  exact⟨b,e,h1,by omega,h3⟩
 ·obtain⟨r,e,h1,h2,h3⟩:=x.row i q
  exact⟨r,e,h1,by omega,h3⟩
theorem TabO.sl1{lo hi N:Nat}{h:Heap}{v:Value}{R:List Nat}{T:List (List Int)}(x:TabO lo hi h v N R T):∃b,v=sl b 0 T.length 1:=by
 rcases x.blk with⟨e1,e2⟩|⟨b,e,_⟩
 ·have:=x.tl
  rw[e1]at this
  exact⟨0,by rw[e2,<-this];rfl⟩
 ·exact⟨b,by rw[e,x.tl]⟩
theorem TabO.app{h0 h:Heap}{N:Nat}{v:Value}{R:List Nat}{T:List (List Int)}{row:List Int}{K:Value->Heap->Prop}(hp:0<h0.length)(g:Grows h0 h)(x:TabO h0.length h.length h v N R T)(hl:T.length<=1000)(hr:row.length=N)
  (hK:∀v' h' R',Grows h0 h'->TabO h0.length h'.length h' v' N R' (T++[row])->K v' h'):bindW (aBuildSlice 1 1 (h++[⟨ints row,true⟩]) [(0,.agg #[sl 0 0 0 0]),(1,sl h.length 0 N 1)]) (λy h2=>bindW (aAppend 1 h2 y v) K):=by
 obtain⟨h1,eh1⟩:∃h1,h1=h++[⟨ints row,true⟩]:=⟨_,rfl⟩
 rw[<-eh1]
 have g1:Grows h h1:=⟨_,eh1⟩
 have l1:h1.length=h.length+1:=by rw[eh1];simp
 have k1:h1[h.length]?=some ⟨ints row,true⟩:=by rw[eh1];simp
 have eb:aBuildSlice 1 1 h1 [(0,.agg #[sl 0 0 0 0]),(1,sl h.length 0 N 1)]=some (sl h1.length 0 1 1,h1++[⟨[sl h.length 0 N 1],true⟩]):=by simp[aBuildSlice]
 rw[eb]
 simp only[bindW_some]
 have hle:=g.le
 have x1:=x.grow g1
 have bz:Buf h0 h1 v 1 (R.map λr=>sl r 0 N 1):=by
  rcases x1.blk with⟨e1,e2⟩|⟨b,e,h1,h2,h3,h4⟩
  ·exact .inl ⟨by rw[e1];rfl,e2⟩
  ·exact .inr ⟨b,_,e,by simp,h1,h3⟩
 refine app1 hp (g.trans g1) (Nat.le_refl _) (g.trans g1).le bz rfl (by omega) (by rw[List.length_map,x.tl];simp[maxSize];omega) λv' h' g' l' b' n' fr=>?_
 have fr':∀c kk,h1[c]?=some kk->c∈R∨c=h.length->h'[c]?=some kk:=by
  intro c kk hk hc
  refine fr c kk hk λn e=>?_
  rcases x.blk with⟨e1,e2⟩|⟨b,e3,q1,q2,q3,q4⟩
  ·rw[e2]at e
   simp[sl]at e
   rcases hc with hc|hc
   ·rw[e1]at hc;simp at hc
   ·omega
  ·rw[e3]at e
   simp[sl]at e
   rcases hc with hc|hc
   ·exact q4 c hc e.1.symm
   ·omega
 refine hK v' h' (R++[h.length]) g' ⟨by simp[x.tl],?_,λi hi=>?_,λi hi=>?_,?_⟩
 ·right
  rcases b' with⟨e1,_⟩|⟨b,n,e1,e2,e3,e4⟩
  ·simp at e1
  ·have hb:=n' _ _ _ e1
   refine⟨b,?_,e3,at_lt e4,by rw[e4];simp,λr hr'=>?_⟩
   ·rw[e1]
    have:n=(R++[h.length]).length:=by simp at e2 ⊢;omega
    rw[this]
   ·rcases List.mem_append.1 hr' with q|q
    ·obtain⟨i,hi,rfl⟩:=List.getElem_of_mem q
     obtain⟨r,c1,c2,c3,_⟩:=x.row i (by rw[<-x.tl];exact hi)
     rw[List.getElem?_eq_getElem hi]at c1
     injection c1 with c1
     omega
    ·have:=List.mem_singleton.1 q
     omega
 ·rw[List.getElem_append]
  split
  ·rename_i q;exact x.rl i q
  ·simp;exact hr
 ·by_cases q:i<T.length
  ·obtain⟨r,c1,c2,c3,c4⟩:=x1.row i q
   refine⟨r,by rw[List.getElem?_append_left (by rw[x.tl];exact q)];exact c1,c2,by omega,?_⟩
   rw[List.getElem_append_left q]
   exact fr' _ _ c4 (.inl (List.mem_of_getElem? c1))
  ·have:i=T.length:=by simp at hi;omega
   subst this
   refine⟨h.length,by rw[List.getElem?_append_right (by rw[x.tl];exact Nat.le_refl _),x.tl];simp,hle,by omega,?_⟩
   rw[List.getElem_append_right (by omega)]
   simp only[Nat.sub_self,List.getElem_singleton]
   exact fr' _ _ k1 (.inr rfl)
 ·have hRl:∀i r:Nat,R[i]?=some r->r<h.length:=by
   intro i r hr'
   have hi:=(List.getElem?_eq_some_iff.1 hr').1
   obtain⟨r',c1,c2,c3,c4⟩:=x.row i (by rw[<-x.tl];exact hi)
   rw[c1]at hr'
   injection hr' with hr'
   omega
  intro i j r hi hj
  rw[List.getElem?_append]at hi hj
  have el:=x.tl
  split at hi<;>split at hj
  ·exact x.inj i j r hi hj
  ·have:=hRl _ _ hi
   rename_i q1 q2
   have e:j-R.length=0:=by
    have:=(List.getElem?_eq_some_iff.1 hj).1
    simp at this;omega
   rw[e]at hj
   simp at hj
   omega
  ·have:=hRl _ _ hj
   rename_i q1 q2
   have e:i-R.length=0:=by
    have:=(List.getElem?_eq_some_iff.1 hi).1
    simp at this;omega
   rw[e]at hi
   simp at hi
   omega
  ·have e1:=(List.getElem?_eq_some_iff.1 hi).1
   have e2:=(List.getElem?_eq_some_iff.1 hj).1
   simp at e1 e2
   omega
theorem row_cell{h:Heap}{b k:Nat}{l:List Int}(hb:h[b]?=some ⟨ints l,true⟩)(hk:k<l.length):cell h b k=some (I l[k]):=by
 have:=ints_cell (h:=h) (b:=b) (o:=0) (.inr (cellsAt_all hb (by simp[ints]))) hk
 simpa using this
/-- One entry: read, then changed. -/
theorem TabO.entry{lo hi N:Nat}{h:Heap}{v:Value}{R:List Nat}{T:List (List Int)}(x:TabO lo hi h v N R T)(hN:T.length=N){a c:Nat}(ha:a<N)(hc:c<N):∃tb r,v=sl tb 0 N 1∧cell h tb a=some (sl r 0 N 1)∧cell h r c=some (I ((T.getD a []).getD c 0))∧∀s,∃h2,storeAt h r c [I ((T.getD a []).getD c 0+s)]=some h2∧TabO lo hi h2 v N R (addR T a c s)∧Mod lo hi h h2∧h2.length=h.length:=by
 have ha':a<T.length:=by rw[hN];exact ha
 obtain⟨r,c1,c2,c3,c4⟩:=x.row a ha'
 have rl:=x.rl a ha'
 have hcl:c<T[a].length:=by rw[rl];exact hc
 have hR:R.length=N:=by rw[x.tl];exact hN
 have hra:R[a]'(by omega)=r:=by
  rw[List.getElem?_eq_getElem (by omega)]at c1
  injection c1
 rcases x.blk with⟨e1,_⟩|⟨b,e2,b1,b2,b3,b4⟩
 ·rw[e1]at hR;simp at hR;omega
 refine⟨b,r,by rw[e2,hR],?_,?_,λs=>?_⟩
 ·unfold cell
  rw[b3]
  simp[c1]
 ·rw[getD_at ha',getD_at hcl]
  exact row_cell c4 hcl
 ·have hst:=ints_store (x:=(T[a].getD c 0)+s) c4 hcl
  refine⟨_,by rw[getD_at ha'];exact hst,?_,?_,by simp⟩
  ·unfold addR
   rw[getD_at ha']
   refine⟨by rw[List.length_set];exact x.tl,.inr ⟨b,e2,b1,b2,?_,b4⟩,λi hi=>?_,λi hi=>?_,x.inj⟩
   ·rw[List.getElem?_set_ne (λe=>b4 r (List.mem_of_getElem? c1) e)];exact b3
   ·rw[List.getElem_set]
    split
    ·rw[List.length_set];exact rl
    ·exact x.rl i (by simpa using hi)
   ·have hi':i<T.length:=by simpa using hi
    obtain⟨r',d1,d2,d3,d4⟩:=x.row i hi'
    refine⟨r',d1,d2,d3,?_⟩
    rw[List.getElem_set]
    split
    ·rename_i e
     subst e
     rw[c1]at d1
     injection d1 with d1
     subst d1
     rw[List.getElem?_set_self (at_lt c4)]
    ·rename_i e
     rw[List.getElem?_set_ne (λq=>e (x.inj a i r c1 (by rw[q];exact d1)))]
     exact d4
  ·refine⟨by simp,λk hk hn=>?_⟩
   rw[List.getElem?_set_ne (by omega)]
theorem sign_at{X:Pan}{k:Nat}(hk:k<(signsP X).length):(signsP X)[k]=signW (vE true (dirP X) k) (vE false (dirP X) k):=by
 simp only[signsP,List.getElem_map,List.getElem_range]
 rfl
theorem c37(h:Heap)(hp:0<h.length)(v:Value)(X:Pan)(hv:Vr h shPanel v X)(ok:OkP X):ACall Gam 37 [v] h λr h'=>Grows h h'∧∃hi R,TabO h.length hi h' r (curveN X) R (linkN X (nCross X.2.2)):=by
 have hv0:=hv
 have hnl:nCross X.2.2<=112:=by obtain⟨W,H,br⟩:=X;exact nCross_le ok
 have dok:DirOk (nCross X.2.2) (dirP X):=dirN_ok ok (Nat.le_refl _)
 have hN:=curveN_lim ok
 have hlo:=λk hk=>(linkN_ok ok k hk).1
 have hmet:=λk (hk:k<nCross X.2.2) o=>dir_met ok hk o
 have hsg:=λk (hk:k<(signsP X).length)=>sign_at (X:=X) hk
 have hsl:(signsP X).length=nCross X.2.2:=signsN_len _ _
 have hls:∀k,linkN X (k+1)=linkS (linkN X k) (cE true (dirP X) k).toNat (cE false (dirP X) k).toNat (signW (vE true (dirP X) k) (vE false (dirP X) k)):=λ_=>rfl
 have hbd:∀x∈signsP X,x=1∨x=-1:=signsN_bd _ _
 have hl0:linkN X 0=linkZ (curveN X):=rfl
 obtain⟨W,H,br⟩:=X
 obtain⟨s,rfl,w1,w2,r⟩:=hv.panel
 have c154':=λ(h':Heap) (g:Grows h h')=>c154 h' (pos_of hp g) _ _ (hv0.grow g) ok
 obtain⟨N,eN⟩:∃N,N=curveN (W,H,br):=⟨_,rfl⟩
 obtain⟨n,hn⟩:∃n,n=nCross br:=⟨_,rfl⟩
 simp only[<-hn,<-eN,MetE]at hnl dok hlo hmet hsl hl0 c154' hN ⊢
 refine ACall_intro g37 rfl ?_
 unfold fn37
 rw[awp_seq,awp_reg]
 generalize hK:seqQ Gam _ _ 0=K
 simp(disch:=omega)
 subst hK
 simp only[seqQ_zero]
 rw[awp_seq,awp_reg]
 generalize hK:seqQ Gam _ _ 0=K
 simp(disch:=omega)
 subst hK
 simp only[seqQ_zero]
 rw[awp_seq]
 generalize hP:seqQ Gam _ _=PP
 simp(disch:=omega)
 refine callW_of (c154' h (Grows.refl _)) ?_
 rintro _ h1⟨g1,rfl⟩
 try refine⟨λe=>(by first|exact g1|cases e),?_⟩
 try simp(disch:=omega)
 refine awp_loop (λk σ h'=>k<=N∧Grows h h'∧(∃R,TabO h.length h'.length h' (σ 3) N R (List.replicate k (List.replicate N 0)))∧σ 1=.agg #[I W,I H,s]∧σ 14=I N∧σ 15=I k) (λk=>N-k) 0 ?_ ?_
 ·exact⟨by omega,g1,⟨[],by simpa using TabO.nil⟩,by simp,by simp,by simp⟩
 ·rintro k σ h'⟨hk,hg,⟨R,tb⟩,q1,q14,q15⟩
  simp(disch:=omega)[q14,q15]
  refine fork_dec (λhlt=>?_) (λhge=>?_)
  ·have k1:k<N:=by omega
   simp(disch:=omega)[q1]
   refine callW_of (c154' h' hg) ?_
   rintro _ h2⟨g2,rfl⟩
   try refine⟨λe=>(by first|exact g2|cases e),?_⟩
   try simp(disch:=omega)
   rw[make_zs (by omega)]
   simp only[bindW_some]
   have tb2:TabO h.length h2.length h2 (σ 3) N R (List.replicate k (List.replicate N 0)):=by
    have t:=tb.grow g2
    exact t.wide g2.le
   refine TabO.app hp (hg.trans g2) tb2 (by simp;omega) (by simp) λv' h3 R' g3 tb3=>?_
   have er:List.replicate k (List.replicate N (0:Int))++[List.replicate N 0]=List.replicate (k+1) (List.replicate N 0):=by
    rw[List.replicate_succ']
   rw[er]at tb3
   simp(disch:=omega)[q1,q14,q15,wrap64]
   refine⟨k+1,?_,by omega⟩
   and_intros<;>first|assumption|omega|exact⟨R',tb3⟩
  ·have:k=N:=by omega
   subst this
   obtain⟨tbb,e3⟩:=tb.sl1
   rw[e3]at tb
   simp only[List.length_replicate]at tb e3
   simp(disch:=omega)
   subst hP
   simp only[seqQ_zero]
   rw[awp_seq,awp_reg]
   generalize hK:seqQ Gam _ _ 0=K
   simp(disch:=omega)[q1]
   refine callW_of (c30 h' (pos_of hp hg) W H br s ok (r.grow hg)) ?_
   rintro _ h2⟨g2,b,rfl,hb,d⟩
   try refine⟨λe=>(by first|exact g2|cases e),?_⟩
   simp only[<-hn]
   try simp(disch:=omega)
   subst hK
   simp only[seqQ_zero]
   rw[awp_seq]
   generalize hP:seqQ Gam _ _=PP
   simp(disch:=omega)[q1]
   refine callW_of (c52 h2 (pos_of hp (hg.trans g2)) W H br s ok (r.grow (hg.trans g2))) ?_
   rintro r3 h3⟨g3,bs⟩
   try refine⟨λe=>(by first|exact g3|cases e),?_⟩
   have tb3:=(tb.grow g2).grow g3
   have d3:=d.grow g3
   obtain⟨sb,es⟩:=bs.sl1
   have eln:(ints (signsP (W,H,br))).length=n:=by rw[ints,List.length_map,hsl]
   rw[eln]at es
   subst es
   have hg3:=(hg.trans g2).trans g3
   obtain⟨hi,ehi⟩:∃hi,hi=h'.length:=⟨_,rfl⟩
   have g2l:=g2.le
   have g3l:=g3.le
   have hgl:=hg.le
   rw[<-ehi]at tb3
   have hz:List.replicate k (List.replicate k (0:Int))=linkN (W,H,br) 0:=by rw[hl0];rfl
   rw[hz]at tb3
   simp(disch:=omega)
   refine awp_loop (λj τ hh=>j<=n∧Mod h.length hi h3 hh∧TabO h.length hi hh (sl tbb 0 k 1) k R (linkN (W,H,br) j)∧τ 3=sl tbb 0 k 1∧τ 6=sl (b+2) 0 n 1∧τ 7=sl (b+3) 0 n 1∧τ 32=sl sb 0 n 1∧τ 33=I n∧τ 34=I j) (λj=>n-j) 0 ?_ ?_
   ·exact⟨by omega,⟨Nat.le_refl _,λ_ _ _=>rfl⟩,tb3,by simp[e3],by simp,by simp,by simp,by simp,by simp⟩
   rintro j τ hh⟨hj,md,tj,t3,t6,t7,t32,t33,t34⟩
   simp(disch:=omega)[t33,t34]
   refine fork_dec (λhlt=>?_) (λhge=>?_)
   ·have j1:j<n:=by omega
    obtain⟨_,_,a1,a2⟩:=hmet j j1 true
    obtain⟨_,_,b1,b2⟩:=hmet j j1 false
    have hsj:=hsg j (by omega)
    have hb1:=hbd _ (List.getElem_mem (show j<(signsP (W,H,br)).length by omega))
    have lk:=hlo j (by omega)
    have hlsj:=hls j
    have hsc:cell hh sb j=some (I (signsP (W,H,br))[j]):=by
     rcases bs with⟨e1,_⟩|⟨b',n',e1,e2,e3',e4⟩
     ·rw[e1]at eln;simp at eln;omega
     ·simp[sl]at e1
      obtain⟨rfl,rfl⟩:=e1
      exact row_cell (by rw[md.2 _ (at_lt e4) (.inr (by omega))];exact e4) (by omega)
    have hoc:cell hh (b+2) j=some (I (cE true (dirP (W,H,br)) j)):=by
     have hl:j<(dirP (W,H,br)).oc.length:=by rw[dok.cl];exact j1
     have:=row_cell (h:=hh) (by rw[md.2 _ (at_lt d3.oc) (.inr (by omega))];exact d3.oc) hl
     rw[this]
     simp only[cE,if_true,getD_at hl]
    have huc:cell hh (b+3) j=some (I (cE false (dirP (W,H,br)) j)):=by
     have hl:j<(dirP (W,H,br)).uc.length:=by rw[dok.dl];exact j1
     have:=row_cell (h:=hh) (by rw[md.2 _ (at_lt d3.uc) (.inr (by omega))];exact d3.uc) hl
     rw[this]
     simp only[cE,Bool.false_eq_true,if_false,getD_at hl]
    obtain⟨a,ea⟩:∃a:Nat,cE true (dirP (W,H,br)) j=a:=⟨(cE true (dirP (W,H,br)) j).toNat,by omega⟩
    obtain⟨c,ec⟩:∃c:Nat,cE false (dirP (W,H,br)) j=c:=⟨(cE false (dirP (W,H,br)) j).toNat,by omega⟩
    obtain⟨sg,esg⟩:∃sg,sg=(signsP (W,H,br))[j]:=⟨_,rfl⟩
    rw[<-hsj]at hlsj
    rw[<-esg]at hlsj hsc hb1
    rw[ea]at hoc a1 a2 hlsj
    rw[ec]at huc b1 b2 hlsj
    simp only[Int.toNat_natCast]at hlsj
    have ak:a<k:=by omega
    have ck:c<k:=by omega
    obtain⟨T,eT⟩:∃T,T=linkN (W,H,br) j:=⟨_,rfl⟩
    rw[<-eT]at tj lk hlsj
    by_cases eac:a=c
    ·have e:linkS T a c sg=T:=by unfold linkS;rw[if_pos eac]
     rw[e]at hlsj
     rw[<-hlsj]at tj
     have eac':(a:Int)=c:=by omega
     simp(disch:=omega)[t3,t6,t7,t32,t33,t34,hsc,hoc,huc,eac',wrap64,j1]
     refine⟨j+1,?_,by omega⟩
     and_intros<;>first|assumption|omega|exact md.1|exact md.2
    ·have e:linkS T a c sg=addR (addR T a c sg) c a sg:=by unfold linkS;rw[if_neg eac]
     rw[e]at hlsj
     have eac':¬(a:Int)=c:=by omega
     have lk1:=addR_ok (s:=sg) lk ak ck (by omega)
     have bd1:=lk.at ak ck
     have bd2:=lk1.at ck ak
     obtain⟨tb1,r1,e4,x1,x2,x3⟩:=tj.entry lk.len ak ck
     simp[sl]at e4
     subst e4
     obtain⟨h4,s4,tj4,m4,l4⟩:=x3 sg
     obtain⟨tb1,r2,e4,y1,y2,y3⟩:=tj4.entry lk1.len ck ak
     simp[sl]at e4
     subst e4
     obtain⟨h5,s5,tj5,m5,l5⟩:=y3 sg
     rw[<-hlsj]at tj5
     have md5:=(md.trans m4).trans m5
     obtain⟨va,eva⟩:∃va,va=(T.getD a []).getD c 0:=⟨_,rfl⟩
     obtain⟨vb,evb⟩:∃vb,vb=((addR T a c sg).getD c []).getD a 0:=⟨_,rfl⟩
     rw[<-eva]at x2 s4 bd1
     rw[<-evb]at y2 s5 bd2
     have wa:IntKind.i64.wrap (va+sg)=va+sg:=wrap64 (by omega) (by omega)
     have wb:IntKind.i64.wrap (vb+sg)=vb+sg:=wrap64 (by omega) (by omega)
     simp(disch:=omega)[t3,t6,t7,t32,t33,t34,hsc,hoc,huc,eac',wrap64,x1,x2,s4,y1,y2,s5,wa,wb,ak,ck,j1]
     refine⟨j+1,?_,by omega⟩
     and_intros<;>first|assumption|omega|exact md5.1|exact md5.2
   ·have:j=n:=by omega
    subst this
    simp(disch:=omega)
    subst hP
    simp(disch:=omega)[t3]
    exact⟨md.grows hg3 (Nat.le_refl _),hi,R,tj⟩
end Am

/- Contracts: AmH29, AmH30, AmH31, AmH32, AmH33, AmH34, AmH35, AmH36, AmH37, AmH38. -/
import Derived.Test.YtpgioncclmancaaGreatAmK10
import Derived.Test.YtpgioncclmancaaGreatAmK7
set_option linter.unusedVariables false
set_option linter.unusedSimpArgs false
set_option maxHeartbeats 4000000
set_option maxRecDepth 40000
namespace Am
open Go
theorem curveC_ok{X:Pan}{a b:Int}(h:curveC X [a,b]=0):OkP X∧(0<=a∧a<curveN X)∧(0<=b∧b<curveN X):=by
 unfold curveC at h
 split at h
 ·rename_i h1
  split at h
  ·rename_i h2
   exact⟨okP_iff.1 h1,h2 a (by simp),h2 b (by simp)⟩
  ·omega
 ·omega
/-- What is read of a table. -/
theorem TabO.at{lo hi N:Nat}{h:Heap}{v:Value}{R:List Nat}{T:List (List Int)}(x:TabO lo hi h v N R T)(hN:T.length=N){a c:Nat}(ha:a<N)(hc:c<N):∃tb r,v=sl tb 0 N 1∧cell h tb a=some (sl r 0 N 1)∧cell h r c=some (I ((T.getD a []).getD c 0)):=by
 obtain⟨tb,r,e,e1,e2,_⟩:=x.entry hN ha hc
 exact⟨tb,r,e,e1,e2⟩
theorem c96(h:Heap)(hp:0<h.length)(v:Value)(X:Pan)(a b:Int)(hv:Vr h shPanel v X):ACall Gam 96 [v,I a,I b] h λr h'=>Grows h h'∧r=.tuple #[I (linkA X a b).1,I (linkA X a b).2]:=by
 have hv0:=hv
 have hcc:=λhc=>curveC_ok (X:=X) (a:=a) (b:=b) hc
 have hlo:=λok=>(linkN_ok (X:=X) ok (nCross X.2.2) (Nat.le_refl _)).1
 have hnl:OkP X->nCross X.2.2<=112:=by obtain⟨W,H,br⟩:=X;exact nCross_le
 have h37:=λh' g=>c37 h' (pos_of hp g) v X (hv0.grow g)
 have h155:=λh' g w=>c155 h' (pos_of hp g) v w X [a,b] (hv0.grow g)
 obtain⟨A,eA⟩:∃A,A=linkA X a b:=⟨_,rfl⟩
 have eA0:=eA
 unfold linkA at eA0
 rw[<-eA]
 obtain⟨W,H,br⟩:=X
 obtain⟨s,rfl,w1,w2,r⟩:=hv.panel
 refine ACall_intro g96 rfl ?_
 unfold fn96
 rw[awp_seq,awp_reg]
 generalize hK:seqQ Gam _ _ 0=K
 simp(disch:=omega)
 subst hK
 simp only[seqQ_zero]
 rw[awp_seq]
 generalize hK:seqQ Gam _ _=K
 simp(disch:=omega)
 have eb:aBuildSlice 1 2 h [(0,.agg #[I 0,I 0]),(1,I a),(1001,I b)]=some (sl h.length 0 2 1,h++[⟨[I a,I b],true⟩]):=by simp[aBuildSlice]
 try rw[eb]
 try simp only[bindW_some]
 try simp(disch:=omega)
 obtain⟨h1,eh1⟩:∃h1,h1=h++[⟨ints [a,b],true⟩]:=⟨_,rfl⟩
 have g1:Grows h h1:=⟨_,eh1⟩
 have k1:h1[h.length]?=some ⟨ints [a,b],true⟩:=by rw[eh1];simp
 have rw1:Rw h1 (sl h.length 0 2 1) 1 (ints [a,b]):=⟨_,0,2,1,rfl,rfl,.inr (cellsAt_all k1 (by simp[ints]))⟩
 have ei:h++[⟨[I a,I b],true⟩]=h1:=by rw[eh1];rfl
 rw[ei]
 refine callW_of (h155 h1 g1 _ rw1 (by simp)) ?_
 rintro _ h2⟨g2,rfl⟩
 try refine⟨λe=>(by first|exact g2|cases e),?_⟩
 have g12:=g1.trans g2
 by_cases e0:curveC (W,H,br) [a,b]=0
 ·have e0':¬curveC (W,H,br) [a,b]≠0:=by simp[e0]
  rw[if_neg e0']at eA0
  obtain⟨ok,ra,rb⟩:=hcc e0
  simp(disch:=omega)[e0]
  subst hK
  simp only[seqQ_zero]
  rw[awp_seq]
  generalize hK:seqQ Gam _ _=K
  by_cases e1:a=b
  ·rw[if_pos e1]at eA0
   subst eA0
   simp(disch:=omega)[e1]
   subst hK
   simp(disch:=omega)
   exact g12
  ·rw[if_neg e1]at eA0
   have hlk:=hlo ok
   have hnl':=hnl ok
   simp(disch:=omega)[e1]
   subst hK
   simp(disch:=omega)
   refine callW_of (h37 h2 g12 ok) ?_
   rintro r3 h3⟨g3,hi,R,tb⟩
   try refine⟨λe=>(by first|exact g3|cases e),?_⟩
   obtain⟨an,rfl⟩:∃an:Nat,a=an:=⟨a.toNat,by omega⟩
   obtain⟨bn,rfl⟩:∃bn:Nat,b=bn:=⟨b.toNat,by omega⟩
   simp only[Int.toNat_natCast]at eA0
   have bd:=hlk.at (a:=an) (b:=bn) (by omega) (by omega)
   obtain⟨tb1,r1,rfl,x1,x2⟩:=tb.at hlk.len (a:=an) (c:=bn) (by omega) (by omega)
   obtain⟨V,eV⟩:∃V,V=((linkN (W,H,br) (nCross (W,H,br).2.2)).getD an []).getD bn 0:=⟨_,rfl⟩
   simp only[<-eV]at eA0 bd x2
   subst eA0
   have hnl'':nCross br<=112:=hnl'
   have hab:(V.tdiv 2).natAbs=V.natAbs/2:=Int.natAbs_tdiv V 2
   have wd:IntKind.i64.wrap (V.tdiv 2)=V.tdiv 2:=wrap64 (by omega) (by omega)
   have an1:an<curveN (W,H,br):=by omega
   have bn1:bn<curveN (W,H,br):=by omega
   simp(disch:=omega)[x1,x2,wd,an1,bn1]
   exact g12.trans g3
 ·rw[if_pos e0]at eA0
  subst eA0
  simp(disch:=omega)[e0]
  subst hK
  simp(disch:=omega)
  exact g12
noncomputable def lensI(X:Pan)(k:Nat):List Int:=(List.range k).map λc=>((curveW X c).length:Int)
noncomputable def lensA(X:Pan):List Int×Int:=if okP X then(lensI X (curveN X),0)else([],1)
theorem lensI_succ(X:Pan)(k:Nat):lensI X (k+1)=lensI X k++[((curveW X k).length:Int)]:=by simp[lensI,List.range_succ]
theorem lensI_len(X:Pan)(k:Nat):(lensI X k).length=k:=by simp[lensI]
theorem lensI_bd{X:Pan}(ok:OkP X){k:Nat}(hk:k<=curveN X):∀x∈lensI X k,0<=x∧x<=256:=by
 intro x hx
 unfold lensI at hx
 obtain⟨c,hc,rfl⟩:=List.mem_map.1 hx
 have:=curveW_len ok (c:=c) (by have:=List.mem_range.1 hc;omega)
 omega
theorem c73(h:Heap)(hp:0<h.length)(v:Value)(X:Pan)(hv:Vr h shPanel v X):ACall Gam 73 [v] h λr h'=>RwC h h' r 1 (ints (lensA X).1) (lensA X).2:=by
 have hv0:=hv
 obtain⟨A,eA⟩:∃A,A=lensA X:=⟨_,rfl⟩
 have eA0:=eA
 unfold lensA at eA0
 rw[<-eA]
 have hls:=lensI_succ X
 have hll:=lensI_len X
 obtain⟨W,H,br⟩:=X
 obtain⟨s,rfl,w1,w2,r⟩:=hv.panel
 refine ACall_intro g73 rfl ?_
 unfold fn73
 rw[awp_seq,awp_reg]
 generalize hK:seqQ Gam _ _ 0=K
 simp(disch:=omega)
 subst hK
 simp only[seqQ_zero]
 rw[awp_seq]
 generalize hK:seqQ Gam _ _=K
 simp(disch:=omega)
 refine callW_of (c140 _ _ h hv0) ?_
 rintro _ h1⟨rfl,rfl⟩
 try refine⟨λe=>(by cases e),?_⟩
 cases e1:okP (W,H,br)
 ·simp only[e1,Bool.false_eq_true,if_false]at eA0
  subst eA0
  simp(disch:=omega)
  subst hK
  simp(disch:=omega)
  exact⟨_,rfl,⟨0,0,0,0,rfl,by simp[ints],.inl rfl⟩,⟨_,_,_,_,rfl⟩,Grows.refl _⟩
 have ok:=okP_iff.1 e1
 have hN:=curveN_lim ok
 simp only[e1,if_true]at eA0
 simp(disch:=omega)
 subst hK
 simp only[seqQ_zero]
 rw[awp_seq,awp_reg]
 generalize hK:seqQ Gam _ _ 0=K
 simp(disch:=omega)
 subst hK
 simp only[seqQ_zero]
 rw[awp_seq,awp_reg]
 generalize hK:seqQ Gam _ _ 0=K
 simp(disch:=omega)
 refine callW_of (c55s h1 hp W H br s ok r) ?_
 rintro _ h2⟨g2,b1,b2,Z,rfl,bz,cr,hb2,hO⟩
 try refine⟨λe=>(by first|exact g2|cases e),?_⟩
 simp(disch:=omega)
 subst hK
 simp only[seqQ_zero]
 have hp2:=pos_of hp g2
 obtain⟨N,eN⟩:∃N,N=curveN (W,H,br):=⟨_,rfl⟩
 have hcell:∀c,c<N->∃b,cell h2 b1 c=some (sl b 0 (curveW (W,H,br) c).length 4)∧WkAt h2 (sl b 0 (curveW (W,H,br) c).length 4) (curveW (W,H,br) c):=λc hc=>cr.cell bz (by omega)
 rw[<-eN]at hN eA0 ⊢
 rw[awp_seq]
 generalize hP:seqQ Gam _ _=PP
 simp(disch:=omega)
 refine awp_loop (λk σ h'=>k<=N∧Grows h2 h'∧Buf h2 h' (σ 4) 1 (ints (lensI (W,H,br) k))∧σ 18=sl b1 0 N 1∧σ 19=I N∧σ 20=I k) (λk=>N-k) 0 ?_ ?_
 ·exact⟨by omega,Grows.refl _,by simpa [lensI,ints]using Buf.nil,by simp,by simp,by simp⟩
 ·rintro k σ h'⟨hk,hg,b4,q18,q19,q20⟩
  simp(disch:=omega)[q19,q20]
  refine fork_dec (λhlt=>?_) (λhge=>?_)
  ·have k1:k<N:=by omega
   obtain⟨bb,ecell,_⟩:=hcell k k1
   have ecell:=hg.cell ecell
   simp(disch:=omega)[q18,q20,k1,ecell]
   refine app_int hp2 hg (by rw[hll];omega) b4 λv4 h4 g4 b4'=>?_
   rw[<-hls]at b4'
   simp(disch:=omega)[q18,q19,q20,wrap64]
   refine⟨k+1,?_,by omega⟩
   and_intros<;>first|assumption|omega|rfl
  ·have:k=N:=by omega
   subst this
   obtain⟨bb,e4⟩:=b4.sl1
   rw[e4]at b4
   simp(disch:=omega)
   subst hP
   simp(disch:=omega)[e4]
   subst eA0
   exact⟨_,rfl,b4.rw,⟨_,_,_,_,rfl⟩,g2.trans hg⟩
def pairEl(L:List Int)(k:Nat):Bool:=decide (0<=L.getD k 0∧L.getD k 0<L.length)&&decide (L.getD k 0≠k)&&decide (L.getD (L.getD k 0).toNat 0=k)
def pairLen(L:List Int):Bool:=decide (2<=L.length∧L.length<=16∧L.length%2=0)
def pairOk(L:List Int):Bool:=pairLen L&&(List.range L.length).all (pairEl L)
theorem pairOk_no{L:List Int}{k:Nat}(hk:k<L.length)(h:pairEl L k=false):pairOk L=false:=by
 unfold pairOk
 rw[Bool.and_eq_false_iff]
 right
 rw[List.all_eq_false]
 exact⟨k,List.mem_range.2 hk,by rw[h];simp⟩
theorem pairOk_yes{L:List Int}(h0:pairLen L=true)(h:∀k,k<L.length->pairEl L k=true):pairOk L=true:=by
 unfold pairOk
 rw[h0,Bool.true_and,List.all_eq_true]
 exact λk hk=>h k (List.mem_range.1 hk)
theorem pairOk_len{L:List Int}(h:pairOk L=true):L.length<=16:=by
 unfold pairOk pairLen at h
 simp only[Bool.and_eq_true,decide_eq_true_eq]at h
 omega
def pairT(L:List Int):List UInt8:=if pairOk L then joinS [44] (L.map decS)else[]
theorem join_lenC:∀(X:List Int),(∀x∈X,I64 x)->∀k,k<=X.length->(joinS [44] ((X.take k).map decS)).length<=21*k
 |X,hx,0,_=>by simp[joinS]
 |X,hx,k+1,h=>by
  have ih:=join_lenC X hx k (by omega)
  rw[List.take_succ_eq_append_getElem (by omega),List.map_append,List.map_cons,List.map_nil,joinS_snoc]
  have:=(decS_len (hx _ (List.getElem_mem (show k<X.length by omega)))).2
  split
  ·omega
  ·simp only[List.length_append,List.length_singleton];omega
/-- A list of numbers that is its own inverse. -/
structure Invo (L:List Nat) (m:Nat):Prop where
 len:L.length=m
 lt:∀i,i<m->L.getD i 0<m
 inv:∀i,i<m->L.getD (L.getD i 0) 0=i
theorem Invo.inj{L:List Nat}{m i j:Nat}(a:Invo L m)(hi:i<m)(hj:j<m)(e:L.getD i 0=L.getD j 0):i=j:=by
 rw[<-a.inv i hi,e,a.inv j hj]
def stp(L K:List Nat)(a:Nat):Nat:=L.getD (K.getD a 0) 0
def pathN(L K:List Nat)(n k:Nat):Nat->Nat
 |0=>L.getD (n+k) 0
 |i+1=>stp L K (pathN L K n k i)
/-- A path goes on before these. -/
def PathTo(L K:List Nat)(n k m:Nat):Prop:=n<=pathN L K n k m∧∀i,i<m->pathN L K n k i<n
variable {L K : List Nat} {n : Nat}
theorem path_lt(hL:Invo L (2*n))(hK:Invo K n){k:Nat}(hk:k<n):∀m,(∀i,i<m->pathN L K n k i<n)->pathN L K n k m<2*n
 |0,_=>hL.lt _ (by omega)
 |m+1,h=>hL.lt _ (by have:=hK.lt _ (h m (by omega));omega)
theorem path_back(hL:Invo L (2*n))(hK:Invo K n){k:Nat}(hk:k<n):∀i j,i<=j->(∀t,t<=j->pathN L K n k t<n)->pathN L K n k i=pathN L K n k j->i=j
 |0,0,_,_,_=>rfl
 |0,j+1,_,h,e=>by
  exfalso
  have h1:=hK.lt _ (h j (by omega))
  have:n+k=K.getD (pathN L K n k j) 0:=hL.inj (by omega) (by omega) e
  omega
 |i+1,0,h,_,_=>by omega
 |i+1,j+1,hij,h,e=>by
  have h1:=hK.lt _ (h i (by omega))
  have h2:=hK.lt _ (h j (by omega))
  have e1:K.getD (pathN L K n k i) 0=K.getD (pathN L K n k j) 0:=hL.inj (by omega) (by omega) e
  have e2:=hK.inj (h i (by omega)) (h j (by omega)) e1
  have:=path_back hL hK hk i j (by omega) (λt ht=>h t (by omega)) e2
  omega
theorem path_ex(hL:Invo L (2*n))(hK:Invo K n){k:Nat}(hk:k<n):∃m,m<=n∧PathTo L K n k m:=by
 by_cases q:∃m,m<=n∧n<=pathN L K n k m
 ·obtain⟨m,h1,h2⟩:=q
  obtain⟨m',a,b,c⟩:=least (P:=λm=>n<=pathN L K n k m) m h2
  exact⟨m',by omega,b,λi hi=>by have:=c i hi;omega⟩
 ·exfalso
  have ha:∀m,m<=n->pathN L K n k m<n:=λm hm=>by
   by_cases q2:pathN L K n k m<n
   ·exact q2
   ·exact absurd ⟨m,hm,by omega⟩ q
  obtain⟨i,j,h1,h2,h3⟩:=pigeon n (λi=>pathN L K n k i) ha
  have:=path_back hL hK hk i j (by omega) (λt ht=>ha t (by omega)) h3
  omega
open Classical in
noncomputable def endM(L K:List Nat)(n k:Nat):Nat:=if h:∃m,m<=n∧PathTo L K n k m then Classical.choose h else 0
theorem endM_to(hL:Invo L (2*n))(hK:Invo K n){k:Nat}(hk:k<n):endM L K n k<=n∧PathTo L K n k (endM L K n k):=by
 have e:=path_ex hL hK hk
 unfold endM
 rw[dif_pos e]
 exact Classical.choose_spec e
theorem path_uniq{k m m':Nat}(a:PathTo L K n k m)(b:PathTo L K n k m'):m=m':=by
 rcases Nat.lt_trichotomy m m' with h|h|h
 ·have:=b.2 m h;have:=a.1;omega
 ·exact h
 ·have:=a.2 m' h;have:=b.1;omega
noncomputable def endP(L K:List Nat)(n k:Nat):Nat:=pathN L K n k (endM L K n k)-n
noncomputable def outL(L K:List Nat)(n:Nat):List Nat:=(List.range n).map (endP L K n)
theorem outL_at{k:Nat}(hk:k<n):(outL L K n).getD k 0=endP L K n k:=by
 have hl:k<(outL L K n).length:=by simp[outL];exact hk
 rw[getD_at hl]
 simp[outL]
/-- A path read from its other end. -/
theorem path_rev(hL:Invo L (2*n))(hK:Invo K n){k m:Nat}(hk:k<n)(p:PathTo L K n k m):∀i,i<m->pathN L K n (pathN L K n k m-n) i=K.getD (pathN L K n k (m-1-i)) 0
 |0,h=>by
  have h1:=hK.lt _ (p.2 (m-1) (by omega))
  have e:pathN L K n k m=L.getD (K.getD (pathN L K n k (m-1)) 0) 0:=by
   conv=>lhs;rw[show m=m-1+1 by omega]
   rfl
  have h2:=p.1
  show L.getD (n+(pathN L K n k m-n)) 0=_
  rw[show n+(pathN L K n k m-n)=pathN L K n k m by omega,e,hL.inv _ (by omega)]
  rfl
 |i+1,h=>by
  have ih:=path_rev hL hK hk p i (by omega)
  have h0:=p.2 (m-1-i) (by omega)
  have h1:=hK.lt _ (p.2 (m-1-(i+1)) (by omega))
  have e:pathN L K n k (m-1-i)=L.getD (K.getD (pathN L K n k (m-1-(i+1))) 0) 0:=by
   conv=>lhs;rw[show m-1-i=m-1-(i+1)+1 by omega]
   rfl
  show stp L K (pathN L K n (pathN L K n k m-n) i)=_
  rw[ih]
  unfold stp
  rw[hK.inv _ h0,e,hL.inv _ (by omega)]
theorem path_turn(hL:Invo L (2*n))(hK:Invo K n){k m:Nat}(hk:k<n)(p:PathTo L K n k m):PathTo L K n (pathN L K n k m-n) m∧pathN L K n (pathN L K n k m-n) m=n+k:=by
 have hlast:pathN L K n (pathN L K n k m-n) m=n+k:=by
  cases m with
  |zero=>
   have h2:=p.1
   have e:pathN L K n k 0=L.getD (n+k) 0:=rfl
   show L.getD (n+(pathN L K n k 0-n)) 0=_
   rw[show n+(pathN L K n k 0-n)=pathN L K n k 0 by omega,e,hL.inv _ (by omega)]
  |succ m=>
   have r:=path_rev hL hK hk p m (by omega)
   rw[show m+1-1-m=0 by omega]at r
   have h0:=p.2 0 (by omega)
   show stp L K (pathN L K n (pathN L K n k (m+1)-n) m)=_
   rw[r]
   unfold stp
   rw[hK.inv _ h0]
   show L.getD (L.getD (n+k) 0) 0=_
   rw[hL.inv _ (by omega)]
 refine⟨⟨by omega,λi hi=>?_⟩,hlast⟩
 rw[path_rev hL hK hk p i hi]
 exact hK.lt _ (p.2 _ (by omega))
theorem outL_ok(hL:Invo L (2*n))(hK:Invo K n):Invo (outL L K n) n:=by
 refine⟨by simp[outL],λi hi=>?_,λi hi=>?_⟩
 ·rw[outL_at hi]
  obtain⟨_,p⟩:=endM_to hL hK hi
  have:=path_lt hL hK hi _ p.2
  unfold endP;omega
 ·rw[outL_at hi]
  obtain⟨_,p⟩:=endM_to hL hK hi
  have h1:=path_lt hL hK hi _ p.2
  have h2:=p.1
  obtain⟨p2,e⟩:=path_turn hL hK hi p
  have hk:endP L K n i<n:=by unfold endP;omega
  rw[outL_at hk]
  obtain⟨_,p3⟩:=endM_to hL hK hk
  have e2:endM L K n (endP L K n i)=endM L K n i:=path_uniq p3 p2
  show pathN L K n (endP L K n i) (endM L K n (endP L K n i))-n=i
  rw[e2]
  have e':pathN L K n (endP L K n i) (endM L K n i)=n+i:=e
  omega
theorem repF{n i:Nat}:(List.replicate n false).getD i false=false:=by
 rw[List.getD_eq_getElem?_getD,List.getElem?_replicate]
 split<;>rfl
def markW(K:List Nat)(S:List Bool)(a:Nat):List Bool:=(S.set a true).set (K.getD a 0) true
theorem markW_len{S:List Bool}{a:Nat}:(markW K S a).length=S.length:=by simp[markW]
theorem markW_at{S:List Bool}{a b:Nat}(hb:b<S.length):(markW K S a).getD b false=if b=a∨b=K.getD a 0 then true else S.getD b false:=by
 unfold markW
 rw[getDset (by simpa using hb),getDset hb]
 by_cases h1:K.getD a 0=b<;>by_cases h2:a=b<;>simp[h1,h2,eq_comm]
def markP(L K:List Nat)(n k:Nat)(S:List Bool):Nat->List Bool
 |0=>S
 |i+1=>markW K (markP L K n k S i) (pathN L K n k i)
noncomputable def seen1(L K:List Nat)(n:Nat):Nat->List Bool
 |0=>List.replicate n false
 |k+1=>markP L K n k (seen1 L K n k) (endM L K n k)
/-- What the marks keep. -/
structure MarkG (t:Nat->Nat) (K:List Nat) (n:Nat) (S:List Bool):Prop where
 len:S.length=n
 cl:∀a,a<n->S.getD (K.getD a 0) false=S.getD a false
 st:∀a,a<n->S.getD a false=false->t a<n
theorem cl_mark(hK:Invo K n){S:List Bool}{a:Nat}(hl:S.length=n)(ha:a<n)(h:∀a,a<n->S.getD (K.getD a 0) false=S.getD a false):∀b,b<n->(markW K S a).getD (K.getD b 0) false=(markW K S a).getD b false:=by
 intro b hb
 have h1:=hK.lt b hb
 rw[markW_at (by omega),markW_at (by omega),h b hb]
 have e:(K.getD b 0=a∨K.getD b 0=K.getD a 0)↔(b=a∨b=K.getD a 0):=by
  constructor
  ·rintro(q|q)
   ·right;rw[<-q,hK.inv b hb]
   ·left;exact hK.inj hb ha q
  ·rintro(q|q)
   ·right;rw[q]
   ·left;rw[q,hK.inv a ha]
 by_cases q:b=a∨b=K.getD a 0
 ·rw[if_pos q,if_pos (e.2 q)]
 ·rw[if_neg q,if_neg (λx=>q (e.1 x))]
theorem MarkG.mark{t:Nat->Nat}(hK:Invo K n){S:List Bool}(g:MarkG t K n S){a:Nat}(ha:a<n):MarkG t K n (markW K S a):=by
 refine⟨by rw[markW_len];exact g.len,cl_mark hK g.len ha g.cl,λb hb h=>?_⟩
 rw[markW_at (by rw[g.len];exact hb)]at h
 split at h
 ·simp at h
 ·exact g.st b hb h
/-- Paths mark what they meet. -/
structure Seen1 (L K:List Nat) (n k:Nat) (S:List Bool):Prop where
 len:S.length=n
 cl:∀a,a<n->S.getD (K.getD a 0) false=S.getD a false
 met:∀j,j<k->L.getD (n+j) 0<n->S.getD (L.getD (n+j) 0) false=true
theorem markP_ok(hL:Invo L (2*n))(hK:Invo K n){k:Nat}(hk:k<n){S:List Bool}(s:Seen1 L K n k S):∀i,i<=endM L K n k->Seen1 L K n k (markP L K n k S i)
 |0,_=>s
 |i+1,hi=>by
  have ih:=markP_ok hL hK hk s i (by omega)
  have ha:=(endM_to hL hK hk).2.2 i (by omega)
  refine⟨by rw[markP,markW_len];exact ih.len,cl_mark hK ih.len ha ih.cl,λj hj h=>?_⟩
  show(markW K (markP L K n k S i) (pathN L K n k i)).getD _ false=true
  rw[markW_at (by rw[ih.len];exact h)]
  split
  ·rfl
  ·exact ih.met j hj h
theorem markP_met(hL:Invo L (2*n))(hK:Invo K n){k:Nat}(hk:k<n){S:List Bool}(s:Seen1 L K n k S)(h:L.getD (n+k) 0<n):∀i,i<endM L K n k->(markP L K n k S (i+1)).getD (L.getD (n+k) 0) false=true
 |0,hi=>by
  show(markW K S (pathN L K n k 0)).getD _ false=true
  rw[markW_at (by rw[s.len];exact h),if_pos (.inl rfl)]
 |i+1,hi=>by
  have ih:=markP_met hL hK hk s h i (by omega)
  have hl:=(markP_ok hL hK hk s (i+1) (by omega)).len
  show(markW K (markP L K n k S (i+1)) (pathN L K n k (i+1))).getD _ false=true
  rw[markW_at (by rw[hl];exact h),ih]
  simp
theorem seen1_ok(hL:Invo L (2*n))(hK:Invo K n):∀k,k<=n->Seen1 L K n k (seen1 L K n k)
 |0,_=>by
  refine⟨by simp[seen1],λa ha=>?_,λj hj=>by omega⟩
  have h1:=hK.lt a ha
  simp only[seen1]
  rw[repF,repF]
 |k+1,hk=>by
  have ih:=seen1_ok hL hK k (by omega)
  have hkn:k<n:=by omega
  have r:=markP_ok hL hK hkn ih (endM L K n k) (Nat.le_refl _)
  refine⟨r.len,r.cl,λj hj h=>?_⟩
  by_cases q:j=k
  ·subst q
   obtain⟨_,p⟩:=endM_to hL hK hkn
   have h0:0<endM L K n j:=by
    rcases Nat.eq_zero_or_pos (endM L K n j)with z|z
    ·have:=p.1
     rw[z]at this
     have e:pathN L K n j 0=L.getD (n+j) 0:=rfl
     omega
    ·exact z
   have:=markP_met hL hK hkn ih h (endM L K n j-1) (by omega)
   rw[show endM L K n j-1+1=endM L K n j by omega]at this
   exact this
  ·exact r.met j (by omega) h
theorem seen1_good(hL:Invo L (2*n))(hK:Invo K n):MarkG (stp L K) K n (seen1 L K n n):=by
 have s:=seen1_ok hL hK n (Nat.le_refl _)
 refine⟨s.len,s.cl,λa ha h=>?_⟩
 have h1:=hK.lt a ha
 have h2:=hL.lt (K.getD a 0) (by omega)
 by_cases q:stp L K a<n
 ·exact q
 ·exfalso
  have h3:stp L K a=L.getD (K.getD a 0) 0:=rfl
  have e:L.getD (n+(stp L K a-n)) 0=K.getD a 0:=by
   rw[show n+(stp L K a-n)=L.getD (K.getD a 0) 0 by omega]
   exact hL.inv _ (by omega)
  have:=s.met (stp L K a-n) (by omega) (by rw[e];exact h1)
  rw[e,s.cl a ha,h]at this
  exact absurd this (by simp)
def lpS(t:Nat->Nat)(K:List Nat)(S:List Bool)(a:Nat):Nat->List Bool
 |0=>S
 |i+1=>markW K (lpS t K S a i) (itW t i a)
def LoopTo(t:Nat->Nat)(K:List Nat)(S:List Bool)(a m:Nat):Prop:=(lpS t K S a m).getD (itW t m a) false=true∧∀i,i<m->(lpS t K S a i).getD (itW t i a) false=false
theorem cntF_set{S:List Bool}{a:Nat}(ha:a<S.length):(S.set a true).count false<=S.count false:=by
 induction S generalizing a with
 |nil=>simp at ha
 |cons b S ih=>
  cases a with
  |zero=>cases b<;>simp
  |succ a=>
   have:=ih (a:=a) (by simpa using ha)
   simp only[List.set_cons_succ,List.count_cons]
   omega
theorem cntF_lt{S:List Bool}{a:Nat}(ha:a<S.length)(h:S.getD a false=false):(S.set a true).count false<S.count false:=by
 induction S generalizing a with
 |nil=>simp at ha
 |cons b S ih=>
  cases a with
  |zero=>
   simp at h
   subst h
   simp
  |succ a=>
   have:=ih (a:=a) (by simpa using ha) (by simpa using h)
   simp only[List.set_cons_succ,List.count_cons]
   omega
theorem lp_good{t:Nat->Nat}(hK:Invo K n){S:List Bool}(g:MarkG t K n S){a:Nat}(ha:a<n):∀m,(∀i,i<m->(lpS t K S a i).getD (itW t i a) false=false)->MarkG t K n (lpS t K S a m)∧itW t m a<n∧(lpS t K S a m).count false+m<=S.count false
 |0,_=>⟨g,ha,by simp[lpS]⟩
 |m+1,h=>by
  obtain⟨g1,h1,h2⟩:=lp_good hK g ha m (λi hi=>h i (by omega))
  have hu:=h m (by omega)
  refine⟨g1.mark hK h1,g1.st _ h1 hu,?_⟩
  have c1:=cntF_lt (by rw[g1.len];exact h1) hu
  have c2:=cntF_set (S:=(lpS t K S a m).set (itW t m a) true) (a:=K.getD (itW t m a) 0) (by rw[List.length_set,g1.len];exact hK.lt _ h1)
  show((markW K (lpS t K S a m) (itW t m a)).count false)+(m+1)<=_
  unfold markW
  omega
theorem lp_ex{t:Nat->Nat}(hK:Invo K n){S:List Bool}(g:MarkG t K n S){a:Nat}(ha:a<n):∃m,LoopTo t K S a m:=by
 by_cases q:∃m,m<=n+1∧(lpS t K S a m).getD (itW t m a) false=true
 ·obtain⟨m,h1,h2⟩:=q
  obtain⟨m',x,b,c⟩:=least (P:=λm=>(lpS t K S a m).getD (itW t m a) false=true) m h2
  exact⟨m',b,λi hi=>by have:=c i hi;simpa using this⟩
 ·exfalso
  have hh:∀i,i<n+1->(lpS t K S a i).getD (itW t i a) false=false:=λi hi=>by
   cases e:(lpS t K S a i).getD (itW t i a) false
   ·rfl
   ·exact absurd ⟨i,by omega,e⟩ q
  have:=(lp_good hK g ha (n+1) hh).2.2
  have hc:S.count false<=S.length:=List.count_le_length
  have:=g.len
  omega
open Classical in
noncomputable def lpM(t:Nat->Nat)(K:List Nat)(S:List Bool)(a:Nat):Nat:=if h:∃m,LoopTo t K S a m then Classical.choose h else 0
theorem lpM_to{t:Nat->Nat}(hK:Invo K n){S:List Bool}(g:MarkG t K n S){a:Nat}(ha:a<n):LoopTo t K S a (lpM t K S a):=by
 have e:=lp_ex hK g ha
 unfold lpM
 rw[dif_pos e]
 exact Classical.choose_spec e
noncomputable def lpN(t:Nat->Nat)(K:List Nat)(S:List Bool):Nat->List Bool×Nat
 |0=>(S,0)
 |k+1=>if(lpN t K S k).1.getD k false then lpN t K S k else(lpS t K (lpN t K S k).1 k (lpM t K (lpN t K S k).1 k),(lpN t K S k).2+1)
theorem lpN_ok{t:Nat->Nat}(hK:Invo K n){S:List Bool}(g:MarkG t K n S):∀k,k<=n->MarkG t K n (lpN t K S k).1∧(lpN t K S k).2<=k
 |0,_=>⟨g,Nat.le_refl _⟩
 |k+1,hk=>by
  obtain⟨h1,h2⟩:=lpN_ok hK g k (by omega)
  unfold lpN
  split
  ·exact⟨h1,by omega⟩
  ·exact⟨(lp_good hK h1 (by omega) _ (lpM_to hK h1 (by omega)).2).1,by simp only;omega⟩
/-- What is known behind some links. -/
noncomputable def passN(L K:List Nat)(n:Nat):List Nat×Nat:=(outL L K n,(lpN (stp L K) K (seen1 L K n n) n).2)
/-- The loops of two pairings. -/
noncomputable def loopsN(A B:List Nat)(n:Nat):Nat:=(lpN (λx=>B.getD (A.getD x 0) 0) A (List.replicate n false) n).2
theorem loops_good{A B:List Nat}(hA:Invo A n)(hB:Invo B n):MarkG (λx=>B.getD (A.getD x 0) 0) A n (List.replicate n false):=by
 refine⟨by simp,λa ha=>?_,λa ha _=>hB.lt _ (hA.lt a ha)⟩
 rw[repF,repF]
def natI(l:List Nat):List Int:=l.map λ(n:Nat)=>(n:Int)
theorem natI_len(l:List Nat):(natI l).length=l.length:=by simp[natI]
theorem natI_cell{h:Heap}{b o k:Nat}{l:List Nat}(hc:l.length=0∨cellsAt h b o l.length=some (ints (natI l)))(hk:k<l.length):cell h b (o+k)=some (I (l.getD k 0)):=by
 have hk':k<(natI l).length:=by rw[natI_len];exact hk
 have:=ints_cell (X:=natI l) (h:=h) (b:=b) (o:=o) (hc.imp (λe=>List.length_eq_zero_iff.1 (by rw[natI_len];exact e)) (λe=>by rw[natI_len];exact e)) hk'
 rw[this,getD_at hk]
 simp[natI]
theorem mark_store{h:Heap}{sb a n:Nat}{S:List Bool}{K:List Nat}(hS:h[sb]?=some ⟨bools S,true⟩)(hl:S.length=n)(ha:a<n)(hb:K.getD a 0<n):∃h1 h2,storeAt h sb a [B true]=some h1∧storeAt h1 sb (K.getD a 0) [B true]=some h2∧h2[sb]?=some ⟨bools (markW K S a),true⟩∧h1.length=h.length∧h2.length=h.length∧(∀c,c≠sb->h1[c]?=h[c]?)∧(∀c,c≠sb->h2[c]?=h[c]?):=by
 have s1:=store_bool (v:=true) hS (k:=a) (by omega)
 have h1':=blk_set (d:=⟨bools (S.set a true),true⟩) hS
 have s2:=store_bool (v:=true) h1' (k:=K.getD a 0) (by rw[List.length_set];omega)
 refine⟨_,_,s1,s2,blk_set h1',by simp,by simp,λc hc=>?_,λc hc=>?_⟩
 ·rw[List.getElem?_set_ne (λe=>hc e.symm)]
 ·rw[List.getElem?_set_ne (λe=>hc e.symm),List.getElem?_set_ne (λe=>hc e.symm)]
theorem grows_same{h0 h h':Heap}{sb:Nat}(g:Grows h0 h)(hb:h0.length<=sb)(hl:h'.length=h.length)(hs:∀c,c≠sb->h'[c]?=h[c]?):Grows h0 h':=
 grows_of (by rw[hl];exact g.le) λb hb'=>by rw[hs b (by omega),g.look hb']
theorem c171(h:Heap)(hp:0<h.length)(v w:Value)(A B:List Nat)(n:Nat)(hA:Invo A n)(hB:Invo B n)(hn:n<=100)(hv:Rw h v 1 (ints (natI A)))(hw:Rw h w 1 (ints (natI B))):ACall Gam 171 [v,w] h λr h'=>Grows h h'∧r=I (loopsN A B n):=by
 obtain⟨ab,ao,an,ay,rfl,ea,ca⟩:=hv
 obtain⟨bb,bo,bn,bY,rfl,eb,cb⟩:=hw
 have ea:n=an:=by have:=ea;simp[ints,natI,hA.len]at this;exact this.symm
 have eb:n=bn:=by have:=eb;simp[ints,natI,hB.len]at this;exact this.symm
 subst ea
 subst eb
 have g0:=loops_good hA hB
 obtain⟨t,et⟩:∃t:Nat->Nat,t=λx=>B.getD (A.getD x 0) 0:=⟨_,rfl⟩
 rw[<-et]at g0
 have hs:∀k,lpN t A (List.replicate n false) (k+1)=if(lpN t A (List.replicate n false) k).1.getD k false then lpN t A (List.replicate n false) k else(lpS t A (lpN t A (List.replicate n false) k).1 k (lpM t A (lpN t A (List.replicate n false) k).1 k),(lpN t A (List.replicate n false) k).2+1):=λ_=>rfl
 have hs0:lpN t A (List.replicate n false) 0=(List.replicate n false,0):=rfl
 have hok:=λk hk=>lpN_ok hA g0 k hk
 have eR:loopsN A B n=(lpN t A (List.replicate n false) n).2:=by rw[et];rfl
 rw[eR]
 obtain⟨F,eF⟩:∃F,F=lpN t A (List.replicate n false):=⟨_,rfl⟩
 simp only[<-eF]at hs hs0 hok ⊢
 have caA:∀h',Grows h h'->∀k,k<n->cell h' ab (ao+k)=some (I (A.getD k 0)):=λh' g k hk=>natI_cell (by rw[hA.len];exact ca.imp id λe=>by rw[Nat.mul_one]at e;exact g.cellsAt e) (by rw[hA.len];exact hk)
 have cbB:∀h',Grows h h'->∀k,k<n->cell h' bb (bo+k)=some (I (B.getD k 0)):=λh' g k hk=>natI_cell (by rw[hB.len];exact cb.imp id λe=>by rw[Nat.mul_one]at e;exact g.cellsAt e) (by rw[hB.len];exact hk)
 refine ACall_intro g171 rfl ?_
 unfold fn171
 rw[awp_seq,awp_reg]
 generalize hK:seqQ Gam _ _ 0=K
 simp(disch:=omega)
 subst hK
 simp only[seqQ_zero]
 rw[awp_seq,awp_reg]
 generalize hK:seqQ Gam _ _ 0=K
 simp(disch:=omega)
 rw[make_bools _ _ (by omega)]
 simp only[bindW_some]
 try simp(disch:=omega)
 subst hK
 simp only[seqQ_zero]
 obtain⟨sb,esb⟩:∃sb,sb=h.length:=⟨_,rfl⟩
 obtain⟨h1,e1⟩:∃h1,h1=h++[⟨bools (List.replicate n false),true⟩]:=⟨_,rfl⟩
 rw[<-e1,<-esb]
 have g1:Grows h h1:=⟨_,e1⟩
 have k1:h1[sb]?=some ⟨bools (List.replicate n false),true⟩:=by rw[e1,esb];simp
 rw[awp_seq]
 generalize hP:seqQ Gam _ _=PP
 simp(disch:=omega)
 refine awp_loop (λk σ h'=>k<=n∧Grows h h'∧h'[sb]?=some ⟨bools (F k).1,true⟩∧σ 0=sl ab ao n ay∧σ 1=sl bb bo n bY∧σ 5=sl sb 0 n 1∧σ 6=I (F k).2∧σ 13=I n∧σ 14=I k) (λk=>n-k) 0 ?_ ?_
 ·exact⟨by omega,g1,by rw[hs0];exact k1,by simp,by simp,by simp,by rw[hs0];simp,by simp,by simp⟩
 ·rintro k σ h'⟨hk,hg,hS,q0,q1,q5,q6,q13,q14⟩
  simp(disch:=omega)[q13,q14]
  refine fork_dec (λhlt=>?_) (λhge=>?_)
  ·have k1:k<n:=by omega
   obtain⟨gm,hcb⟩:=hok k (by omega)
   have hsk:=hs k
   have csk:=bool_cell hS (k:=k) (by rw[gm.len];exact k1)
   obtain⟨S,eS⟩:∃S,S=(F k).1:=⟨_,rfl⟩
   obtain⟨c,ec⟩:∃c,c=(F k).2:=⟨_,rfl⟩
   rw[<-eS]at gm hS hsk csk
   rw[<-ec]at hcb q6 hsk
   cases esn:S.getD k false
   ·rw[esn]at hsk
    simp only[Bool.false_eq_true,if_false]at hsk
    obtain⟨m,em⟩:∃m,m=lpM t A S k:=⟨_,rfl⟩
    have lt:=lpM_to hA gm k1
    rw[<-em]at lt hsk
    have lg:=λi (hi:i<=m)=>lp_good hA gm k1 i (λj hj=>lt.2 j (by omega))
    have ceq:cell h' sb k=some (Am.B false):=by rw[csk,esn]
    simp(disch:=omega)[q5,q6,q14,k1,ceq,wrap64]
    refine awp_loop (λi τ hh=>i<=m∧Grows h hh∧hh[sb]?=some ⟨bools (lpS t A S k i),true⟩∧τ 0=sl ab ao n ay∧τ 1=sl bb bo n bY∧τ 5=sl sb 0 n 1∧τ 6=I (c+1:Nat)∧τ 13=I n∧τ 14=I k∧τ 8=I ((itW t i k:Nat):Int)) (λi=>m-i) 0 ?_ ?_
    ·exact⟨by omega,hg,hS,by simpa using q0,by simpa using q1,by simpa using q5,by simp,by simpa using q13,by simpa using q14,by simp[itW]⟩
    rintro i τ hh⟨hi,gi,hSi,t0,t1,t5,t6,t13,t14,t8⟩
    obtain⟨gmi,ha,_⟩:=lg i hi
    have csi:=bool_cell hSi (k:=itW t i k) (by rw[gmi.len];exact ha)
    have enx:t (itW t i k)=itW t (i+1) k:=rfl
    have emk:markW A (lpS t A S k i) (itW t i k)=lpS t A S k (i+1):=rfl
    obtain⟨a,ea⟩:∃a,a=itW t i k:=⟨_,rfl⟩
    rw[<-ea]at ha csi t8 enx emk
    by_cases him:i<m
    ·have hu:=lt.2 i him
     rw[<-ea]at hu
     rw[hu]at csi
     have hAa:=hA.lt a ha
     have hBa:=hB.lt _ hAa
     have eta:t a=B.getD (A.getD a 0) 0:=by rw[et]
     obtain⟨h2,h3,s1,s2,hS3,l2,l3,f2,f3⟩:=mark_store (K:=A) hSi gmi.len ha hAa
     have g2:=grows_same gi (by omega) l2 f2
     have g3:=grows_same gi (by omega) l3 f3
     have c1:=caA hh gi a ha
     have c2:=caA h3 g3 a ha
     have c3:=cbB h3 g3 _ hAa
     obtain⟨x,ex⟩:∃x,x=A.getD a 0:=⟨_,rfl⟩
     rw[<-ex]at hAa hBa eta s2 c1 c2 c3
     rw[emk]at hS3
     rw[<-eta]at c3
     rw[enx]at c3
     simp(disch:=omega)[t0,t1,t5,t8,ha,csi,s1,s2,c1,c2,c3,hAa]
     refine⟨i+1,?_,by omega⟩
     and_intros<;>first|assumption|omega|rfl
    ·have:i=m:=by omega
     subst this
     have hu:=lt.1
     rw[<-ea]at hu
     rw[hu]at csi
     simp(disch:=omega)[t5,t8,ha,csi]
     simp(disch:=omega)[t0,t1,t5,t6,t13,t14,wrap64]
     refine⟨k+1,?_,by omega⟩
     rw[hsk]
     and_intros<;>first|assumption|omega|rfl
   ·rw[esn]at hsk
    simp only[if_true]at hsk
    have ceq:cell h' sb k=some (Am.B true):=by rw[csk,esn]
    simp(disch:=omega)[q5,q13,q14,k1,ceq,wrap64]
    refine⟨k+1,?_,by omega⟩
    rw[hsk,<-eS,<-ec]
    and_intros<;>first|assumption|omega|rfl
  ·have:k=n:=by omega
   subst this
   simp(disch:=omega)
   subst hP
   simp(disch:=omega)[q6]
   exact hg
def nbE(k:Nat):Nat:=if k%2=0 then k+1 else k-1
def nbN(n:Nat):List Nat:=(List.range n).map nbE
theorem nbN_len(n:Nat):(nbN n).length=n:=by simp[nbN]
theorem nbN_succ(n:Nat):nbN (n+1)=nbN n++[nbE n]:=by simp[nbN,List.range_succ]
theorem nbN_at{n k:Nat}(hk:k<n):(nbN n).getD k 0=nbE k:=by
 rw[getD_at (by rw[nbN_len];exact hk)]
 simp[nbN]
theorem nbN_ok{n:Nat}(he:n%2=0):Invo (nbN n) n:=by
 have h0:∀i,i<n->nbE i<n:=λi hi=>by unfold nbE;split<;>omega
 refine⟨nbN_len n,λi hi=>?_,λi hi=>?_⟩
 ·rw[nbN_at hi];exact h0 i hi
 ·rw[nbN_at hi,nbN_at (h0 i hi)]
  unfold nbE
  split<;>split<;>omega
theorem xor1:∀k,k<32->IntKind.i64.wrap (((BitVec.ofInt 64 (k:Nat)) ^^^ (BitVec.ofInt 64 1)).toNat:Int)=((nbE k:Nat):Int):=by decide+kernel
theorem aBin_xor1{k:Nat}(hk:k<32):aBin .xor 0 (I k) (I 1)=some (I ((nbE k:Nat):Int)):=by
 rw[<-xor1 k hk]
 rfl
theorem natI_snoc(l:List Nat)(x:Nat):natI (l++[x])=natI l++[(x:Int)]:=by simp[natI]
theorem c176(h:Heap)(hp:0<h.length)(n:Nat)(hn:n<=32):ACall Gam 176 [I n] h λr h'=>Grows h h'∧Buf h h' r 1 (ints (natI (nbN n))):=by
 refine ACall_intro g176 rfl ?_
 unfold fn176
 rw[awp_seq,awp_reg]
 generalize hK:seqQ Gam _ _ 0=K
 simp(disch:=omega)
 subst hK
 simp only[seqQ_zero]
 rw[awp_seq,awp_reg]
 generalize hK:seqQ Gam _ _ 0=K
 simp(disch:=omega)
 subst hK
 simp only[seqQ_zero]
 rw[awp_seq]
 generalize hP:seqQ Gam _ _=PP
 simp(disch:=omega)
 refine awp_loop (λk σ h'=>k<=n∧Grows h h'∧Buf h h' (σ 3) 1 (ints (natI (nbN k)))∧σ 6=I n∧σ 7=I k) (λk=>n-k) 0 ?_ ?_
 ·exact⟨by omega,Grows.refl _,by simpa [nbN,natI,ints]using Buf.nil,by simp,by simp⟩
 ·rintro k σ h'⟨hk,hg,b3,q6,q7⟩
  simp(disch:=omega)[q6,q7]
  refine fork_dec (λhlt=>?_) (λhge=>?_)
  ·have k1:k<n:=by omega
   have hx:=aBin_xor1 (k:=k) (by omega)
   simp(disch:=omega)[q7,hx]
   refine app_int hp hg (by rw[natI_len,nbN_len];omega) b3 λv4 h4 g4 b4=>?_
   rw[<-natI_snoc,<-nbN_succ]at b4
   simp(disch:=omega)[q6,q7,wrap64]
   refine⟨k+1,?_,by omega⟩
   and_intros<;>first|assumption|omega|rfl
  ·have:k=n:=by omega
   subst this
   obtain⟨bb,e3⟩:=b3.sl1
   rw[e3]at b3
   simp(disch:=omega)
   subst hP
   simp(disch:=omega)[e3]
   exact⟨hg,b3⟩
def rwE(n i:Nat):Nat:=if i<n then i else i-n
def y0E(x n i:Nat):Nat:=if(x+rwE n i)%2=1 then rwE n i else rwE n i+1
def upE(x n i:Nat):Bool:=decide ((x+rwE n i)%2≠1)
def sdE(n i:Nat):Bool:=decide (i<n)
def ixE(n:Nat)(s u:Bool)(y:Nat):Nat:=(if s then 0 else n)+(if u then y-1 else y)
def okE(n y:Nat)(u:Bool):Prop:=if u then 1<=y∧y<=n else y<n
/-- Turned at a point. -/
def tsE(kd:Nat->Int)(y:Nat)(s:Bool):Bool:=if kd y=1 then s else !s
def tuE(n:Nat)(kd:Nat->Int)(y:Nat)(u:Bool):Bool:=if y=0∨y=n∨kd y=2 then u else !u
def lkE(x n:Nat)(kd:Nat->Int)(i:Nat):Nat:=ixE n (tsE kd (y0E x n i) (sdE n i)) (tuE n kd (y0E x n i) (upE x n i)) (y0E x n i)
variable {x n : Nat} {kd : Nat -> Int}
theorem ix_facts{y:Nat}{s u:Bool}(hy:(x+y)%2=1)(ok:okE n y u):ixE n s u y<2*n∧sdE n (ixE n s u y)=s∧y0E x n (ixE n s u y)=y∧upE x n (ixE n s u y)=u:=by
 unfold okE at ok
 have hr:rwE n (ixE n s u y)=if u then y-1 else y:=by
  unfold rwE ixE
  cases s<;>cases u<;>simp at ok ⊢<;>first|omega|(intro;omega)
 refine⟨?_,?_,?_,?_⟩
 ·unfold ixE
  cases s<;>cases u<;>simp at ok ⊢<;>omega
 ·unfold sdE ixE
  cases s<;>cases u<;>simp at ok ⊢<;>omega
 ·unfold y0E
  rw[hr]
  cases u<;>simp at ok ⊢<;>first|omega|(split<;>omega)|(intro;omega)
 ·unfold upE
  rw[hr]
  cases u<;>simp at ok ⊢<;>omega
theorem ix_all{i:Nat}(hi:i<2*n):(x+y0E x n i)%2=1∧okE n (y0E x n i) (upE x n i)∧ixE n (sdE n i) (upE x n i) (y0E x n i)=i∧y0E x n i<=n:=by
 have hr:rwE n i<n:=by unfold rwE;split<;>omega
 have hs:(if sdE n i then 0 else n)+rwE n i=i:=by
  unfold rwE sdE
  by_cases q:i<n
  ·simp[q]
  ·simp[q];omega
 unfold okE ixE
 by_cases q:(x+rwE n i)%2=1
 ·have e1:y0E x n i=rwE n i:=by unfold y0E;rw[if_pos q]
  have e2:upE x n i=false:=by unfold upE;simp[q]
  rw[e1,e2]
  simp only[Bool.false_eq_true,if_false]
  omega
 ·have e1:y0E x n i=rwE n i+1:=by unfold y0E;rw[if_neg q]
  have e2:upE x n i=true:=by unfold upE;simp[q]
  rw[e1,e2]
  simp only[if_true,Nat.add_sub_cancel]
  omega
theorem tu_ok{y:Nat}{u:Bool}(ok:okE n y u):okE n y (tuE n kd y u):=by
 unfold tuE
 split
 ·exact ok
 ·unfold okE at ok ⊢
  cases u<;>simp at ok ⊢<;>omega
theorem lk_ix{y:Nat}{s u:Bool}(hy:(x+y)%2=1)(ok:okE n y u):lkE x n kd (ixE n s u y)=ixE n (tsE kd y s) (tuE n kd y u) y:=by
 obtain⟨_,h2,h3,h4⟩:=ix_facts (x:=x) (n:=n) (s:=s) hy ok
 unfold lkE
 rw[h2,h3,h4]
theorem lk_lt{i:Nat}(hi:i<2*n):lkE x n kd i<2*n∧y0E x n (lkE x n kd i)=y0E x n i:=by
 obtain⟨a,b,c,_⟩:=ix_all (x:=x) hi
 obtain⟨h1,_,h3,_⟩:=ix_facts (x:=x) (n:=n) (s:=tsE kd (y0E x n i) (sdE n i)) a (tu_ok (kd:=kd) b)
 exact⟨h1,h3⟩
theorem lk_inv{i:Nat}(hi:i<2*n):lkE x n kd (lkE x n kd i)=i:=by
 obtain⟨a,b,c,_⟩:=ix_all (x:=x) hi
 have e:lkE x n kd i=ixE n (tsE kd (y0E x n i) (sdE n i)) (tuE n kd (y0E x n i) (upE x n i)) (y0E x n i):=rfl
 rw[e,lk_ix a (tu_ok b)]
 have e1:∀y s,tsE kd y (tsE kd y s)=s:=λy s=>by unfold tsE;split<;>simp
 have e2:∀y u,tuE n kd y (tuE n kd y u)=u:=λy u=>by unfold tuE;split<;>simp
 rw[e1,e2]
 exact c
def lkL(x n:Nat)(kd:Nat->Int):List Nat:=(List.range (2*n)).map (lkE x n kd)
theorem lkL_at{i:Nat}(hi:i<2*n):(lkL x n kd).getD i 0=lkE x n kd i:=by
 rw[getD_at (by simp[lkL];exact hi)]
 simp[lkL]
theorem lkL_ok:Invo (lkL x n kd) (2*n):=by
 refine⟨by simp[lkL],λi hi=>?_,λi hi=>?_⟩
 ·rw[lkL_at hi];exact(lk_lt hi).1
 ·rw[lkL_at hi,lkL_at (lk_lt hi).1,lk_inv hi]
def setP(l:List Nat)(p:Nat×Nat):List Nat:=(l.set p.1 p.2).set p.2 p.1
def InP(ps:List (Nat×Nat))(i:Nat):Prop:=∃p∈ps,i=p.1∨i=p.2
def PairOk(x n:Nat)(kd:Nat->Int)(p:Nat×Nat):Prop:=p.1<2*n∧lkE x n kd p.1=p.2
theorem setP_at{l:List Nat}(hl:l.length=2*n){p:Nat×Nat}(hp:PairOk x n kd p){i:Nat}(hi:i<2*n):(setP l p).getD i 0=if i=p.1∨i=p.2 then lkE x n kd i else l.getD i 0:=by
 obtain⟨h1,h2⟩:=hp
 have h3:=lk_inv (x:=x) (kd:=kd) h1
 rw[h2]at h3
 unfold setP
 rw[getDset (by rw[List.length_set];omega),getDset (by omega)]
 by_cases q2:p.2=i
 ·rw[if_pos q2,if_pos (.inr q2.symm),<-q2,h3]
 ·rw[if_neg q2]
  by_cases q1:p.1=i
  ·rw[if_pos q1,if_pos (.inl q1.symm),<-q1,h2]
  ·rw[if_neg q1,if_neg (by omega)]
theorem setPs_len:∀(ps:List (Nat×Nat)) (l:List Nat),(ps.foldl setP l).length=l.length
 |[],_=>rfl
 |p::ps,l=>by rw[List.foldl_cons,setPs_len ps];simp[setP]
open Classical in
theorem setPs_at:∀(ps:List (Nat×Nat)) (l:List Nat),l.length=2*n->(∀p∈ps,PairOk x n kd p)->∀i,i<2*n->(ps.foldl setP l).getD i 0=if InP ps i then lkE x n kd i else l.getD i 0
 |[],l,_,_,i,_=>by
  rw[if_neg (by rintro⟨p,hp,_⟩;simp at hp)];rfl
 |p::ps,l,hl,hp,i,hi=>by
  have hp1:=hp p (by simp)
  rw[List.foldl_cons,setPs_at ps (setP l p) (by simp[setP,hl]) (λq hq=>hp q (by simp[hq])) i hi,setP_at hl hp1 hi]
  by_cases q1:InP ps i
  ·rw[if_pos q1,if_pos]
   obtain⟨a,h1,h2⟩:=q1
   exact⟨a,by simp[h1],h2⟩
  ·rw[if_neg q1]
   by_cases q2:i=p.1∨i=p.2
   ·rw[if_pos q2,if_pos ⟨p,by simp,q2⟩]
   ·rw[if_neg q2,if_neg]
    rintro⟨a,h1,h2⟩
    rcases List.mem_cons.1 h1 with e|e
    ·rw[e]at h2;exact q2 h2
    ·exact q1 ⟨a,e,h2⟩
theorem list_getD_ext{a b:List Nat}(h:a.length=b.length)(e:∀i,i<a.length->a.getD i 0=b.getD i 0):a=b:=by
 apply List.ext_getElem h
 intro i h1 h2
 have:=e i h1
 rw[getD_at h1,getD_at h2]at this
 exact this
/-- Those of the points before some row. -/
def lkP(x n:Nat)(kd:Nat->Int)(Y:Nat):List Nat:=(List.range (2*n)).map λi=>if y0E x n i<Y then lkE x n kd i else 0
theorem lkP_at{Y i:Nat}(hi:i<2*n):(lkP x n kd Y).getD i 0=if y0E x n i<Y then lkE x n kd i else 0:=by
 rw[getD_at (by simp[lkP];exact hi)]
 simp[lkP]
theorem lkP_zero{Y:Nat}(hY:Y<=1)(hx:Y=1->x%2=0):lkP x n kd Y=List.replicate (2*n) 0:=by
 refine list_getD_ext (by simp[lkP]) λi hi=>?_
 have hi:i<2*n:=by simpa [lkP]using hi
 obtain⟨a,_⟩:=ix_all (x:=x) hi
 rw[lkP_at hi,if_neg (by intro q;have:=hx;omega),getD_at (by simpa using hi)]
 simp
theorem lkP_all{Y:Nat}(hY:n<Y):lkP x n kd Y=lkL x n kd:=by
 refine list_getD_ext (by simp[lkP,lkL]) λi hi=>?_
 have hi:i<2*n:=by simpa [lkP]using hi
 obtain⟨_,_,_,a⟩:=ix_all (x:=x) hi
 rw[lkP_at hi,lkL_at hi,if_pos (by omega)]
theorem lkP_step{y:Nat}{ps:List (Nat×Nat)}(hy:(x+y)%2=1)(hp:∀p∈ps,PairOk x n kd p∧y0E x n p.1=y)(hc:∀i,i<2*n->y0E x n i=y->InP ps i):ps.foldl setP (lkP x n kd y)=lkP x n kd (y+2):=by
 refine list_getD_ext (by rw[setPs_len];simp[lkP]) λi hi=>?_
 have hi:i<2*n:=by rw[setPs_len]at hi;simpa [lkP]using hi
 obtain⟨a,_⟩:=ix_all (x:=x) hi
 rw[setPs_at ps _ (by simp[lkP]) (λp h=>(hp p h).1) i hi,lkP_at hi,lkP_at hi]
 by_cases q:y0E x n i=y
 ·rw[if_pos (hc i hi q),if_pos (by omega)]
 ·have hn:¬InP ps i:=by
   rintro⟨p,h1,h2⟩
   obtain⟨⟨b1,b2⟩,b3⟩:=hp p h1
   have b4:=(lk_lt (x:=x) (kd:=kd) b1).2
   rw[b2]at b4
   rcases h2 with e|e
   ·rw[e]at q;exact q b3
   ·rw[e]at q;omega
  rw[if_neg hn]
  by_cases q2:y0E x n i<y
  ·rw[if_pos q2,if_pos (by omega)]
  ·rw[if_neg q2,if_neg (by omega)]
end Am

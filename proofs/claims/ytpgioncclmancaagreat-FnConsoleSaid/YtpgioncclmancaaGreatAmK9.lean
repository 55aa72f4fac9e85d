/- Contracts: AmH13, AmH14, AmH15, AmH16, AmH17, AmH18, AmH19, AmH20, AmH21. -/
import Derived.Test.YtpgioncclmancaaGreatAmK8
set_option linter.unusedVariables false
set_option linter.unusedSimpArgs false
set_option maxHeartbeats 4000000
set_option maxRecDepth 40000
namespace Am
open Go
def okC(m:Nat)(x:Int):Bool:=decide (x≠0)&&decide (-(m:Int)<=x∧x<=m)
def codeOk(L:List (List Int)):Bool:=decide (L.length<=40)&&(decide (L.flatten.length%2=0)&&(decide (L.flatten.length/2<=120)&&(L.flatten.all (okC (L.flatten.length/2))&&decide L.flatten.Nodup)))
def seenB(m:Nat)(V:List Int):List Value:=(List.range (2*m+1)).map λ(s:Nat)=>B (decide ((s:Int)-m∈V))
theorem seenB_len{m:Nat}{V:List Int}:(seenB m V).length=2*m+1:=by simp[seenB]
theorem seenB_nil{m:Nat}:seenB m []=List.replicate (2*m+1) (B false):=by
 unfold seenB
 apply List.ext_getElem
 ·simp
 ·intro i h1 h2;simp
theorem seenB_at{m:Nat}{V:List Int}{x:Int}(h:-(m:Int)<=x∧x<=m):(seenB m V)[(x+m).toNat]?=some (B (decide (x∈V))):=by
 have h1:(x+m).toNat<(seenB m V).length:=by rw[seenB_len];omega
 rw[List.getElem?_eq_getElem h1]
 simp only[seenB,List.getElem_map,List.getElem_range]
 rw[show(((x+m).toNat:Nat):Int)-m=x by omega]
theorem seenB_set{m:Nat}{V:List Int}{x:Int}(h:-(m:Int)<=x∧x<=m):(seenB m V).set (x+m).toNat (B true)=seenB m (V++[x]):=by
 apply List.ext_getElem
 ·rw[List.length_set,seenB_len,seenB_len]
 ·intro i h1 h2
  rw[List.getElem_set]
  simp only[seenB,List.getElem_map,List.getElem_range,List.mem_append,List.mem_singleton]
  by_cases e:(x+m).toNat=i
  ·rw[if_pos e]
   have:(i:Int)-m=x:=by omega
   simp[this]
  ·rw[if_neg e]
   have:¬(i:Int)-m=x:=by omega
   simp[this]
structure SeenV (m:Nat) (V:List Int):Prop where
 ok:V.all (okC m)=true
 nd:V.Nodup
theorem SeenV.nil{m:Nat}:SeenV m []:=⟨rfl,List.nodup_nil⟩
theorem SeenV.snoc{m:Nat}{V:List Int}{x:Int}(s:SeenV m V)(h1:okC m x=true)(h2:x∉V):SeenV m (V++[x]):=by
 refine⟨by simp[s.ok,h1],?_⟩
 rw[List.nodup_append]
 refine⟨s.nd,by simp,?_⟩
 intro a ha b hb
 simp at hb
 rintro rfl
 exact h2 (hb▸ha)
theorem flat_pre{L:List (List Int)}{i k:Nat}(hi:i<L.length)(hk:k<L[i].length):∃r,L.flatten=((L.take i).flatten++L[i].take k)++L[i][k]::r:=by
 refine⟨L[i].drop (k+1)++(L.drop (i+1)).flatten,?_⟩
 have e1:L=L.take i++L[i]::L.drop (i+1):=by rw[<-List.drop_eq_getElem_cons hi,List.take_append_drop]
 have e2:L[i]=L[i].take k++L[i][k]::L[i].drop (k+1):=by rw[<-List.drop_eq_getElem_cons hk,List.take_append_drop]
 conv=>lhs;rw[e1]
 rw[List.flatten_append,List.flatten_cons]
 have e3:L[i]++(L.drop (i+1)).flatten=L[i].take k++L[i][k]::(L[i].drop (k+1)++(L.drop (i+1)).flatten):=by
  exact(congrArg (λa=>a++(L.drop (i+1)).flatten) e2).trans (by simp only[List.append_assoc,List.cons_append])
 rw[e3,List.append_assoc]
theorem code_bad{L:List (List Int)}{V r:List Int}{x:Int}(e:L.flatten=V++x::r)(hb:okC (L.flatten.length/2) x=false∨x∈V):codeOk L=false:=by
 rcases hb with h|h
 ·have:L.flatten.all (okC (L.flatten.length/2))=false:=by
   rw[List.all_eq_false]
   exact⟨x,by rw[e];simp,by rw[h];simp⟩
  unfold codeOk
  rw[this];simp
 ·have:decide L.flatten.Nodup=false:=by
   rw[decide_eq_false_iff_not,e]
   intro hn
   have:=(List.nodup_append.1 hn).2.2 x h x (by simp)
   exact this rfl
  unfold codeOk
  rw[this];simp
theorem code_good{L:List (List Int)}(h1:L.length<=40)(h2:L.flatten.length%2=0)(h3:L.flatten.length/2<=120)(s:SeenV (L.flatten.length/2) L.flatten):codeOk L=true:=by
 unfold codeOk
 simp only[Bool.and_eq_true,decide_eq_true_eq]
 exact⟨h1,h2,h3,s.ok,s.nd⟩
theorem flat_take{L:List (List Int)}{i:Nat}(hi:i<L.length):(L.take (i+1)).flatten=(L.take i).flatten++L[i]:=by
 rw[List.take_succ_eq_append_getElem hi,List.flatten_append];simp
theorem flat_le{L:List (List Int)}(i:Nat):(L.take i).flatten.length<=L.flatten.length:=by
 conv=>rhs;rw[<-List.take_append_drop i L,List.flatten_append,List.length_append]
 omega
theorem make_seen{h:Heap}{m:Nat}(hm:m<=1000):aMake 1 h (I (2*(m:Int)+1)) (I (2*(m:Int)+1)) (.agg #[B false])=some (sl h.length 0 (2*m+1) 1,h++[⟨seenB m [],true⟩]):=by
 have e:(2*(m:Int)+1).toNat=2*m+1:=by omega
 simp only[aMake,e]
 rw[if_pos ⟨by omega,by omega,by simp[maxSize];omega,by simp⟩,seenB_nil]
 have:reps (2*m+1) [B false]=List.replicate (2*m+1) (B false):=by
  unfold reps
  induction (2*m+1)with
  |zero=>rfl
  |succ n ih=>rw[List.replicate_succ,List.flatten_cons,ih,List.replicate_succ];rfl
 simp[this]
theorem okC_false{m:Nat}{x:Int}(h:¬(-(m:Int)<=x∧x<=m)):okC m x=false:=by
 unfold okC
 rw[decide_eq_false h];simp
theorem okC_true{m:Nat}{x:Int}(h0:x≠0)(h:-(m:Int)<=x∧x<=m):okC m x=true:=by
 unfold okC
 rw[decide_eq_true h,decide_eq_true h0];rfl
theorem inR_m{m:Nat}{x:Int}:inR x (-(m:Int)) m=decide (-(m:Int)<=x∧x<=m):=by
 unfold inR
 by_cases q:-(m:Int)<=x∧x<=m
 ·simp[q]
 ·simp[q];omega
theorem c137(h:Heap)(hp:0<h.length)(v:Value)(L:List (List Int))(hv:RowsR h v L)(hl:L.length<=100000)(hf:L.flatten.length<=1000000)(h64:∀R∈L,∀x∈R,-1000000<=x∧x<=1000000):ACall Gam 137 [v] h λr h'=>Grows h h'∧r=B (codeOk L):=by
 obtain⟨b,o,y,rfl,hcell⟩:=hv
 refine ACall_intro g137 rfl ?_
 unfold fn137
 rw[awp_seq,awp_reg]
 generalize hK:seqQ Gam _ _ 0=K
 simp(disch:=omega)
 subst hK
 simp only[seqQ_zero]
 rw[awp_seq,awp_reg]
 generalize hK:seqQ Gam _ _ 0=K
 simp(disch:=omega)
 subst hK
 simp only[seqQ_zero]
 rw[awp_seq]
 generalize hP:seqQ Gam _ _=PP
 simp(disch:=omega)
 refine awp_loop (λk σ h'=>h'=h∧k<=L.length∧σ 0=sl b o L.length y∧σ 3=I (L.take k).flatten.length∧σ 12=sl b o L.length y∧σ 13=I L.length∧σ 14=I k) (λk=>L.length-k) 0 ?_ ?_
 ·exact⟨rfl,by omega,by simp,by simp,by simp,by simp,by simp⟩
 ·rintro k σ h'⟨rfl,hk,q0,q3,q12,q13,q14⟩
  simp(disch:=omega)[q13,q14]
  refine fork_dec (λhlt=>?_) (λhge=>?_)
  ·have k1:k<L.length:=by omega
   obtain⟨w,c1,vr⟩:=hcell k k1
   obtain⟨wb,wo,wz,rfl,_⟩:=vr.ints
   have hfl:=flat_le (L:=L) (k+1)
   have e:=flat_take k1
   rw[e,List.length_append]at hfl
   simp(disch:=omega)[q0,q3,q12,q14,k1,c1]
   refine⟨k+1,?_,by omega⟩
   have e3:IntKind.i64.wrap (((L.take k).flatten.length:Int)+L[k].length)=(((L.take (k+1)).flatten.length:Nat):Int):=by rw[wrap64 (by omega) (by omega),e,List.length_append];simp
   have e4:IntKind.i64.wrap ((k:Int)+1)=((k+1:Nat):Int):=wrap64 (by omega) (by omega)
   simp only[List.length_flatten]at e3
   and_intros<;>first|assumption|omega|rfl|exact e3|exact e4|simpa using e3
  ·have:k=L.length:=by omega
   subst this
   rw[List.take_length]at q3
   clear hge hk
   obtain⟨F,hF⟩:∃F,F=L.flatten.length:=⟨_,rfl⟩
   obtain⟨m,hm⟩:∃m,m=F/2:=⟨_,rfl⟩
   rw[<-hF]at q3 hf
   simp(disch:=omega)
   subst hP
   simp only[seqQ_zero]
   rw[awp_seq]
   generalize hK:seqQ Gam _ _=K
   have e1:((F:Int)).tmod 2=(F:Int)%2:=Int.tmod_eq_emod_of_nonneg (by omega)
   have e2:((F:Int)).tdiv 2=(m:Int):=by rw[Int.tdiv_eq_ediv_of_nonneg (by omega)];omega
   have ew:IntKind.i64.wrap (m:Int)=(m:Int):=wrap64 (by omega) (by omega)
   have hno:¬(L.length<=40∧F%2=0∧m<=120)->codeOk L=false:=by
    intro q
    refine Bool.eq_false_iff.2 λhc=>q ?_
    unfold codeOk at hc
    simp only[Bool.and_eq_true,decide_eq_true_eq]at hc
    rw[<-hF,<-hm]at hc
    exact⟨hc.1,hc.2.1,hc.2.2.1⟩
   by_cases a1:(40:Int)<L.length
   ·rw[hno (by omega)]at hK
    simp(disch:=omega)[q0,a1]
    subst hK
    simp(disch:=omega)
    exact Grows.refl _
   by_cases a2:(F:Int)%2=0
   rotate_left
   ·rw[hno (by omega)]at hK
    simp(disch:=omega)[q0,q3,a1,e1,a2]
    subst hK
    simp(disch:=omega)
    exact Grows.refl _
   by_cases a3:(120:Int)<m
   ·rw[hno (by omega)]at hK
    simp(disch:=omega)[q0,q3,a1,e1,e2,ew,a2,a3]
    subst hK
    simp(disch:=omega)
    exact Grows.refl _
   simp(disch:=omega)[q0,q3,a1,e1,e2,ew,a2,a3]
   subst hK
   simp only[seqQ_zero]
   rw[awp_seq,awp_reg]
   generalize hK:seqQ Gam _ _ 0=K
   simp(disch:=omega)[q3,e2,ew]
   subst hK
   simp only[seqQ_zero]
   rw[awp_seq,awp_reg]
   generalize hK:seqQ Gam _ _ 0=K
   have e3:IntKind.i64.wrap (2*(m:Int))=2*(m:Int):=wrap64 (by omega) (by omega)
   have e4:IntKind.i64.wrap (2*(m:Int)+1)=2*(m:Int)+1:=wrap64 (by omega) (by omega)
   simp(disch:=omega)[e3,e4]
   rw[make_seen (by omega)]
   simp only[bindW_some]
   try simp(disch:=omega)
   subst hK
   simp only[seqQ_zero]
   obtain⟨hs,ehs⟩:∃hs,hs=h'++[⟨seenB m [],true⟩]:=⟨_,rfl⟩
   rw[<-ehs]
   have gs:Grows h' hs:=⟨_,ehs⟩
   have bs:hs[h'.length]?=some ⟨seenB m [],true⟩:=by rw[ehs];simp
   rw[awp_seq]
   generalize hP:seqQ Gam _ _=PP
   simp(disch:=omega)[q0]
   refine awp_loop (λk τ hh=>k<=L.length∧Grows h' hh∧hh[h'.length]?=some ⟨seenB m (L.take k).flatten,true⟩∧SeenV m (L.take k).flatten∧τ 6=I m∧τ 7=sl h'.length 0 (2*m+1) 1∧τ 42=sl b o L.length y∧τ 43=I L.length∧τ 44=I k) (λk=>L.length-k) 0 ?_ ?_
   ·exact⟨by omega,gs,by simpa using bs,by simpa using SeenV.nil,by simp,by simp,by simp,by simp,by simp⟩
   clear q3 q12 q13 q14 bs gs ehs
   rintro k τ hh⟨hk,hg,hB,sv,r6,r7,r42,r43,r44⟩
   simp(disch:=omega)[r43,r44]
   refine fork_dec (λhlt=>?_) (λhge=>?_)
   ·have k1:k<L.length:=by omega
    obtain⟨w,c1,vr⟩:=hcell k k1
    have c1:=hg.cell c1
    have hR64:=h64 _ (List.getElem_mem k1)
    have hkl:L[k].length<=F:=by
     have h1:=flat_le (L:=L) (k+1)
     rw[flat_take k1,List.length_append]at h1
     omega
    obtain⟨wb,wo,wz,rfl,_,_,_,hrow⟩:=vr.ints
    simp(disch:=omega)[r42,r44,k1,c1]
    refine awp_loop (λj ρ hx=>j<=L[k].length∧Grows h' hx∧hx[h'.length]?=some ⟨seenB m ((L.take k).flatten++L[k].take j),true⟩∧SeenV m ((L.take k).flatten++L[k].take j)∧ρ 6=I m∧ρ 7=sl h'.length 0 (2*m+1) 1∧ρ 42=sl b o L.length y∧ρ 43=I L.length∧ρ 44=I k∧ρ 48=sl wb wo L[k].length wz∧ρ 49=I L[k].length∧ρ 50=I j) (λj=>L[k].length-j) 0 ?_ ?_
    ·exact⟨by omega,hg,by simpa using hB,by simpa using sv,by simpa using r6,by simpa using r7,by simpa using r42,by simpa using r43,by simpa using r44,by simp,by simp,by simp⟩
    rintro j ρ hx⟨hj,gx,hBx,svx,t6,t7,t42,t43,t44,t48,t49,t50⟩
    simp(disch:=omega)[t49,t50]
    refine fork_dec (λjlt=>?_) (λjge=>?_)
    ·have j1:j<L[k].length:=by omega
     have cx:=ints_cell (hrow.imp id (grows_cellsAt gx)) j1
     obtain⟨rest,efl⟩:=flat_pre k1 j1
     obtain⟨V,hV⟩:∃V,V=(L.take k).flatten++L[k].take j:=⟨_,rfl⟩
     have hsn:(L.take k).flatten++L[k].take (j+1)=V++[L[k][j]]:=by rw[hV,List.append_assoc,List.take_succ_eq_append_getElem j1]
     rw[<-hV]at hBx svx efl
     have hx64:=hR64 _ (List.getElem_mem j1)
     obtain⟨x,hxe⟩:∃x,x=L[k][j]:=⟨_,rfl⟩
     rw[<-hxe]at cx efl hx64 hsn
     have bad:okC m x=false∨x∈V->codeOk L=false:=λq=>code_bad efl (by rw[<-hF,<-hm];exact q)
     have em:IntKind.i64.wrap (-(m:Int))=-(m:Int):=wrap64 (by omega) (by omega)
     have ex:IntKind.i64.wrap (x+m)=x+m:=wrap64 (by omega) (by omega)
     simp(disch:=omega)[t48,t50,j1,cx]
     by_cases x0:x=0
     ·have e:=bad (.inl (by rw[x0];rfl))
      rw[e]at hP
      simp(disch:=omega)[x0]
      subst hP
      simp(disch:=omega)
      exact gx
     simp(disch:=omega)[x0,t6,em]
     refine callW_of (c164 x _ _ hx) ?_
     rintro _ hx'⟨rfl,rfl⟩
     try refine⟨λe=>(by cases e),?_⟩
     rw[inR_m]
     by_cases xr:-(m:Int)<=x∧x<=m
     rotate_left
     ·have e:=bad (.inl (okC_false xr))
      rw[e]at hP
      rw[decide_eq_false xr]
      simp(disch:=omega)
      subst hP
      simp(disch:=omega)
      exact gx
     rw[decide_eq_true xr]
     have n0:0<=x+m:=by omega
     have n1:x+(m:Int)<2*m+1:=by omega
     have cs:cell hx' h'.length (x+m).toNat=some (B (decide (x∈V))):=by
      have h1:=seenB_at (V:=V) xr
      unfold cell
      rw[hBx]
      exact h1
     simp(disch:=omega)[t6,t7,ex,n0,n1,cs]
     by_cases xv:x∈V
     ·have e:=bad (.inr xv)
      rw[e]at hP
      simp(disch:=omega)[xv]
      subst hP
      simp(disch:=omega)
      exact gx
     have st:=store_one (v:=B true) (o:=(x+m).toNat) hBx (by rw[seenB_len];omega)
     rw[seenB_set xr,<-hsn]at st
     simp(disch:=omega)[xv,t6,t7,ex,n0,n1,st,t50,wrap64]
     have hlb:h'.length<hx'.length:=at_lt hBx
     refine⟨j+1,?_,by omega⟩
     have gn:Grows h' (hx'.set h'.length ⟨seenB m ((L.take k).flatten++L[k].take (j+1)),true⟩):=gx.put (by omega) _
     have sn:SeenV m ((L.take k).flatten++L[k].take (j+1)):=by rw[hsn];exact svx.snoc (okC_true x0 xr) xv
     have ej:IntKind.i64.wrap ((j:Int)+1)=((j+1:Nat):Int):=wrap64 (by omega) (by omega)
     and_intros<;>first|assumption|omega|exact gn|exact ej|exact sn|(rw[List.getElem?_set_self hlb])|(simp[hlb];done)
    ·have:j=L[k].length:=by omega
     subst this
     rw[List.take_length,<-flat_take k1]at hBx svx
     simp(disch:=omega)[t44,wrap64]
     refine⟨k+1,?_,by omega⟩
     and_intros<;>first|assumption|omega
   ·have:k=L.length:=by omega
    subst this
    rw[List.take_length]at sv
    have e:codeOk L=true:=code_good (by omega) (by omega) (by omega) (by rw[<-hF,<-hm];exact sv)
    rw[e]at hP
    simp(disch:=omega)
    subst hP
    simp(disch:=omega)
    exact hg
def rowT(R:List Int):List UInt8:=if R=[]then[111]else joinS [32] (R.map decS)
def codeT(L:List (List Int)):List UInt8:=if codeOk L then(if L=[]then[110,111,110,101]else joinS [59] (L.map rowT))else[]
theorem join_bd{sep:List UInt8}{n:Nat}:∀(l:List (List UInt8)),(∀x∈l,x.length<=n)->(joinS sep l).length<=(n+sep.length)*l.length
 |[],_=>by simp[joinS]
 |a::r,h=>by
  have ha:=h a (by simp)
  have key:∀r:List (List UInt8),(∀x∈r,x.length<=n)->(r.flatMap λx=>sep++x).length<=(n+sep.length)*r.length:=by
   intro r
   induction r with
   |nil=>simp
   |cons b r ih=>
    intro hr
    have h1:=hr b (by simp)
    have h2:=ih λx hx=>hr x (by simp[hx])
    simp only[List.flatMap_cons,List.length_append,List.length_cons,Nat.mul_add,Nat.mul_one]at h2 ⊢
    omega
  have h2:=key r λx hx=>h x (by simp[hx])
  simp only[joinS,List.length_append,List.length_cons,Nat.mul_add,Nat.mul_one]
  omega
theorem rowT_bd{R:List Int}(hl:R.length<=256)(hx:∀x∈R,I64 x):(rowT R).length<=5400:=by
 unfold rowT
 split
 ·simp
 ·have:=join_len R hx R.length (Nat.le_refl _)
  rw[List.take_length]at this
  omega
theorem c69(h:Heap)(hp:0<h.length)(v:Value)(L:List (List Int))(hv:RowsR h v L)(hl:L.length<=300)(hb:∀R∈L,R.length<=256∧∀x∈R,-113<=x∧x<=113)(hf:L.flatten.length<=1000000):ACall Gam 69 [v] h λr h'=>Grows h h'∧r=S (codeT L):=by
 have hv0:=hv
 have h64:∀R∈L,∀x∈R,I64 x:=λR hR x hx=>by have:=(hb R hR).2 x hx;unfold I64;omega
 have c7:=c137 h hp v L hv (by omega) hf λR hR x hx=>by have:=(hb R hR).2 x hx;omega
 obtain⟨b,o,y,rfl,hcell⟩:=hv
 refine ACall_intro g69 rfl ?_
 unfold fn69
 rw[awp_seq,awp_reg]
 generalize hK:seqQ Gam _ _ 0=K
 simp(disch:=omega)
 subst hK
 simp only[seqQ_zero]
 rw[awp_seq]
 generalize hK:seqQ Gam _ _=K
 simp(disch:=omega)
 refine callW_of c7 ?_
 rintro _ h1⟨g1,rfl⟩
 try refine⟨λe=>(by first|exact g1|cases e),?_⟩
 cases e1:codeOk L
 ·have eT:codeT L=[]:=by simp[codeT,e1]
  rw[eT]at hK
  simp(disch:=omega)
  subst hK
  simp(disch:=omega)
  exact g1
 simp(disch:=omega)
 subst hK
 simp only[seqQ_zero]
 rw[awp_seq]
 generalize hK:seqQ Gam _ _=K
 have h40:L.length<=40:=by
  unfold codeOk at e1
  simp only[Bool.and_eq_true,decide_eq_true_eq]at e1
  exact e1.1
 by_cases e0:L=[]
 ·have eT:codeT L=[110,111,110,101]:=by unfold codeT;rw[e1,if_pos rfl,if_pos e0]
  rw[eT]at hK
  have:L.length=0:=by rw[e0];rfl
  simp(disch:=omega)[this]
  subst hK
  simp(disch:=omega)
  exact g1
 have e00:¬(L.length:Int)=0:=λe=>e0 (List.length_eq_zero_iff.1 (by omega))
 have eT:codeT L=joinS [59] (L.map rowT):=by unfold codeT;rw[e1,if_pos rfl,if_neg e0]
 rw[eT]at hK
 simp(disch:=omega)[e0]
 subst hK
 simp only[seqQ_zero]
 rw[awp_seq,awp_reg]
 generalize hK:seqQ Gam _ _ 0=K
 simp(disch:=omega)
 subst hK
 simp only[seqQ_zero]
 rw[awp_seq]
 generalize hP:seqQ Gam _ _=PP
 have hp1:=pos_of hp g1
 simp(disch:=omega)
 refine awp_loop (λk σ h'=>k<=L.length∧Grows h1 h'∧Buf h1 h' (σ 3) 1 (texts ((L.take k).map rowT))∧σ 13=sl b o L.length y∧σ 14=I L.length∧σ 15=I k) (λk=>L.length-k) 0 ?_ ?_
 ·exact⟨by omega,Grows.refl _,by simpa [texts]using Buf.nil,by simp,by simp,by simp⟩
 ·rintro k σ h'⟨hk,hg,p3,p13,p14,p15⟩
  simp(disch:=omega)[p14,p15]
  refine fork_dec (λhlt=>?_) (λhge=>?_)
  ·have k1:k<L.length:=by omega
   obtain⟨w,c1,vr⟩:=hcell k k1
   have hgg:=g1.trans hg
   have c1:=hgg.cell c1
   have vr:=vr.grow hgg
   have hbk:=hb _ (List.getElem_mem k1)
   have hsn:(L.take (k+1)).map rowT=(L.take k).map rowT++[rowT L[k]]:=by rw[List.take_succ_eq_append_getElem k1,List.map_append];rfl
   have vr0:=vr
   obtain⟨wb,wo,wz,rfl,_⟩:=vr0.ints
   by_cases er:L[k]=[]
   ·have er0:L[k].length=0:=by rw[er];rfl
    have eR:rowT L[k]=[111]:=by unfold rowT;rw[if_pos er]
    rw[eR]at hsn
    simp(disch:=omega)[p13,p15,k1,c1,er0]
    refine append_word hp1 (by simp;omega) hg p3 λv3 h3 g3 b3=>?_
    rw[<-hsn]at b3
    try simp(disch:=omega)[p13,p14,p15,wrap64]
    refine⟨k+1,⟨by omega,g3,?_,by omega⟩,by omega⟩
    rw[<-List.map_take]
    exact b3
   ·have er0:¬(L[k].length:Int)=0:=λe=>er (List.length_eq_zero_iff.1 (by omega))
    have eR:rowT L[k]=joinS [32] (L[k].map decS):=by unfold rowT;rw[if_neg er]
    rw[eR]at hsn
    simp(disch:=omega)[p13,p15,k1,c1,er]
    refine callW_of (c156 h' (pos_of hp1 hg) _ L[k] vr (by omega)) ?_
    rintro _ h2⟨g2,rfl⟩
    try refine⟨λe=>(by first|exact g2|cases e),?_⟩
    try simp(disch:=omega)
    refine append_word hp1 (by simp;omega) (hg.trans g2) (p3.grow g2) λv3 h3 g3 b3=>?_
    rw[<-hsn]at b3
    try simp(disch:=omega)[p13,p14,p15,wrap64]
    refine⟨k+1,⟨by omega,g3,?_,by omega⟩,by omega⟩
    rw[<-List.map_take]
    exact b3
  ·have:k=L.length:=by omega
   subst this
   rw[List.take_length]at p3
   have hj:=join_bd (sep:=[59]) (n:=5400) (L.map rowT) (by
    intro x hx
    obtain⟨R,hR,rfl⟩:=List.mem_map.1 hx
    exact rowT_bd (hb R hR).1 (h64 R hR))
   rw[List.length_map]at hj
   have hj2:(joinS [59] (L.map rowT)).length<=1048576:=Nat.le_trans hj (by simp only[List.length_singleton];omega)
   simp(disch:=omega)
   subst hP
   simp(disch:=omega)
   refine callW_of (c167 _ _ [59] _ p3.reads hj2 (by simp;omega)) ?_
   rintro _ h2⟨rfl,rfl⟩
   try refine⟨λe=>(by cases e),?_⟩
   simp(disch:=omega)
   exact g1.trans hg
theorem cntZ_mono {br : List Int} {j k : Nat} (h : j ≤ k) : cntZ br j ≤ cntZ br k := by
  induction k with
  | zero => have : j = 0 := by omega
            subst this; exact Nat.le_refl _
  | succ k ih =>
    by_cases e : j = k + 1
    · subst e; exact Nat.le_refl _
    · have h1 := ih (by omega)
      by_cases hk : k < br.length
      · rw [cntZ_succ hk]; omega
      · have e : br.take (k + 1) = br.take k := by rw [List.take_of_length_le (show br.length ≤ k + 1 by omega), List.take_of_length_le (show br.length ≤ k by omega)]
        unfold cntZ at h1 ⊢
        rw [e]
        exact h1
theorem cntZ_lt{br:List Int}{j k:Nat}(hj:j<br.length)(h0:br[j]=0)(hk:j<k):cntZ br j<cntZ br k:=by
 have h1:=cntZ_succ hj
 rw[if_pos h0]at h1
 have h2:=cntZ_mono (br:=br) (show j+1<=k by omega)
 omega
def nCross(br:List Int):Nat:=cntZ br br.length
theorem cross_facts{W H:Nat}{br:List Int}{x y:Int}(n:NxP W H x y)(hn:br.length=rowN W (2*H))(w1:1<=W)(h1:1<=H)(hc:crossQ W H br x y=true):∃hj:numP W x.toNat y.toNat<br.length,br[numP W x.toNat y.toNat]=0∧cntZ br (numP W x.toNat y.toNat)<nCross br:=by
 have he:=cross_in hc
 obtain⟨a,b,rfl,rfl,q1,q2,q3,q4⟩:=inner_num n hn w1 h1 he
 rw[Int.toNat_natCast,Int.toNat_natCast]
 have h0:br[numP W a b]=0:=by
  unfold crossQ at hc
  simp only[Bool.and_eq_true,decide_eq_true_eq,Int.toNat_natCast]at hc
  rw[at0_of q4]at hc
  exact hc.2
 exact⟨q4,h0,cntZ_lt q4 h0 q4⟩
structure Dirs where
 ov:List Wk
 un:List Wk
 oc:List Int
 uc:List Int
def nextW(w:Wk):Wk:=(w.1+w.2.2.1,w.2.1+w.2.2.2,w.2.2.1,w.2.2.2)
def crossK(W:Nat)(br:List Int)(w:Wk):Nat:=cntZ br (numP W (w.1+w.2.2.1).toNat (w.2.1+w.2.2.2).toNat)
def overQ(w:Wk):Bool:=decide (w.2.2.1*w.2.2.2=slopeW (w.1+w.2.2.1))
def dirS(W H:Nat)(br:List Int)(c:Int)(D:Dirs)(w:Wk):Dirs:=
 if crossQ W H br (w.1+w.2.2.1) (w.2.1+w.2.2.2)then
  (if overQ w then⟨D.ov.set (crossK W br w) (nextW w),D.un,D.oc.set (crossK W br w) c,D.uc⟩else⟨D.ov,D.un.set (crossK W br w) (nextW w),D.oc,D.uc.set (crossK W br w) c⟩)
 else D
def dirZ(n:Nat):Dirs:=⟨List.replicate n (0,0,0,0),List.replicate n (0,0,0,0),List.replicate n 0,List.replicate n 0⟩
noncomputable def dirN(X:Pan):Nat->Dirs
 |0=>dirZ (nCross X.2.2)
 |k+1=>(curveW X k).foldl (dirS X.1.toNat X.2.1.toNat X.2.2 k) (dirN X k)
noncomputable def dirP(X:Pan):Dirs:=dirN X (curveN X)
/-- Of the right length, with directions of 1, 0 or -1. -/
structure DirOk (n:Nat) (D:Dirs):Prop where
 ol:D.ov.length=n
 ul:D.un.length=n
 cl:D.oc.length=n
 dl:D.uc.length=n
 od:∀w∈D.ov,(-1<=w.2.2.1∧w.2.2.1<=1)∧(-1<=w.2.2.2∧w.2.2.2<=1)
 ud:∀w∈D.un,(-1<=w.2.2.1∧w.2.2.1<=1)∧(-1<=w.2.2.2∧w.2.2.2<=1)
theorem dirZ_ok(n:Nat):DirOk n (dirZ n):=by
 refine⟨by simp[dirZ],by simp[dirZ],by simp[dirZ],by simp[dirZ],?_,?_⟩
 ·intro w hw
  have:=List.eq_of_mem_replicate hw
  rw[this];simp
 ·intro w hw
  have:=List.eq_of_mem_replicate hw
  rw[this];simp
theorem dirS_ok{W H n:Nat}{br:List Int}{c:Int}{D:Dirs}{w:Wk}(d:DirOk n D)(hw:OkW W H w):DirOk n (dirS W H br c D w):=by
 have hd:(-1<=(nextW w).2.2.1∧(nextW w).2.2.1<=1)∧(-1<=(nextW w).2.2.2∧(nextW w).2.2.2<=1):=by
  have h1:=hw.dx
  have h2:=hw.dy
  unfold nextW
  simp only
  omega
 unfold dirS
 split
 ·split
  ·refine⟨by simp[d.ol],d.ul,by simp[d.cl],d.dl,?_,d.ud⟩
   intro u hu
   rcases List.mem_or_eq_of_mem_set hu with q|q
   ·exact d.od u q
   ·rw[q];exact hd
  ·refine⟨d.ol,by simp[d.ul],d.cl,by simp[d.dl],d.od,?_⟩
   intro u hu
   rcases List.mem_or_eq_of_mem_set hu with q|q
   ·exact d.ud u q
   ·rw[q];exact hd
 ·exact d
theorem dirF_ok{W H n:Nat}{br:List Int}{c:Int}:∀{ws:List Wk} {D:Dirs},DirOk n D->(∀w∈ws,OkW W H w)->DirOk n (ws.foldl (dirS W H br c) D)
 |[],D,d,_=>d
 |w::ws,D,d,h=>by
  simp only[List.foldl_cons]
  exact dirF_ok (dirS_ok d (h w (by simp))) λu hu=>h u (by simp[hu])
theorem dirN_ok{X:Pan}(ok:OkP X):∀{k:Nat},k<=curveN X->DirOk (nCross X.2.2) (dirN X k)
 |0,_=>dirZ_ok _
 |k+1,hk=>dirF_ok (dirN_ok ok (by omega)) (curve_ok ok (by omega))
theorem foldl_take{α β:Type}(f:β->α->β)(b:β)(l:List α){j:Nat}(hj:j<l.length):(l.take (j+1)).foldl f b=f ((l.take j).foldl f b) l[j]:=by
 rw[List.take_succ_eq_append_getElem hj,List.foldl_append];rfl
def signW(a b:Wk):Int:=if 0<a.2.2.1*b.2.2.2-a.2.2.2*b.2.2.1 then 1 else -1
noncomputable def signsP(X:Pan):List Int:=(List.range (nCross X.2.2)).map λk=>signW ((dirP X).ov.getD k (0,0,0,0)) ((dirP X).un.getD k (0,0,0,0))
theorem prod_bd{a b:Int}(ha:-1<=a∧a<=1)(hb:-1<=b∧b<=1):-1<=a*b∧a*b<=1:=by
 have h1:a=-1∨a=0∨a=1:=by omega
 have h2:b=-1∨b=0∨b=1:=by omega
 rcases h1 with rfl|rfl|rfl<;>rcases h2 with rfl|rfl|rfl<;>omega
theorem step_cross{W H:Nat}{br:List Int}{w:Wk}(hw:OkW W H w)(hc:crossQ W H br (w.1+w.2.2.1) (w.2.1+w.2.2.2)=true):stepW W H br w=nextW w:=by
 have he:=cross_in hc
 have h0:kindW W H br (w.1+w.2.2.1) (w.2.1+w.2.2.2)=0:=by
  unfold crossQ at hc
  simp only[Bool.and_eq_true,decide_eq_true_eq]at hc
  unfold kindW
  rw[if_neg he]
  exact hc.2
 unfold edgeW at he
 simp only[not_or]at he
 unfold stepW nextW
 rw[h0]
 have a1:¬(w.1+w.2.2.1=0∨w.1+w.2.2.1=2*(W:Int)∨(0:Int)=1):=by omega
 have a2:¬(w.2.1+w.2.2.2=0∨w.2.1+w.2.2.2=2*(H:Int)∨(0:Int)=2):=by omega
 rw[if_neg a1,if_neg a2]
/-- Own rows of walkers: one is set. -/
theorem wks_set{l:List Wk}{k:Nat}{x y dx dy:Int}(hk:k<l.length):splice (wksV l) (k*4) [I x,I y,I dx,I dy]=wksV (l.set k (x,y,dx,dy)):=by
 induction l generalizing k with
 |nil=>simp at hk
 |cons w l ih=>
  cases k with
  |zero=>
   simp[splice,wksV]
  |succ k=>
   have:=ih (k:=k) (by simpa using hk)
   unfold splice at this ⊢
   simp only[List.length_cons,List.length_nil]at this ⊢
   rw[show(k+1)*4=k*4+4 by omega,show k*4+4+(0+1+1+1+1)=(k*4+(0+1+1+1+1))+4 by omega]
   simp only[wksV,List.map_cons,List.flatten_cons,List.cons_append,List.nil_append,List.take_succ_cons,List.drop_succ_cons,List.set_cons_succ]at this ⊢
   rw[this]
theorem wks_store{h:Heap}{b k:Nat}{l:List Wk}{x y dx dy:Int}(hb:h[b]?=some ⟨wksV l,true⟩)(hk:k<l.length):storeAt h b (k*4) [I x,I y,I dx,I dy]=some (h.set b ⟨wksV (l.set k (x,y,dx,dy)),true⟩):=by
 unfold storeAt
 rw[hb]
 simp only
 rw[if_pos ⟨trivial,by rw[wksV_len];simp only[List.length_cons,List.length_nil];omega⟩,wks_set hk]
theorem make_wks{h:Heap}{n:Nat}(hn:n<=1000):aMake 4 h (I n) (I n) (.agg #[I 0,I 0,I 0,I 0])=some (sl h.length 0 n 4,h++[⟨wksV (List.replicate n (0,0,0,0)),true⟩]):=by
 simp only[aMake,Int.toNat_natCast]
 rw[if_pos ⟨by omega,by omega,by simp[maxSize];omega,by simp⟩]
 congr 3
 unfold reps wksV
 rw[List.map_replicate]
def crossL(br:List Int)(k:Nat):List Int:=((List.range k).filter λj=>decide (at0 br j=0)).map λj=>((j:Nat):Int)
theorem crossL_succ(br:List Int)(k:Nat):crossL br (k+1)=crossL br k++(if at0 br k=0 then[(k:Int)]else[]):=by
 unfold crossL
 rw[List.range_succ,List.filter_append,List.map_append]
 by_cases e:at0 br k=0<;>simp[e]
theorem crossL_len{br:List Int}:∀{k:Nat},k<=br.length->(crossL br k).length=cntZ br k
 |0,_=>by simp[crossL,cntZ]
 |k+1,h=>by
  have ih:=crossL_len (br:=br) (k:=k) (by omega)
  have hk:k<br.length:=by omega
  rw[crossL_succ,List.length_append,ih,cntZ_succ hk,at0_of hk]
  split<;>simp
theorem c29(h:Heap)(hp:0<h.length)(W H:Int)(br:List Int)(s:Value)(ok:OkP (W,H,br))(hr:Vr h shInts s br):ACall Gam 29 [.agg #[I W,I H,s]] h λr h'=>Grows h h'∧Buf h h' r 1 (ints (crossL br br.length)):=by
 obtain⟨b2,o2,z2,rfl,hz,hm,_,hc⟩:=hr.ints
 have h128:=ok_len ok
 refine ACall_intro g29 rfl ?_
 unfold fn29
 rw[awp_seq,awp_reg]
 generalize hK:seqQ Gam _ _ 0=K
 simp(disch:=omega)
 subst hK
 simp only[seqQ_zero]
 rw[awp_seq,awp_reg]
 generalize hK:seqQ Gam _ _ 0=K
 simp(disch:=omega)
 subst hK
 simp only[seqQ_zero]
 rw[awp_seq]
 generalize hP:seqQ Gam _ _=PP
 simp(disch:=omega)
 refine awp_loop (λk σ h'=>k<=br.length∧Grows h h'∧Buf h h' (σ 3) 1 (ints (crossL br k))∧σ 8=sl b2 o2 br.length z2∧σ 9=I br.length∧σ 10=I k) (λk=>br.length-k) 0 ?_ ?_
 ·exact⟨by omega,Grows.refl _,by simpa [crossL,ints]using Buf.nil,by simp,by simp,by simp⟩
 ·rintro k σ h'⟨hk,hg,b3,q8,q9,q10⟩
  simp(disch:=omega)[q9,q10]
  refine fork_dec (λhlt=>?_) (λhge=>?_)
  ·have k1:k<br.length:=by omega
   have cx:=ints_cell (hc.imp id (grows_cellsAt hg)) k1
   have hs:=crossL_succ br k
   have hl:=crossL_len (br:=br) (k:=k) (by omega)
   have hl2:=cntZ_le br k
   rw[at0_of k1]at hs
   simp(disch:=omega)[q8,q9,q10,k1,cx]
   by_cases e:br[k]=0
   ·rw[if_pos e]at hs
    simp(disch:=omega)[e]
    refine app_int hp hg (by omega) b3 λv' h2 g2 b2'=>?_
    rw[<-hs]at b2'
    simp(disch:=omega)[q8,q9,q10,wrap64]
    refine⟨k+1,?_,by omega⟩
    and_intros<;>first|assumption|omega|rfl
   ·rw[if_neg e,List.append_nil]at hs
    simp(disch:=omega)[e,q10,wrap64]
    rw[<-hs]at b3
    refine⟨k+1,?_,by omega⟩
    and_intros<;>first|assumption|omega|rfl
  ·have:k=br.length:=by omega
   subst this
   obtain⟨bb,e3⟩:=b3.sl1
   rw[e3]at b3
   simp(disch:=omega)
   subst hP
   simp(disch:=omega)[e3]
   exact⟨hg,b3⟩
structure DirM (h:Heap) (b:Nat) (D:Dirs):Prop where
 ov:h[b]?=some ⟨wksV D.ov,true⟩
 un:h[b+1]?=some ⟨wksV D.un,true⟩
 oc:h[b+2]?=some ⟨ints D.oc,true⟩
 uc:h[b+3]?=some ⟨ints D.uc,true⟩
theorem DirM.grow{h h':Heap}{b:Nat}{D:Dirs}(d:DirM h b D)(g:Grows h h'):DirM h' b D:=⟨g.at d.ov,g.at d.un,g.at d.oc,g.at d.uc⟩
theorem CurR.cell2{h:Heap}{lo b1:Nat}{Z:List Value}{X:Pan}{B0:Heap}(cr:CurR h lo (Am.sl b1 0 (curveN X) 1) Z (curvesQ X))(bz:Buf B0 h (Am.sl b1 0 (curveN X) 1) 1 Z){c:Nat}(hc:c<curveN X):∃b,Am.cell h b1 c=some (Am.sl b 0 (curveW X c).length 4)∧h[b]?=some ⟨wksV (curveW X c),true⟩∧B0.length<=b1∧lo<=b:=by
 have hl:c<(curvesQ X).length:=by rw[curvesQ_len];exact hc
 obtain⟨b,e1,e2,e3,_⟩:=cr.2 c hl
 rw[curveQ_at hl]at e1 e3
 have hz:c<Z.length:=by rw[cr.1];exact hl
 have:=bz.at1 (i:=c) hz
 rw[List.getElem?_eq_getElem hz]at e1
 refine⟨b,?_,e3,?_,e2⟩
 ·rw[this]
  simpa using e1
 ·rcases bz with⟨q,_⟩|⟨b2,n2,q,_,q3,_⟩
  ·rw[q]at hz;simp at hz
  ·simp[Am.sl]at q
   omega
theorem dirS_get{W H:Nat}{br:List Int}{c:Int}{D:Dirs}{x y dx dy:Int}:dirS W H br c D (x,y,dx,dy)=if crossQ W H br (x+dx) (y+dy)then(if overQ (x,y,dx,dy)then⟨D.ov.set (cntZ br (numP W (x+dx).toNat (y+dy).toNat)) (x+dx,y+dy,dx,dy),D.un,D.oc.set (cntZ br (numP W (x+dx).toNat (y+dy).toNat)) c,D.uc⟩else⟨D.ov,D.un.set (cntZ br (numP W (x+dx).toNat (y+dy).toNat)) (x+dx,y+dy,dx,dy),D.oc,D.uc.set (cntZ br (numP W (x+dx).toNat (y+dy).toNat)) c⟩)else D:=rfl
theorem ints_store{h:Heap}{b k:Nat}{l:List Int}{x:Int}(hb:h[b]?=some ⟨ints l,true⟩)(hk:k<l.length):storeAt h b k [I x]=some (h.set b ⟨ints (l.set k x),true⟩):=by
 have:=store_one (v:=I x) (o:=k) hb (by simp[ints];exact hk)
 rw[this]
 simp[ints,List.map_set]
theorem make_zs{h:Heap}{n:Nat}(hn:n<=1000):aMake 1 h (I n) (I n) (.agg #[I 0])=some (sl h.length 0 n 1,h++[⟨ints (List.replicate n 0),true⟩]):=by
 simp only[aMake,Int.toNat_natCast]
 rw[if_pos ⟨by omega,by omega,by simp[maxSize];omega,by simp⟩]
 congr 3
 exact congrArg (λc=>[Blk.mk c true]) (reps_ints n)
theorem c30(h:Heap)(hp:0<h.length)(W H:Int)(br:List Int)(s:Value)(ok:OkP (W,H,br))(hr:Vr h shInts s br):ACall Gam 30 [.agg #[I W,I H,s]] h λr h'=>Grows h h'∧∃b,r=.tuple #[sl b 0 (nCross br) 4,sl (b+1) 0 (nCross br) 4,sl (b+2) 0 (nCross br) 1,sl (b+3) 0 (nCross br) 1]∧h.length<=b∧DirM h' b (dirP (W,H,br)):=by
 have h128:=ok_len ok
 obtain⟨a,bh,eW,eH,ea,eb,a1,a8,b1,b8,hrow⟩:=ok.nat
 have hnl:nCross br<=112:=by have:=cntZ_le br br.length;unfold nCross;omega
 have hN:=curveN_lim ok
 refine ACall_intro g30 rfl ?_
 unfold fn30
 rw[awp_seq,awp_reg]
 generalize hK:seqQ Gam _ _ 0=K
 simp(disch:=omega)
 subst hK
 simp only[seqQ_zero]
 rw[awp_seq,awp_reg]
 generalize hK:seqQ Gam _ _ 0=K
 simp(disch:=omega)
 refine callW_of (c29 h hp W H br s ok hr) ?_
 rintro r1 h1⟨g1,bf⟩
 try refine⟨λe=>(by first|exact g1|cases e),?_⟩
 obtain⟨lb,rfl⟩:=bf.sl1
 have hcl:(ints (crossL br br.length)).length=nCross br:=by simp[ints,crossL_len (Nat.le_refl _),nCross]
 rw[hcl]
 obtain⟨n,hn⟩:∃n,n=nCross br:=⟨_,rfl⟩
 rw[<-hn]at hnl ⊢
 simp(disch:=omega)
 subst hK
 simp only[seqQ_zero]
 rw[awp_seq,awp_reg]
 generalize hK:seqQ Gam _ _ 0=K
 simp(disch:=omega)
 rw[make_wks (by omega)]
 simp only[bindW_some]
 try simp(disch:=omega)
 rw[make_wks (by omega)]
 simp only[bindW_some]
 try simp(disch:=omega)
 subst hK
 simp only[seqQ_zero]
 rw[awp_seq,awp_reg]
 generalize hK:seqQ Gam _ _ 0=K
 try simp(disch:=omega)
 rw[make_zs (by omega)]
 simp only[bindW_some]
 rw[make_zs (by omega)]
 simp only[bindW_some]
 subst hK
 simp only[seqQ_zero]
 obtain⟨b0,hb0⟩:∃b0,b0=h1.length:=⟨_,rfl⟩
 have l1:=g1.le
 obtain⟨hm,ehm⟩:∃hm,hm=h1++[⟨wksV (List.replicate n (0,0,0,0)),true⟩,⟨wksV (List.replicate n (0,0,0,0)),true⟩,⟨ints (List.replicate n 0),true⟩,⟨ints (List.replicate n 0),true⟩]:=⟨_,rfl⟩
 obtain⟨kz,hkz⟩:∃kz:Blk,kz=⟨wksV (List.replicate n (0,0,0,0)),true⟩:=⟨_,rfl⟩
 obtain⟨kw,hkw⟩:∃kw:Blk,kw=⟨ints (List.replicate n 0),true⟩:=⟨_,rfl⟩
 rw[<-hkz,<-hkw]at ehm ⊢
 have hmz:h1++[kz,kz]++[kw]++[kw]=hm:=by rw[ehm];simp
 have hle1:(h1++[kz,kz]).length=b0+2:=by rw[hb0];simp
 have hle2:(h1++[kz,kz]++[kw]).length=b0+3:=by rw[hb0];simp
 rw[hmz,hle1,hle2,<-hb0]
 have gm:Grows h1 hm:=⟨_,ehm⟩
 have lm:hm.length=b0+4:=by rw[ehm,hb0];simp
 have dm:DirM hm b0 (dirN (W,H,br) 0):=by
  show DirM hm b0 (dirZ (nCross br))
  rw[<-hn,hb0,ehm,hkz,hkw]
  exact⟨by simp[dirZ],by simp[dirZ],by simp[dirZ],by simp[dirZ]⟩
 clear hmz hle1 hle2 ehm
 have g1m:=g1.trans gm
 rw[awp_seq,awp_reg]
 generalize hK:seqQ Gam _ _ 0=K
 simp(disch:=omega)
 refine callW_of (c55s hm (by omega) W H br s ok (hr.grow g1m)) ?_
 rintro _ h2⟨g2,b1,b2,Z,rfl,bz,cr,hb2,hO⟩
 try refine⟨λe=>(by first|exact g2|cases e),?_⟩
 simp(disch:=omega)
 subst hK
 simp only[seqQ_zero]
 have dm:=dm.grow g2
 have g12:=g1m.trans g2
 have l2:=g2.le
 obtain⟨N,eN⟩:∃N,N=curveN (W,H,br):=⟨_,rfl⟩
 have hcell:∀c,c<N->∃b,cell h2 b1 c=some (sl b 0 (curveW (W,H,br) c).length 4)∧h2[b]?=some ⟨wksV (curveW (W,H,br) c),true⟩∧hm.length<=b1∧hm.length<=b:=λc hc=>cr.cell2 bz (by omega)
 have hwl:∀c,c<N->(curveW (W,H,br) c).length<=256:=λc hc=>curveW_len ok (by omega)
 have hwo:∀c,c<N->∀w∈curveW (W,H,br) c,OkW W.toNat H.toNat w:=λc hc=>curve_ok ok (by omega)
 have hdo:∀k,k<=N->DirOk n (dirN (W,H,br) k):=λk hk=>by rw[hn];exact dirN_ok ok (by omega)
 have eD:dirP (W,H,br)=dirN (W,H,br) N:=by rw[eN];rfl
 rw[eD]
 have hN':N<=256:=by omega
 rw[<-eN]
 rw[awp_seq]
 generalize hP:seqQ Gam _ _=PP
 simp(disch:=omega)
 refine awp_loop (λk σ h'=>k<=N∧Mod b0 (b0+4) h2 h'∧DirM h' b0 (dirN (W,H,br) k)∧σ 1=.agg #[I W,I H,s]∧σ 7=sl b0 0 n 4∧σ 8=sl (b0+1) 0 n 4∧σ 9=sl (b0+2) 0 n 1∧σ 10=sl (b0+3) 0 n 1∧σ 36=sl b1 0 N 1∧σ 37=I N∧σ 38=I k) (λk=>N-k) 0 ?_ ?_
 ·exact⟨by omega,⟨Nat.le_refl _,λ_ _ _=>rfl⟩,dm,by simp,by simp,by simp,by simp,by simp,by simp,by simp,by simp⟩
 rintro k σ h'⟨hk,md,d,q1,q7,q8,q9,q10,q36,q37,q38⟩
 simp(disch:=omega)[q37,q38]
 refine fork_dec (λhlt=>?_) (λhge=>?_)
 ·have k1:k<N:=by omega
  obtain⟨bb,ecell,eblk,lb1,lbb⟩:=hcell k k1
  have ecell':cell h' b1 k=some (sl bb 0 (curveW (W,H,br) k).length 4):=by
   unfold cell at ecell ⊢
   have hlt:b1<h2.length:=by
    cases hx:h2[b1]? with
    |none=>rw[hx]at ecell;cases ecell
    |some _=>exact at_lt hx
   rw[md.2 b1 hlt (by omega)];exact ecell
  have wl:=hwl k k1
  have wo:=hwo k k1
  have dk:=hdo k (by omega)
  have efold:dirN (W,H,br) (k+1)=(curveW (W,H,br) k).foldl (dirS W.toNat H.toNat br k) (dirN (W,H,br) k):=rfl
  obtain⟨ws,hws⟩:∃ws,ws=curveW (W,H,br) k:=⟨_,rfl⟩
  rw[<-hws]at ecell' eblk wl wo efold
  simp(disch:=omega)[q36,q38,k1,ecell']
  refine awp_loop (λj τ hh=>j<=ws.length∧Mod b0 (b0+4) h2 hh∧DirM hh b0 ((ws.take j).foldl (dirS W.toNat H.toNat br k) (dirN (W,H,br) k))∧τ 1=.agg #[I W,I H,s]∧τ 7=sl b0 0 n 4∧τ 8=sl (b0+1) 0 n 4∧τ 9=sl (b0+2) 0 n 1∧τ 10=sl (b0+3) 0 n 1∧τ 13=I k∧τ 36=sl b1 0 N 1∧τ 37=I N∧τ 38=I k∧τ 43=sl bb 0 ws.length 4∧τ 44=I ws.length∧τ 45=I j) (λj=>ws.length-j) 0 ?_ ?_
  ·exact⟨by omega,md,by simpa using d,by simpa using q1,by simpa using q7,by simpa using q8,by simpa using q9,by simpa using q10,by simp,by simpa using q36,by simpa using q37,by simpa using q38,by simp,by simp,by simp⟩
  rintro j τ hh⟨hj,mj,dj,r1,r7,r8,r9,r10,r13,r36,r37,r38,r43,r44,r45⟩
  simp(disch:=omega)[r44,r45]
  refine fork_dec (λjlt=>?_) (λjge=>?_)
  ·have j1:j<ws.length:=by omega
   have eb':hh[bb]?=some ⟨wksV ws,true⟩:=by rw[mj.2 bb (at_lt eblk) (by omega)];exact eblk
   obtain⟨wb,wo',ewk,wcell⟩:=wkAt_of eb'
   simp[sl]at ewk
   obtain⟨rfl,rfl⟩:=ewk
   have wc:=wcell j j1
   have hw:=wo _ (List.getElem_mem j1)
   have hft:=foldl_take (dirS W.toNat H.toNat br k) (dirN (W,H,br) k) ws j1
   have dok:DirOk n ((ws.take j).foldl (dirS W.toNat H.toNat br k) (dirN (W,H,br) k)):=dirF_ok dk λu hu=>wo u (List.mem_of_mem_take hu)
   obtain⟨D,hD⟩:∃D,D=(ws.take j).foldl (dirS W.toNat H.toNat br k) (dirN (W,H,br) k):=⟨_,rfl⟩
   rw[<-hD]at dj hft dok
   obtain⟨w,ew⟩:∃w,w=ws[j]:=⟨_,rfl⟩
   rw[<-ew]at wc hw hft
   obtain⟨x,y,dx,dy⟩:=w
   have hn':=hw.nxp
   have hw0:=hw
   obtain⟨d1,d2,p1,p2,p3,p4,p5⟩:=hw0
   simp only at d1 d2 p1 p2 p3 p4 p5 hn' wc
   rw[dirS_get]at hft
   simp only[Nat.zero_add]at wc
   have hmm:dx*dy=1∨dx*dy=-1:=by rcases d1 with rfl|rfl<;>rcases d2 with rfl|rfl<;>omega
   have gh:Grows h hh:=mj.grows g12 (by omega)
   simp(disch:=omega)[r1,r43,r45,j1,wc]
   refine callW_of (c58 hh x y dx dy (by omega) (by omega) (by omega) (by omega)) ?_
   rintro _ hh'⟨rfl,rfl⟩
   try refine⟨λe=>(by cases e),?_⟩
   simp(disch:=omega)[r1]
   refine callW_of (c35 hh' W H _ _ br s ok (hr.grow gh) hn') ?_
   rintro _ hh'⟨rfl,rfl⟩
   try refine⟨λe=>(by cases e),?_⟩
   cases ec:crossQ W.toNat H.toNat br (x+dx) (y+dy)
   ·rw[ec]at hft
    simp only[Bool.false_eq_true,if_false]at hft
    simp(disch:=omega)[r45,wrap64]
    rw[<-hft]at dj
    refine⟨j+1,?_,by omega⟩
    and_intros<;>first|assumption|exact mj.1|exact mj.2|omega
   ·rw[ec,if_pos rfl]at hft
    obtain⟨_,_,hkn⟩:=cross_facts hn' (by rw[ea,eb];exact hrow) (by omega) (by omega) ec
    rw[<-hn]at hkn
    simp(disch:=omega)[r1]
    refine callW_of (c28 hh' W H _ _ br s ok (hr.grow gh) hn' (cross_in ec)) ?_
    rintro _ hh'⟨rfl,rfl⟩
    try refine⟨λe=>(by cases e),?_⟩
    obtain⟨K,hK⟩:∃K,K=cntZ br (numP W.toNat (x+dx).toNat (y+dy).toNat):=⟨_,rfl⟩
    rw[<-hK]at hkn hft ⊢
    simp(disch:=omega)[wrap64]
    refine callW_of (c179 hh' _ _ (by omega)) ?_
    rintro _ hh'⟨rfl,rfl⟩
    try refine⟨λe=>(by cases e),?_⟩
    have l4:∀i,i<4->b0+i<hh'.length:=λi hi=>by have:=mj.1;omega
    cases eo:overQ (x,y,dx,dy)
    ·have eo':¬dx*dy=slopeW (x+dx):=by
      unfold overQ at eo;simpa using eo
     rw[eo]at hft
     simp only[Bool.false_eq_true,if_false]at hft
     have s1:=wks_store (k:=K) (x:=x+dx) (y:=y+dy) (dx:=dx) (dy:=dy) dj.un (by rw[dok.ul];exact hkn)
     obtain⟨hA,ehA⟩:∃hA,hA=hh'.set (b0+1) ⟨wksV (D.un.set K (x+dx,y+dy,dx,dy)),true⟩:=⟨_,rfl⟩
     rw[<-ehA]at s1
     have ucA:hA[b0+3]?=some ⟨ints D.uc,true⟩:=by rw[ehA,List.getElem?_set_ne (by omega)];exact dj.uc
     have s2:=ints_store (k:=K) (x:=(k:Int)) ucA (by rw[dok.dl];exact hkn)
     simp(disch:=omega)[eo',r8,r10,r13,hkn,s1,s2,r45,wrap64]
     obtain⟨hB,ehB⟩:∃hB,hB=hA.set (b0+3) ⟨ints (D.uc.set K k),true⟩:=⟨_,rfl⟩
     rw[<-ehB]
     have dB:DirM hB b0 ⟨D.ov,D.un.set K (x+dx,y+dy,dx,dy),D.oc,D.uc.set K k⟩:=by
      have z0:=l4 0 (by omega);have z1:=l4 1 (by omega);have z2:=l4 2 (by omega);have z3:=l4 3 (by omega)
      refine⟨?_,?_,?_,?_⟩
      ·rw[ehB,List.getElem?_set_ne (by omega),ehA,List.getElem?_set_ne (by omega)];exact dj.ov
      ·rw[ehB,List.getElem?_set_ne (by omega),ehA,List.getElem?_set_self (by omega)]
      ·rw[ehB,List.getElem?_set_ne (by omega),ehA,List.getElem?_set_ne (by omega)];exact dj.oc
      ·rw[ehB,List.getElem?_set_self (by rw[ehA,List.length_set];omega)]
     have mB:Mod b0 (b0+4) h2 hB:=⟨by rw[ehB,ehA,List.length_set,List.length_set];exact mj.1,λc hc hn=>by
      rw[ehB,List.getElem?_set_ne (by omega),ehA,List.getElem?_set_ne (by omega)];exact mj.2 c hc hn⟩
     rw[<-hft]at dB
     refine⟨j+1,?_,by omega⟩
     and_intros<;>first|assumption|exact mB.1|exact mB.2|omega
    ·have eo':dx*dy=slopeW (x+dx):=by
      unfold overQ at eo;simpa using eo
     rw[eo,if_pos rfl]at hft
     have s1:=wks_store (k:=K) (x:=x+dx) (y:=y+dy) (dx:=dx) (dy:=dy) dj.ov (by rw[dok.ol];exact hkn)
     obtain⟨hA,ehA⟩:∃hA,hA=hh'.set b0 ⟨wksV (D.ov.set K (x+dx,y+dy,dx,dy)),true⟩:=⟨_,rfl⟩
     rw[<-ehA]at s1
     have ocA:hA[b0+2]?=some ⟨ints D.oc,true⟩:=by rw[ehA,List.getElem?_set_ne (by omega)];exact dj.oc
     have s2:=ints_store (k:=K) (x:=(k:Int)) ocA (by rw[dok.cl];exact hkn)
     simp(disch:=omega)[eo',r7,r9,r13,hkn,s1,s2,r45,wrap64]
     obtain⟨hB,ehB⟩:∃hB,hB=hA.set (b0+2) ⟨ints (D.oc.set K k),true⟩:=⟨_,rfl⟩
     rw[<-ehB]
     have dB:DirM hB b0 ⟨D.ov.set K (x+dx,y+dy,dx,dy),D.un,D.oc.set K k,D.uc⟩:=by
      have z0:=l4 0 (by omega);have z1:=l4 1 (by omega);have z2:=l4 2 (by omega);have z3:=l4 3 (by omega)
      refine⟨?_,?_,?_,?_⟩
      ·rw[ehB,List.getElem?_set_ne (by omega),ehA,List.getElem?_set_self (by omega)]
      ·rw[ehB,List.getElem?_set_ne (by omega),ehA,List.getElem?_set_ne (by omega)];exact dj.un
      ·rw[ehB,List.getElem?_set_self (by rw[ehA,List.length_set];omega)]
      ·rw[ehB,List.getElem?_set_ne (by omega),ehA,List.getElem?_set_ne (by omega)];exact dj.uc
     have mB:Mod b0 (b0+4) h2 hB:=⟨by rw[ehB,ehA,List.length_set,List.length_set];exact mj.1,λc hc hn=>by
      rw[ehB,List.getElem?_set_ne (by omega),ehA,List.getElem?_set_ne (by omega)];exact mj.2 c hc hn⟩
     rw[<-hft]at dB
     refine⟨j+1,?_,by omega⟩
     and_intros<;>first|assumption|exact mB.1|exact mB.2|omega
  ·have:j=ws.length:=by omega
   subst this
   rw[List.take_length,<-efold]at dj
   simp(disch:=omega)[r38,wrap64]
   refine⟨k+1,?_,by omega⟩
   and_intros<;>first|assumption|exact mj.1|exact mj.2|omega
 ·have:k=N:=by omega
  subst this
  simp(disch:=omega)
  subst hP
  simp(disch:=omega)[q7,q8,q9,q10]
  exact⟨md.grows g12 (by omega),b0,by rw[hn];simp,by omega,d⟩
end Am

/- Contracts: AmY34, AmY36, AmY37, AmY38, AmY39, AmG4, AmG1, AmG2, AmG5, AmG6, AmS7, AmS8, AmG7, AmS10, AmS11, AmS13, AmR1, AmR2, AmR3, AmR4, AmR5, AmR6, AmR7, AmR8, AmR9, AmR10, AmR11, AmR12, AmR13, AmM1, AmM2, AmV1, AmV2, AmV3, AmH1, AmH2, AmH3. -/
import Derived.Test.YtpgioncclmancaaGreatAmK6
import Derived.Test.YtpgioncclmancaaGreatAmK1
import Derived.Test.YtpgioncclmancaaGreatAmK3
import Derived.Test.YtpgioncclmancaaGreatAmK5
import Derived.Test.YtpgioncclmancaaGreatAmK2
import Derived.Test.YtpgioncclmancaaGreatAmK4
import Derived.Test.YtpgioncclmancaaGreatAmTab
set_option linter.unusedVariables false
set_option linter.unusedSimpArgs false
set_option maxHeartbeats 4000000
set_option maxRecDepth 40000
namespace Am
open Go
theorem flat_texts:∀(X:List (List UInt8)),(X.map λx=>[S x]).flatten=texts X
 |[]=>rfl
 |x::X=>by simp[texts,List.flatten_cons];have:=flat_texts X;simp[texts]at this;exact this
theorem all3_texts(h:Heap):∀(X:List (List UInt8)),(∀x∈X,x.length<=maxLen)->All3 (λc y s=>Ow h .str c y s) (X.map λx=>[S x]) X (X.map λ_=>[])
 |[],_=>trivial
 |x::X,hx=>⟨⟨rfl,hx x (by simp),rfl⟩,all3_texts h X λy hy=>hx y (by simp[hy])⟩
theorem Vo.of_texts{h:Heap}{b lo hi z:Nat}{X:List (List UInt8)}(hz:z=1∨b=0∧X=[])(hm:X.length<=maxLen)(hx:∀x∈X,x.length<=maxLen)(hc:X=[]∨h[b]?=some ⟨Am.texts X,true⟩∧lo<=b∧b<hi):Vo h lo hi shTexts (sl b 0 X.length z) X:=by
 refine⟨[sl b 0 X.length z],if X=[]then[]else[b],⟨b,z,X.map λx=>[S x],X.map λ_=>[],rfl,hz,hm,all3_texts h X hx,?_⟩,rfl,?_,?_⟩
 ·by_cases h0:X=[]
  ·exact .inl ⟨h0,by simp[h0]⟩
  ·exact .inr ⟨h0,by rw[if_neg h0,nils_flat],by rw[flat_texts];exact(hc.resolve_left h0).1⟩
 ·split<;>simp
 ·intro b' hb'
  by_cases h0:X=[]
  ·simp[h0]at hb'
  ·simp[h0]at hb';subst hb';exact(hc.resolve_left h0).2
theorem All3.texts{h:Heap}:∀{css:List (List Value)} {X:List (List UInt8)} {bss:List (List Nat)},All3 (λc y s=>Ow h .str c y s) css X bss->css.flatten=Am.texts X∧(∀x∈X,x.length<=maxLen)∧bss.flatten=[]
 |[],[],[],_=>by simp[Am.texts]
 |c::css,x::X,s::bss,r=>by
  obtain⟨e,w,es⟩:=r.1
  obtain⟨h1,h2,h3⟩:=All3.texts r.2
  refine⟨by simp[e,h1,Am.texts],λy hy=>?_,by simp[es,h3]⟩
  rcases List.mem_cons.1 hy with rfl|hy
  ·exact w
  ·exact h2 y hy
 |[],_::_,_,r=>r.elim
 |[],[],_::_,r=>r.elim
 |_::_,[],_,r=>r.elim
 |_::_,_::_,[],r=>r.elim
theorem Vo.texts{h:Heap}{lo hi:Nat}{v:Value}{X:List (List UInt8)}(x:Vo h lo hi shTexts v X):∃b z,v=sl b 0 X.length z∧(z=1∨b=0∧X=[])∧X.length<=maxLen∧(∀x∈X,x.length<=maxLen)∧(X=[]∨h[b]?=some ⟨Am.texts X,true⟩∧lo<=b∧b<hi):=by
 obtain⟨cs,bs,⟨b,z,css,bss,rfl,hz,hm,h1,h2⟩,rfl,_,hb⟩:=x
 obtain⟨e1,e2,e3⟩:=All3.texts h1
 refine⟨b,z,rfl,hz,hm,e2,?_⟩
 rcases h2 with⟨h2,_⟩|⟨_,h3,h4⟩
 ·exact .inl h2
 ·rw[e3]at h3;rw[e1]at h4
  exact .inr ⟨h4,hb b (by simp[h3])⟩
/-- An own slice of texts. -/
theorem Buf.vo_texts{h0 h:Heap}{v:Value}{X:List (List UInt8)}(x:Buf h0 h v 1 (Am.texts X))(hm:X.length<=maxLen)(hx:∀x∈X,x.length<=maxLen):Vo h h0.length h.length shTexts v X:=by
 have hl:(Am.texts X).length=X.length:=by simp[Am.texts]
 rcases x with⟨e1,rfl⟩|⟨b,n,rfl,e2,e3,e4⟩
 ·rw[e1]at hl
  have:X=[]:=List.length_eq_zero_iff.1 (by simpa using hl.symm)
  subst this
  exact Vo.of_texts (.inr ⟨rfl,rfl⟩) (by simp[maxLen_eq]) (by simp) (.inl rfl)
 ·have:n=X.length:=by omega
  subst this
  exact Vo.of_texts (.inl rfl) hm hx (.inr ⟨e4,e3,at_lt e4⟩)
theorem Vo.no_texts{h:Heap}{lo hi:Nat}:Vo h lo hi shTexts (sl 0 0 0 0) ([]:List (List UInt8)):=Vo.of_texts (b:=0) (z:=0) (X:=[]) (.inr ⟨rfl,rfl⟩) (by simp[maxLen_eq]) (by simp) (.inl rfl)
/-- The breaks after the first steps from the start. -/
def fwdB(p:List Trip)(c:List Int)(k:Nat):List Int:=(p.take k).foldl (λb s=>b.set s.1.toNat s.2.2) c
theorem fwdB_succ{p:List Trip}{c:List Int}{k:Nat}(h:k<p.length):fwdB p c (k+1)=(fwdB p c k).set p[k].1.toNat p[k].2.2:=by
 unfold fwdB
 rw[List.take_succ_eq_append_getElem h,List.foldl_append]
 rfl
theorem runB_all:∀{l:List Trip} {br c:List Int},runB l br=some c->∀s∈l,okStep br.length s=true
 |[],_,_,_=>by simp
 |s::l,br,c,h=>by
  simp only[runB]at h
  split at h
  ·rename_i q
   simp only[Bool.and_eq_true]at q
   intro t ht
   rcases List.mem_cons.1 ht with rfl|ht
   ·exact q.1
   ·have:=runB_all h t ht
    simpa using this
  ·cases h
theorem fwdB_ok{p:List Trip}{c:List Int}{n:Nat}(hc:c.length=n)(hc2:∀x∈c,0<=x∧x<=2)(hp:∀s∈p,okStep n s=true):∀k,k<=p.length->(fwdB p c k).length=n∧∀x∈fwdB p c k,0<=x∧x<=2
 |0,_=>by simpa [fwdB]using ⟨hc,hc2⟩
 |k+1,hk=>by
  obtain⟨h1,h2⟩:=fwdB_ok hc hc2 hp k (by omega)
  rw[fwdB_succ (by omega)]
  refine⟨by simpa using h1,λx hx=>?_⟩
  rcases List.mem_or_eq_of_mem_set hx with hx|rfl
  ·exact h2 x hx
  ·exact(okStep_iff.1 (hp _ (List.getElem_mem _))).2.2.1
noncomputable def alongL(X:Jrn)(k:Nat):List Int:=(List.range k).map λj=>(curveN (X.1.1,X.1.2.1,fwdB X.2.1 (startB X) j):Int)
theorem alongL_succ(X:Jrn)(k:Nat):alongL X (k+1)=alongL X k++[(curveN (X.1.1,X.1.2.1,fwdB X.2.1 (startB X) k):Int)]:=by simp[alongL,List.range_succ]
theorem alongL_len(X:Jrn)(k:Nat):(alongL X k).length=k:=by simp[alongL]
noncomputable def alongA(X:Jrn):List Int×Int:=if okJ X then(alongL X (X.2.1.length+1),0)else([],1)
theorem curvesSt_le{f:Wk->Wk}{seg:Wk->Nat}{wk:Nat->Wk}{N:Nat}:∀k,(curvesSt f seg wk N k).2<=k
 |0=>by simp[curvesSt]
 |k+1=>by
  have:=curvesSt_le (f:=f) (seg:=seg) (wk:=wk) (N:=N) k
  simp only[curvesSt];split
  ·omega
  ·simp only;omega
theorem curveN_le{X:Pan}(ok:OkP X):curveN X<=256:=by
 have h1:curveN X<=4*X.1.toNat*X.2.1.toNat:=curvesSt_le _
 have h2:4*X.1.toNat*X.2.1.toNat<=4*8*8:=Nat.mul_le_mul (by have:=ok.w;omega) (by have:=ok.h;omega)
 omega
structure AlongOk (W H:Int) (br:List Int) (p f:List Trip):Prop where
 ok:∀k,k<=p.length->OkP (W,H,fwdB p (startB ((W,H,br),p,f)) k)
 st:∀k,(h:k<p.length)->(0<=p[k].1∧p[k].1<(fwdB p (startB ((W,H,br),p,f)) k).length)
 len:∀k,k<=p.length->(fwdB p (startB ((W,H,br),p,f)) k).length=br.length
 le:p.length<=50
theorem along_ok{W H:Int}{br:List Int}{p f:List Trip}(h:okJ ((W,H,br),p,f)=true):AlongOk W H br p f:=by
 obtain⟨ok,hle,⟨fin,hfin⟩,_⟩:=okJ_parts h
 obtain⟨s1,s2⟩:=startB_ok h
 have hall:∀s∈p,okStep br.length s=true:=λs hs=>runB_all hfin s (by simpa using hs)
 have key:=fwdB_ok s1 s2 hall
 refine⟨λk hk=>⟨ok.w,ok.h,?_,(key k hk).2⟩,λk hk=>?_,λk hk=>(key k hk).1,by omega⟩
 ·have:=ok.n
  simp only at this ⊢
  rw[(key k hk).1];exact this
 ·rw[(key k (by omega)).1]
  exact(okStep_iff.1 (hall _ (List.getElem_mem hk))).1
theorem along_siz(X:Jrn):siz shInts (alongA X).1<=16777216∧∀x∈(alongA X).1,I64 x:=by
 unfold alongA
 split
 ·rename_i q
  obtain⟨⟨W,H,br⟩,p,f⟩:=X
  have A:=along_ok q
  constructor
  ·rw[siz_ints,alongL_len];have:=A.le;simp only;omega
  ·intro x hx
   simp only[alongL,List.mem_map,List.mem_range]at hx
   obtain⟨j,hj,rfl⟩:=hx
   have:=curveN_le (A.ok j (by omega))
   unfold I64;omega
 ·constructor
  ·rw[siz_ints];simp
  ·simp
theorem Buf.vo_ints{h0 h:Heap}{v:Value}{X:List Int}(x:Buf h0 h v 1 (Am.ints X))(hm:X.length<=maxLen)(hx:∀x∈X,I64 x):Vo h h0.length h.length shInts v X:=by
 have hl:(Am.ints X).length=X.length:=by simp[Am.ints]
 rcases x with⟨e1,rfl⟩|⟨b,n,rfl,e2,e3,e4⟩
 ·rw[e1]at hl
  have:X=[]:=List.length_eq_zero_iff.1 (by simpa using hl.symm)
  subst this
  exact Vo.of_ints (.inr ⟨rfl,rfl⟩) (by simp[maxLen_eq]) (by simp) (.inl rfl)
 ·have:n=X.length:=by omega
  subst this
  exact Vo.of_ints (.inl rfl) hm hx (.inr ⟨e4,e3,at_lt e4⟩)
theorem trips_cells{h:Heap}{b o k:Nat}{X:List Trip}(hr:X=[]∨cellsAt h b o (X.length*3)=some (trips X))(hk:k<X.length):cellsAt h b (o+k*3) 3=some [I X[k].1,I X[k].2.1,I X[k].2.2]:=by
 rcases hr with h0|hr
 ·subst h0;simp at hk
 ·rw[cellsAt_in hr (by omega)]
  congr 1
  have e:trips X=(X.map trip).flatten:=rfl
  rw[e]
  exact flat_part (z:=3) (by intro c hc;obtain⟨y,_,rfl⟩:=List.mem_map.1 hc;rfl) (by simp[hk];rfl)
theorem c74(h:Heap)(hp:0<h.length)(v0:Value)(X0:Jrn)(hv0:Vr h shJournal v0 X0)(hs0:siz shJournal X0<=1048576):
  ACall Gam 74 [v0] h λr h'=>Grows h h'∧∃r0,r=.tuple #[r0,I (alongA X0).2]∧Vo h' h.length h'.length shInts r0 (alongA X0).1∧siz shInts (alongA X0).1<=16777216:=by
 obtain⟨hsz,h64⟩:=along_siz X0
 obtain⟨⟨W,H,br⟩,p,f⟩:=X0
 have hv0':=hv0
 obtain⟨s,sp,sf,rfl,w1,w2,r1,r2,r3⟩:=hv0.journal
 have hcp:=r2.trips
 obtain⟨pb,po,pz,rfl,_,hpm,hpx,hpc⟩:=hcp
 refine ACall_intro g74 rfl ?_
 unfold fn74
 simp(disch:=omega)
 refine callW_of (c138 h hp _ _ hv0' hs0) ?_
 rintro _ h1⟨g1,rfl⟩
 try refine⟨λe=>(by first|exact g1|cases e),?_⟩
 cases q:okJ ((W,H,br),p,f)
 ·have e:alongA ((W,H,br),p,f)=([],1):=by simp[alongA,q]
  rw[e]at hsz ⊢
  simp(disch:=omega)
  exact⟨g1,Vo.no_ints,hsz⟩
 have e:alongA ((W,H,br),p,f)=(alongL ((W,H,br),p,f) (p.length+1),0):=by simp[alongA,q]
 rw[e]at hsz h64 ⊢
 have A:=along_ok q
 have hle:=A.le
 simp(disch:=omega)
 refine callW_of (c22 h1 (pos_of hp g1) _ W H br p f (hv0'.grow g1) q) ?_
 rintro _ h3⟨g3,o2⟩
 obtain⟨so,rfl,_,_,o2⟩:=o2.panel
 obtain⟨bb,zz,rfl,hz,_,_,hb⟩:=o2.ints
 have l1:=g1.le
 have l3:=g3.le
 obtain⟨c,ec⟩:∃c,c=startB ((W,H,br),p,f):=⟨_,rfl⟩
 rw[<-ec]at hz hb ⊢
 try refine⟨λe=>(by cases e),?_⟩
 obtain⟨n,en⟩:∃n,n=c.length:=⟨_,rfl⟩
 have en':n=br.length:=by rw[en,ec];exact(startB_ok q).1
 rw[<-en]
 have Aok:=A.ok
 have Ast:=A.st
 have Aln:=A.len
 rw[<-ec]at Aok Ast Aln
 rw[<-en']at Aln
 have hz':∀Y:List Int,Y.length=n->(zz=1∨bb=0∧Y=[]):=λY hY=>hz.imp id λe=>⟨e.1,List.length_eq_zero_iff.1 (by rw[hY,en,e.2];rfl)⟩
 have pp:∀{h':Heap} {k:Nat},k<=p.length->(n=0∨h'[bb]?=some ⟨ints (fwdB p c k),true⟩)->Vr h' shPanel (.agg #[I W,I H,sl bb 0 n zz]) (W,H,fwdB p c k):=by
  intro h' k hk hB
  have o:=Aok k hk
  have hl:=Aln k hk
  have vr:=Vr.of_ints (h:=h') (b:=bb) (o:=0) (z:=zz) (X:=fwdB p c k) (hz' _ hl) (by rw[maxLen_eq,hl];have:=ok_len o;omega) (cur_64 o.b) (hB.imp (λe=>List.length_eq_zero_iff.1 (by omega)) λe=>cellsAt_all e (by simp[ints]))
  rw[hl]at vr
  exact Vr.of_panel w1 w2 vr
 have hb3:n=0∨h3[bb]?=some ⟨ints (fwdB p c 0),true⟩:=hb.imp (λe=>by rw[en,e];rfl) λe=>e.1
 have hbl:n=0∨h1.length<=bb∧bb<h3.length:=hb.imp (λe=>by rw[en,e];rfl) λe=>e.2
 simp(disch:=omega)
 refine callW_of (c154 h3 (by omega) _ _ (pp (Nat.zero_le _) hb3) (Aok 0 (by omega))) ?_
 rintro _ h4⟨g4,rfl⟩
 try refine⟨λe=>(by first|exact g4|cases e),?_⟩
 have l4:=g4.le
 have eb:aBuildSlice 1 1 h4 [(0,.agg #[I 0]),(1,I (curveN (W,H,fwdB p c 0)))]=some (sl h4.length 0 1 1,h4++[⟨[I (curveN (W,H,fwdB p c 0))],true⟩]):=by simp[aBuildSlice]
 rw[eb]
 simp only[bindW_some]
 have g5:Grows h4 (h4++[⟨[I (curveN (W,H,fwdB p c 0))],true⟩]):=⟨_,rfl⟩
 have l5:=g5.le
 refine awp_loop (λ(k:Nat) σ h'=>k<=p.length∧Grows h1 h'∧h3.length<=h'.length∧(n=0∨h'[bb]?=some ⟨ints (fwdB p c k),true⟩)∧σ 4=.agg #[I W,I H,sl bb 0 n zz]∧σ 17=sl pb po p.length pz∧σ 18=I p.length∧σ 19=I k∧Buf h3 h' (σ 5) 1 (ints (alongL ((W,H,br),p,f) (k+1)))) (λk=>p.length-k) 0 ?_ ?_
 ·refine⟨by omega,g3.trans (g4.trans g5),by omega,hb3.imp id (g4.trans g5).at,by simp,by simp,by simp,by simp,.inr ⟨h4.length,1,by simp,by simp[alongL,ints],l4,by simp[alongL,ints,ec]⟩⟩
 rintro k σ h'⟨hk,g,hl,hB,q4,q17,q18,q19,bf⟩
 simp(disch:=omega)[q18,q19]
 refine fork_dec (λhlt=>?_) (λhge=>?_)
 ·have k1:k<p.length:=by omega
  obtain⟨t1,t2⟩:=Ast k k1
  have hlk:=Aln k hk
  obtain⟨t,ht⟩:=Int.eq_ofNat_of_zero_le t1
  obtain⟨ca,cm,cb⟩:=trips_cell (hpc.imp id (grows_cellsAt (g1.trans g))) k1
  have c3:=trips_cells (hpc.imp id (grows_cellsAt (g1.trans g))) k1
  rw[ht]at t2 ca c3
  have htn:t<(fwdB p c k).length:=by omega
  have htn':t<n:=by omega
  have hB1:=hB.resolve_left (by omega)
  obtain⟨b1,b2⟩:=hbl.resolve_left (by omega)
  have hst:=store_int (v:=p[k].2.2) hB1 htn
  simp(disch:=omega)[q4,q17,q18,q19,k1,c3,hst,htn',wrap64]
  obtain⟨h6,e6⟩:∃h6,h6=h'.set bb ⟨ints ((fwdB p c k).set t p[k].2.2),true⟩:=⟨_,rfl⟩
  rw[<-e6]
  have g6:Grows h1 h6:=by rw[e6];exact g.put b1 _
  have l6:h6.length=h'.length:=by rw[e6];simp
  have eset:fwdB p c (k+1)=(fwdB p c k).set t p[k].2.2:=by rw[fwdB_succ k1,ht];rfl
  have hB6:h6[bb]?=some ⟨ints (fwdB p c (k+1)),true⟩:=by rw[e6,eset];simp[at_lt hB1]
  have bf6:Buf h3 h6 (σ 5) 1 (ints (alongL ((W,H,br),p,f) (k+1))):=by rw[e6];exact bf.put (by omega)
  refine callW_of (c154 h6 (by omega) _ _ (pp (k:=k+1) (by omega) (.inr hB6)) (Aok (k+1) (by omega))) ?_
  rintro _ h7⟨g7,rfl⟩
  try refine⟨λe=>(by first|exact g7|cases e),?_⟩
  have l7:=g7.le
  have eb:aBuildSlice 1 1 h7 [(0,.agg #[I 0]),(1,I (curveN (W,H,fwdB p c (k+1))))]=some (sl h7.length 0 1 1,h7++[⟨[I (curveN (W,H,fwdB p c (k+1)))],true⟩]):=by simp[aBuildSlice]
  rw[eb]
  simp only[bindW_some]
  have bf7:=bf6.grow g7
  have hln:(ints (alongL ((W,H,br),p,f) (k+1))).length=k+1:=by simp[ints,alongL_len]
  refine app1 (by omega) (g6.trans g7) (by omega) (by omega) bf7 (by simp) (by omega) (by rw[hln];simp[maxSize];omega) λv6 h8 g8 l8 b8 n8 fr8=>?_
  have hB8:=fr8 bb _ (g7.at hB6) (bf7.ne (by omega) (by omega))
  simp(disch:=omega)[q4,q17,q18,q19,wrap64]
  have hB8':=(List.getElem?_eq_some_iff.1 hB8).2
  refine⟨k+1,⟨by omega,g8,by omega,.inr (by first|exact hB8|exact hB8'|simpa using hB8'),by omega,?_⟩,by omega⟩
  rw[alongL_succ]
  simpa [ints,ec]using b8
 ·have ek:k=p.length:=by omega
  subst ek
  have vo:=bf.vo_ints (by rw[maxLen_eq,alongL_len];omega) h64
  obtain⟨b9,e9⟩:=bf.sl1
  rw[e9]at vo
  simp(disch:=omega)[q18,q19,e9]
  exact⟨g1.trans g,vo.wide (by omega) (Nat.le_refl _),hsz⟩
theorem splitG_end(b:UInt8):∀(s cur:List UInt8),splitG b cur (s++[b])=splitG b cur s++[[]]
 |[],cur=>by simp[splitG]
 |c::r,cur=>by
  simp only[List.cons_append,splitG]
  split
  ·rw[splitG_end b r []];rfl
  ·exact splitG_end b r _
theorem Buf.texts1{h0 h:Heap}{v:Value}{L:List (List UInt8)}(x:Buf h0 h v 1 (texts L)):∃b,v=sl b 0 L.length 1∧(L=[]∨cellsAt h b 0 L.length=some (texts L)):=by
 have hl:(Am.texts L).length=L.length:=by simp[Am.texts]
 rcases x with⟨e1,rfl⟩|⟨b,n,rfl,e2,e3,e4⟩
 ·rw[e1]at hl
  have:L=[]:=List.length_eq_zero_iff.1 (by simpa using hl.symm)
  subst this
  exact⟨0,rfl,.inl rfl⟩
 ·have:n=L.length:=by omega
  subst this
  exact⟨b,rfl,.inr (cellsAt_all e4 hl.symm)⟩
section
variable {α : Type} {f g : α -> α} {V : α -> Prop} {ix : Nat -> α} {n : Nat}
end
section
variable {α : Type} {f g R : α -> α} {seg : α -> Nat} {V : α -> Prop} {N : Nat} {wk : Nat -> α}
end
theorem ham_set{a b:List Int}{i:Nat}{v:Int}:∀n,(dpre a b n).length<=(dpre a (b.set i v) n).length+if i<n then 1 else 0
 |0=>by simp[dpre]
 |n+1=>by
  have ih:=ham_set (a:=a) (b:=b) (i:=i) (v:=v) n
  rw[dpre_succ,dpre_succ,List.length_append,List.length_append]
  by_cases e:i=n
  ·subst e
   rw[if_neg (by omega)]at ih
   rw[if_pos (show i<i+1 by omega)]
   have:(if at0 a i=at0 b i then[]else[((i:Int),at0 a i,at0 b i)]).length<=1:=by split<;>simp
   omega
  ·have e':at0 (b.set i v) n=at0 b n:=by
    unfold at0;rw[List.getD_eq_getElem?_getD,List.getElem?_set_ne e,<-List.getD_eq_getElem?_getD]
   rw[e']
   generalize (if at0 a n=at0 b n then[]else[((n:Int),at0 a n,at0 b n)]).length=q
   by_cases hi:i<n
   ·rw[if_pos hi]at ih
    rw[if_pos (by omega)];omega
   ·rw[if_neg hi]at ih
    rw[if_neg (by omega)];omega
theorem dpre_same(a:List Int):∀n,dpre a a n=[]
 |0=>rfl
 |n+1=>by rw[dpre_succ,dpre_same a n];simp
theorem ham_run{c:List Int}{n:Nat}:∀{l:List Trip} {b:List Int},runB l b=some c->(dpre c b n).length<=l.length
 |[],b,h=>by
  simp only[runB,Option.some.injEq]at h
  subst h;rw[dpre_same];simp
 |s::l,b,h=>by
  obtain⟨g1,g2,g3⟩:=runB_cons h
  have ih:=ham_run (n:=n) g3
  have:=ham_set (a:=c) (b:=b) (i:=s.1.toNat) (v:=s.2.1) n
  simp only[List.length_cons]
  split at this<;>omega
/-- Differences undone from the last one on. -/
theorem runB_dpre{st br:List Int}(hl:st.length=br.length)(hs:∀x∈st,0<=x∧x<=2)(hb:∀x∈br,0<=x∧x<=2):
  ∀k,k<=br.length->∀x:List Int,x.length=br.length->(∀i,i<k->at0 x i=at0 br i)->(∀i,k<=i->i<br.length->at0 x i=at0 st i)->runB (dpre st br k).reverse x=some st
 |0,_,x,h1,_,h3=>by
  simp only[dpre,List.range_zero,List.flatMap_nil,List.reverse_nil,runB,Option.some.injEq]
  apply List.ext_getElem (by omega)
  intro i hi hi'
  have:=h3 i (by omega) (by omega)
  rw[at0_of hi,at0_of hi']at this
  exact this
 |k+1,hk,x,h1,h2,h3=>by
  rw[dpre_succ]
  by_cases e:at0 st k=at0 br k
  ·rw[if_pos e,List.append_nil]
   refine runB_dpre hl hs hb k (by omega) x h1 (λi hi=>h2 i (by omega)) λi hi hi'=>?_
   by_cases q:i=k
   ·subst q;rw[h2 i (by omega),e]
   ·exact h3 i (by omega) hi'
  ·rw[if_neg e,List.reverse_append]
   simp only[List.reverse_cons,List.reverse_nil,List.nil_append,List.singleton_append]
   have a1:=at0_rng hs k
   have a2:=at0_rng hb k
   refine runB_mk ?_ ?_ ?_
   ·rw[okStep_iff]
    refine⟨?_,a1,a2,e⟩
    simp only
    omega
   ·simp only[Int.toNat_natCast];exact h2 k (by omega)
   ·simp only[Int.toNat_natCast]
    refine runB_dpre hl hs hb k (by omega) _ (by simpa using h1) (λi hi=>?_) λi hi hi'=>?_
    ·unfold at0
     rw[List.getD_eq_getElem?_getD,List.getElem?_set_ne (by omega),<-List.getD_eq_getElem?_getD]
     exact h2 i (by omega)
    ·by_cases q:i=k
     ·subst q;exact at0_set (by omega)
     ·unfold at0
      rw[List.getD_eq_getElem?_getD,List.getElem?_set_ne (by omega),<-List.getD_eq_getElem?_getD]
      exact h3 i (by omega) hi'
theorem runB_fwd:∀{l:List Trip} {b c:List Int},runB l b=some c->l.reverse.foldl (λb s=>b.set s.1.toNat s.2.2) c=b
 |[],b,c,h=>by
  simp only[runB,Option.some.injEq]at h
  subst h;rfl
 |s::l,b,c,h=>by
  obtain⟨g1,g2,g3⟩:=runB_cons h
  have ih:=runB_fwd g3
  rw[List.reverse_cons,List.foldl_append,ih]
  simp only[List.foldl_cons,List.foldl_nil]
  have:=step_bd g1
  rw[List.set_set,<-g2,set_at0 this.1]
structure SqOk (W H:Int) (br:List Int) (p f:List Trip):Prop where
 ok:okJ ((W,H,br),dpre (startB ((W,H,br),p,f)) br br.length,[])=true
 len:(dpre (startB ((W,H,br),p,f)) br br.length).length<=p.length
 st:startB ((W,H,br),dpre (startB ((W,H,br),p,f)) br br.length,[])=startB ((W,H,br),p,f)
 fin:fwdB p (startB ((W,H,br),p,f)) p.length=br
theorem sq_ok{W H:Int}{br:List Int}{p f:List Trip}(h:okJ ((W,H,br),p,f)=true):SqOk W H br p f:=by
 obtain⟨ok,hle,⟨c,hc⟩,_⟩:=okJ_parts h
 obtain⟨s1,s2⟩:=startB_ok h
 have es:startB ((W,H,br),p,f)=c:=by
  show(runB p.reverse br).getD []=c
  rw[hc];rfl
 rw[es]at s1 s2
 have hr:=runB_dpre s1 s2 ok.b br.length (Nat.le_refl _) br rfl (λi _=>rfl) (λi h1 h2=>by omega)
 have hl:(dpre c br br.length).length<=p.length:=by
  have:=ham_run (n:=br.length) hc
  simpa using this
 refine⟨?_,by rw[es];exact hl,?_,?_⟩
 ·rw[es,okJ_iff]
  refine⟨okP_iff.2 ok,?_,⟨c,hr⟩,br,rfl⟩
  simp only[List.length_nil]
  omega
 ·rw[es]
  show(runB (dpre c br br.length).reverse br).getD []=c
  rw[hr];rfl
 ·rw[es]
  unfold fwdB
  rw[List.take_length]
  have:=runB_fwd hc
  simpa using this
theorem okJ_siz{X:Jrn}(h:okJ X=true):siz shJournal X<=1048576:=by
 obtain⟨⟨W,H,br⟩,p,f⟩:=X
 obtain⟨ok,hle,_⟩:=okJ_parts h
 have:=ok_len ok
 rw[siz_journal];omega
theorem nil_bytes{h:Heap}:Vr h shBytes (sl 0 0 0 0) ([]:List Int):=⟨[sl 0 0 0 0],⟨0,0,0,[],rfl,.inr ⟨rfl,rfl⟩,by simp,trivial,.inl rfl⟩,rfl⟩
theorem blk_set{h:Heap}{b:Nat}{c d:Blk}(hb:h[b]?=some c):(h.set b d)[b]?=some d:=by
 rw[List.getElem?_set_self (at_lt hb)]
def bools(l:List Bool):List Value:=l.map B
theorem bools_len(l:List Bool):(bools l).length=l.length:=by simp[bools]
theorem make_bools(h:Heap)(n:Nat)(hn:n<=1000):aMake 1 h (I n) (I n) (.agg #[B false])=some (sl h.length 0 n 1,h++[⟨bools (List.replicate n false),true⟩]):=by
 simp(disch:=omega)[aMake,maxSize]
 constructor
 ·omega
 ·simp[reps,bools]
theorem bool_cell{h:Heap}{b k:Nat}{l:List Bool}(hb:h[b]?=some ⟨bools l,true⟩)(hk:k<l.length):cell h b k=some (B (l.getD k false)):=cell_of hb (by simp[bools,hk,List.getD_eq_getElem?_getD])
theorem store_bool{h:Heap}{b k:Nat}{l:List Bool}{v:Bool}(hb:h[b]?=some ⟨bools l,true⟩)(hk:k<l.length):storeAt h b k [B v]=some (h.set b ⟨bools (l.set k v),true⟩):=by
 rw[store_one hb (by rw[bools_len];exact hk)]
 simp[bools,List.map_set]
theorem join_len:∀(X:List Int),(∀x∈X,I64 x)->∀k,k<=X.length->(joinS [32] ((X.take k).map decS)).length<=21*k
 |X,hx,0,_=>by simp[joinS]
 |X,hx,k+1,h=>by
  have ih:=join_len X hx k (by omega)
  rw[List.take_succ_eq_append_getElem (by omega),List.map_append,List.map_cons,List.map_nil,joinS_snoc]
  have:=(decS_len (hx _ (List.getElem_mem (show k<X.length by omega)))).2
  split
  ·omega
  ·simp only[List.length_append,List.length_singleton];omega
theorem c156(h:Heap)(hp:0<h.length)(v:Value)(X:List Int)(hv:Vr h shInts v X)(hs:X.length<=1000):ACall Gam 156 [v,S [32]] h λr h'=>Grows h h'∧r=S (joinS [32] (X.map decS)):=by
 obtain⟨bb,o,zz,rfl,hzz,hm,hx,hc⟩:=hv.ints
 refine ACall_intro g156 rfl ?_
 unfold fn156
 rw[awp_seq,awp_reg]
 generalize hK:seqQ Gam _ _ 0=K
 simp(disch:=omega)
 subst hK
 simp only[seqQ_zero]
 rw[awp_seq,awp_reg]
 generalize hK:seqQ Gam _ _ 0=K
 simp(disch:=omega)
 subst hK
 simp only[seqQ_zero]
 simp(disch:=omega)
 refine awp_loop (λk σ h'=>k<=X.length∧Grows h h'∧Buf h h' (σ 5) 1 (texts ((X.take k).map decS))∧σ 1=S [32]∧σ 9=sl bb o X.length zz∧σ 10=I X.length∧σ 11=I k) (λk=>X.length-k) 0 ?_ ?_
 ·exact⟨by omega,Grows.refl _,by simpa [texts]using Buf.nil,by simp,by simp,by simp,by simp⟩
 ·rintro k σ h'⟨hk,hg,p5,p1,p9,p10,p11⟩
  simp(disch:=omega)[p10,p11]
  refine fork_dec (λhlt=>?_) (λhge=>?_)
  ·have k1:k<X.length:=by omega
   have hx1:=hx _ (List.getElem_mem k1)
   have q1:=ints_cell (hc.imp id (grows_cellsAt hg)) k1
   simp(disch:=omega)[p9,p11,k1,q1]
   refine callW_of (c75 _ hx1 _ (pos_of hp hg)) ?_
   rintro _ h2⟨rfl,g2⟩
   have hg2:=hg.trans g2
   try refine⟨λe=>(by first|exact g2|cases e),?_⟩
   try simp(disch:=omega)
   refine append_word hp (by simp;omega) hg2 (p5.grow g2) λv3 h3 g3 b3=>?_
   try simp(disch:=omega)[p1,p9,p10,p11,wrap64]
   refine⟨k+1,⟨by omega,g3,?_,by omega⟩,by omega⟩
   rw[<-List.map_take,List.take_succ_eq_append_getElem k1,List.map_append]
   exact b3
  ·have:k=X.length:=by omega
   subst this
   rw[List.take_length]at p5
   have hdl:=join_len X hx X.length (Nat.le_refl _)
   rw[List.take_length]at hdl
   try simp(disch:=omega)[p1,p9]
   refine callW_of (c167 _ _ [32] _ p5.reads (by omega) (by simp;omega)) ?_
   rintro _ h2⟨rfl,rfl⟩
   try refine⟨λe=>(by cases e),?_⟩
   simp(disch:=omega)[hg]
section
variable {α : Type} {f R : α -> α} {seg : α -> Nat} {V : α -> Prop} {N : Nat}
/-- The first segments of the curves. -/
noncomputable def startsN(f:α->α)(seg:α->Nat)(wk:Nat->α)(N:Nat):Nat->List Nat
 |0=>[]
 |k+1=>if 0<=at0 (curvesSt f seg wk N k).1 k then startsN f seg wk N k else startsN f seg wk N k++[k]
def orbW(f:α->α)(w:α)(n:Nat):List α:=(List.range n).map λj=>itW f j w
theorem orbW_len{w:α}{n:Nat}:(orbW f w n).length=n:=by simp[orbW]
theorem orbW_succ{w:α}{n:Nat}:orbW f w (n+1)=orbW f w n++[itW f n w]:=by simp[orbW,List.range_succ]
noncomputable def curvesL(f:α->α)(seg:α->Nat)(wk:Nat->α)(N k:Nat):List (List α):=(startsN f seg wk N k).map λs=>orbW f (wk s) (perW f (wk s))
theorem startsN_len(f:α->α)(seg:α->Nat)(wk:Nat->α)(N:Nat):∀k,(startsN f seg wk N k).length=(curvesSt f seg wk N k).2
 |0=>rfl
 |k+1=>by
  have ih:=startsN_len f seg wk N k
  simp only[startsN,curvesSt]
  split
  ·exact ih
  ·simp[ih]
theorem curvesL_len{wk:Nat->α}{k:Nat}:(curvesL f seg wk N k).length=(curvesSt f seg wk N k).2:=by simp[curvesL,startsN_len]
theorem itW_per{w:α}{n:Nat}(h:itW f n w=w):∀q,itW f (n*q) w=w
 |0=>rfl
 |q+1=>by rw[Nat.mul_succ,itW_add,itW_per h q,h]
theorem itW_mod{w:α}{n:Nat}(h:itW f n w=w)(m:Nat):itW f m w=itW f (m%n) w:=by
 conv=>lhs;rw[<-Nat.div_add_mod m n]
 rw[itW_add,itW_per h]
structure Owned (f:α->α) (seg:α->Nat) (wk:Nat->α) (N k:Nat):Prop where
 all:∀j,j<k->0<=at0 (curvesSt f seg wk N k).1 j
 lt:∀s,s<N->at0 (curvesSt f seg wk N k).1 s<(curvesSt f seg wk N k).2
 st:∀i (hi:i<(startsN f seg wk N k).length),(startsN f seg wk N k)[i]<k∧(∀j,j<(startsN f seg wk N k)[i]->at0 (curvesSt f seg wk N k).1 j≠i)
 on:∀i (hi:i<(startsN f seg wk N k).length) m,at0 (curvesSt f seg wk N k).1 (seg (itW f m (wk (startsN f seg wk N k)[i])))=i
theorem Walks.owned(a:Walks f R seg V N){wk:Nat->α}(hw:∀k,k<N->V (wk k))(hs:∀k,k<N->seg (wk k)=k):∀k,k<=N->Owned f seg wk N k
 |0,_=>by
  refine⟨by simp,λs h=>?_,λi hi=>?_,λi hi=>?_⟩
  ·simp[curvesSt,at0,List.getD_eq_getElem?_getD,List.getElem?_replicate,h]
  ·simp[startsN]at hi
  ·simp[startsN]at hi
 |k+1,hk=>by
  have ih:=Walks.owned a hw hs k (by omega)
  obtain⟨s1,s2,s3⟩:=a.st hw k (by omega)
  have hl:=startsN_len f seg wk N k
  obtain⟨i1,i2,i3,i4⟩:=ih
  by_cases h0:0<=at0 (curvesSt f seg wk N k).1 k
  ·have e1:curvesSt f seg wk N (k+1)=curvesSt f seg wk N k:=by simp only[curvesSt];rw[if_pos h0]
   have e2:startsN f seg wk N (k+1)=startsN f seg wk N k:=by simp only[startsN];rw[if_pos h0]
   refine⟨?_,?_,?_,?_⟩
   ·rw[e1]
    intro j hj
    by_cases q:j=k
    ·rw[q];exact h0
    ·exact i1 j (by omega)
   ·rw[e1];exact i2
   ·simp only[e1,e2]
    intro i hi
    have:=i3 i hi
    exact⟨by omega,this.2⟩
   ·simp only[e1,e2];exact i4
  ·obtain⟨O,hO⟩:∃O,O=(curvesSt f seg wk N k).1:=⟨_,rfl⟩
   obtain⟨c,hc⟩:∃c,c=(curvesSt f seg wk N k).2:=⟨_,rfl⟩
   have e1:curvesSt f seg wk N (k+1)=(paint f seg (wk k) c O (perW f (wk k)),c+1):=by simp only[curvesSt];rw[if_neg h0,hO,hc]
   have e2:startsN f seg wk N (k+1)=startsN f seg wk N k++[k]:=by simp only[startsN];rw[if_neg h0]
   rw[<-hO]at h0 s1 s2 i1 i2 i3 i4
   rw[<-hc]at hl i2 s3
   obtain⟨S,hS⟩:∃S,S=startsN f seg wk N k:=⟨_,rfl⟩
   rw[<-hS]at hl e2
   simp only[<-hS]at i3 i4
   have hv:=hw k (by omega)
   have hsk:=hs k (by omega)
   obtain⟨p1,p2,p3,p4⟩:=a.per hv
   obtain⟨r1,r2⟩:=a.run hv (c:=(c:Int)) (by omega) s1 s2 (by rw[hsk];omega)
   have pa:∀s,s<N->at0 (paint f seg (wk k) c O (perW f (wk k))) s=if ∃j,j<perW f (wk k)∧seg (itW f j (wk k))=s then(c:Int)else at0 O s:=λs h=>paint_at (by rw[s1];exact h) _
   have free:∀m,m<perW f (wk k)->at0 O (seg (itW f m (wk k)))<0:=by
    intro m hm
    have h1:=r1 m hm
    rw[paint_at (by rw[s1];exact a.lt _ (a.vi hv m))]at h1
    split at h1
    ·omega
    ·exact h1
   have nf:∀s,0<=at0 O s->¬∃j,j<perW f (wk k)∧seg (itW f j (wk k))=s:=by
    rintro s h⟨j,hj,rfl⟩
    have:=free j hj
    omega
   refine⟨?_,?_,?_,?_⟩
   ·rw[e1]
    intro j hj
    simp only
    rw[pa j (by omega)]
    split
    ·omega
    ·rename_i hn
     by_cases q:j=k
     ·exact absurd ⟨0,p1,by rw[q];exact hsk⟩ hn
     ·exact i1 j (by omega)
   ·rw[e1]
    intro s h
    simp only
    rw[pa s h]
    split
    ·omega
    ·have:=i2 s h;omega
   ·simp only[e1,e2]
    intro i hi
    rw[List.getElem_append]
    split
    ·rename_i hi2
     obtain⟨a1,a2⟩:=i3 i hi2
     refine⟨by omega,λj hj=>?_⟩
     rw[pa j (by omega)]
     split
     ·omega
     ·exact a2 j hj
    ·have ei:i=c:=by simp at hi;omega
     subst ei
     simp only[List.getElem_singleton]
     refine⟨by omega,λj hj=>?_⟩
     rw[pa j (by omega),if_neg (nf j (i1 j hj))]
     have:=i2 j (by omega)
     omega
   ·simp only[e1,e2]
    intro i hi m
    rw[List.getElem_append]
    split
    ·rename_i hi2
     have h1:=i4 i hi2 m
     have h2:=(i3 i hi2).1
     rw[pa _ (a.lt _ (a.vi (hw _ (by omega)) m)),if_neg (nf _ (by omega)),h1]
    ·have ei:i=c:=by simp at hi;omega
     subst ei
     simp only[List.getElem_singleton]
     rw[pa _ (a.lt _ (a.vi hv m)),if_pos]
     exact⟨m%perW f (wk k),Nat.mod_lt _ p1,by rw[<-itW_mod p3]⟩
end
noncomputable def startsP(X:Pan):List Nat:=startsN (stepW X.1.toNat X.2.1.toNat X.2.2) (segW X.2.1.toNat) (wkW X.2.1.toNat) (4*X.1.toNat*X.2.1.toNat) (4*X.1.toNat*X.2.1.toNat)
noncomputable def ownP(X:Pan):List Int:=(curvesP X).1
theorem Buf.base{B0 B1 h:Heap}{v:Value}{z:Nat}{cs:List Value}(x:Buf B0 h v z cs)(hl:B1.length<=B0.length):Buf B1 h v z cs:=by
 rcases x with q|⟨b,n,e1,e2,e3,e4⟩
 ·exact .inl q
 ·exact .inr ⟨b,n,e1,e2,by omega,e4⟩
noncomputable def curvesQ(X:Pan):List (List Wk):=curvesL (stepW X.1.toNat X.2.1.toNat X.2.2) (segW X.2.1.toNat) (wkW X.2.1.toNat) (4*X.1.toNat*X.2.1.toNat) (4*X.1.toNat*X.2.1.toNat)
theorem curvesL_succ{f:Wk->Wk}{sg:Wk->Nat}{wk:Nat->Wk}{N:Nat}(k:Nat):curvesL f sg wk N (k+1)=if 0<=at0 (curvesSt f sg wk N k).1 k then curvesL f sg wk N k else curvesL f sg wk N k++[orbW f (wk k) (perW f (wk k))]:=by
 unfold curvesL
 simp only[startsN]
 split<;>simp
/-- Walkers in memory. -/
def wksV(l:List Wk):List Value:=(l.map λw=>[I w.1,I w.2.1,I w.2.2.1,I w.2.2.2]).flatten
theorem wksV_len:∀l:List Wk,(wksV l).length=4*l.length
 |[]=>rfl
 |w::l=>by
  have:=wksV_len l
  simp only[wksV,List.map_cons,List.flatten_cons,List.length_append,List.length_cons,List.length_nil]at this ⊢
  omega
theorem wksV_snoc{l:List Wk}{x y dx dy:Int}:wksV l++[I x,I y,I dx,I dy]=wksV (l++[(x,y,dx,dy)]):=by simp[wksV]
def FrB(h h':Heap)(B:Nat):Prop:=∀c,0<c->c≠B->c<h.length->h'[c]?=h[c]?
theorem FrB.refl{h:Heap}{B:Nat}:FrB h h B:=λ_ _ _ _=>rfl
/-- Curves in memory: slices of walkers, each in its own block. -/
def CurR(h:Heap)(lo:Nat)(v:Value)(Z:List Value)(Cs:List (List Wk)):Prop:=Z.length=Cs.length∧∀i (hi:i<Cs.length),∃b,Z[i]?=some (sl b 0 Cs[i].length 4)∧lo<=b∧h[b]?=some ⟨wksV Cs[i],true⟩∧∀n y,v≠sl b 0 n y
theorem CurR.nil{h:Heap}{lo:Nat}{v:Value}:CurR h lo v [] []:=⟨rfl,by simp⟩
theorem CurR.low{h:Heap}{lo lo':Nat}{v:Value}{Z:List Value}{Cs:List (List Wk)}(x:CurR h lo v Z Cs)(hl:lo'<=lo):CurR h lo' v Z Cs:=
 ⟨x.1,λi hi=>by obtain⟨b,a1,a2,a3⟩:=x.2 i hi;exact⟨b,a1,by omega,a3⟩⟩
theorem CurR.frame{h h':Heap}{lo B:Nat}{v:Value}{Z:List Value}{Cs:List (List Wk)}(x:CurR h lo v Z Cs)(f:FrB h h' B)(h0:0<lo)(hB:B<lo):CurR h' lo v Z Cs:=
 ⟨x.1,λi hi=>by
  obtain⟨b,a1,a2,a3,a4⟩:=x.2 i hi
  exact⟨b,a1,a2,by rw[f b (by omega) (by omega) (at_lt a3)];exact a3,a4⟩⟩
theorem CurR.snoc{h h':Heap}{lo b n:Nat}{v v':Value}{Z:List Value}{Cs:List (List Wk)}{C:List Wk}(x:CurR h lo v Z Cs)(fr:∀c kk,h[c]?=some kk->(∀n,v≠sl c 0 n 1)->h'[c]?=some kk)(hv:∀b n y,v'=sl b 0 n y->h.length<=b)
  (hb:h[b]?=some ⟨wksV C,true⟩) (hlo:lo<=b) (hne:∀n y,v≠sl b 0 n y) (hn:n=C.length):CurR h' lo v' (Z++[sl b 0 n 4]) (Cs++[C]):=by
 obtain⟨h1,h2⟩:=x
 refine⟨by simp[h1],λi hi=>?_⟩
 by_cases q:i<Cs.length
 ·obtain⟨b',a1,a2,a3,a4⟩:=h2 i q
  refine⟨b',by rw[List.getElem?_append_left (by omega),a1,List.getElem_append_left q],a2,?_,λn y e=>?_⟩
  ·rw[List.getElem_append_left q]
   exact fr b' _ a3 λn=>a4 n 1
  ·have:=hv _ _ _ e
   have:=at_lt a3
   omega
 ·have:i=Cs.length:=by simp at hi;omega
  subst this
  refine⟨b,by rw[List.getElem?_append_right (by omega)];simp[h1,hn],hlo,?_,λn y e=>?_⟩
  ·rw[List.getElem_append_right (by omega)]
   simp only[Nat.sub_self,List.getElem_singleton]
   exact fr b _ hb λn=>hne n 1
  ·have:=hv _ _ _ e
   have:=at_lt hb
   omega
theorem c55s(h:Heap)(hp:0<h.length)(W H:Int)(br:List Int)(s:Value)(ok:OkP (W,H,br))(hr:Vr h shInts s br):ACall Gam 55 [.agg #[I W,I H,s]] h λr h'=>Grows h h'∧∃b1 b2 Z,r=.tuple #[sl b1 0 (curveN (W,H,br)) 1,sl b2 0 (4*W.toNat*H.toNat) 1]∧Buf h h' (sl b1 0 (curveN (W,H,br)) 1) 1 Z∧CurR h' h.length (sl b1 0 (curveN (W,H,br)) 1) Z (curvesQ (W,H,br))∧h.length<=b2∧h'[b2]?=some ⟨ints (ownP (W,H,br)),true⟩:=by
 have A:=walks (W:=W.toNat) (H:=H.toNat) (br:=br) (by have:=ok.w;simp at this;omega) (by have:=ok.h;simp at this;omega)
 have ok0:=ok
 obtain⟨w8,hh8,_,_⟩:=ok
 simp only at w8 hh8
 obtain⟨N,eN⟩:∃N,N=4*W.toNat*H.toNat:=⟨_,rfl⟩
 have hN:N<=256:=by
  rw[eN];exact(Nat.mul_le_mul (by omega) (by omega):4*W.toNat*H.toNat<=4*8*8)
 have wkok:∀k,k<N->OkW W.toNat H.toNat (wkW H.toNat k):=λk hk=>wkW_ok (by omega) (by rw[<-eN];exact hk)
 have wksg:∀k,k<N->segW H.toNat (wkW H.toNat k)=k:=λk hk=>wkW_seg (by omega) (by rw[<-eN];exact hk)
 have eC:curveN (W,H,br)=(curvesSt (stepW W.toNat H.toNat br) (segW H.toNat) (wkW H.toNat) N N).2:=by rw[eN];rfl
 have eL:curvesQ (W,H,br)=curvesL (stepW W.toNat H.toNat br) (segW H.toNat) (wkW H.toNat) N N:=by rw[eN];rfl
 have eO:ownP (W,H,br)=(curvesSt (stepW W.toNat H.toNat br) (segW H.toNat) (wkW H.toNat) N N).1:=by rw[eN];rfl
 rw[<-eN,eC,eL,eO]
 obtain⟨f,ef⟩:∃f,f=stepW W.toNat H.toNat br:=⟨_,rfl⟩
 rw[<-eN]at A
 rw[<-ef]at A ⊢
 obtain⟨B,eB⟩:∃B,B=h.length:=⟨_,rfl⟩
 have em:aMake 1 h (Value.int IntKind.i64 N) (Value.int IntKind.i64 N) (Value.agg #[I 0])=some (sl B 0 N 1,h++[⟨ints (List.replicate N 0),true⟩]):=by
  simp(disch:=omega)[aMake,maxSize,ints,eB]
  exact⟨by omega,by simpa [ints]using reps_ints N⟩
 have c51':=λhh=>c51 hh W H s w8 hh8
 rw[<-eN]at c51'
 refine ACall_intro g55 rfl ?_
 unfold fn55
 simp(disch:=omega)
 refine callW_of (c51' h) ?_
 rintro _ h0⟨rfl,rfl⟩
 try refine⟨λ_=>Grows.refl _,?_⟩
 rw[em]
 simp only[bindW_some]
 simp(disch:=omega)
 refine awp_loop (λ(k:Nat) σ h'=>k<=N∧Grows h0 h'∧h'.length=B+1∧h'[B]?=some ⟨ints (List.replicate k (-1)++List.replicate (N-k) 0),true⟩∧σ 1=.agg #[I W,I H,s]∧σ 4=sl 0 0 0 1∧σ 5=sl B 0 N 1∧σ 15=I N∧σ 16=I k) (λk=>N-k) 0 ?_ ?_
 ·exact⟨by omega,⟨_,rfl⟩,by simp[eB],by simp[eB],by simp,by simp,by simp,by simp,by simp⟩
 rintro k σ h1'⟨hk,g,hlen,hB,q1,q4,q5,q15,q16⟩
 simp(disch:=omega)[q15,q16]
 refine fork_dec (λhlt=>?_) (λhge=>?_)
 ·have k1:k<N:=by omega
  have st:=store_one (v:=I (-1)) (o:=k) hB (by simp[ints];omega)
  simp(disch:=omega)[q1,q4,q5,q15,q16,k1,st,wrap64]
  refine⟨k+1,⟨by omega,g.put (by omega) _,hlen,?_,by omega⟩,by omega⟩
  have hBl:B<h1'.length:=by omega
  simp[hBl,ints]
  obtain⟨m,hm⟩:∃m,N-k=m+1:=⟨N-k-1,by omega⟩
  rw[hm,show N-(k+1)=m by omega,List.replicate_succ,List.set_cons_zero,List.replicate_succ']
  simp
 have hkN:N=k:=by omega
 subst hkN
 simp(disch:=omega)[q1]
 have hB0:h1'[B]?=some ⟨ints (curvesSt f (segW H.toNat) (wkW H.toNat) N 0).1,true⟩:=by
  rw[hB];simp[curvesSt]
 clear hB
 refine callW_of (c51' h1') ?_
 rintro _ h1'⟨rfl,rfl⟩
 try refine⟨λ_=>Grows.refl _,?_⟩
 obtain⟨H1,eH1⟩:∃H1,H1=h1':=⟨_,rfl⟩
 have lH1:H1.length=B+1:=by rw[eH1];exact hlen
 obtain⟨sg,esg⟩:∃sg,sg=segW H.toNat:=⟨_,rfl⟩
 obtain⟨wk,ewk⟩:∃wk,wk=wkW H.toNat:=⟨_,rfl⟩
 rw[<-esg]at A wksg hB0 ⊢
 rw[<-ewk]at wkok wksg hB0 ⊢
 refine awp_loop (λ(k:Nat) σ h'=>k<=N∧Grows h0 h'∧B+1<=h'.length∧h'[B]?=some ⟨ints (curvesSt f sg wk N k).1,true⟩∧σ 1=.agg #[I W,I H,s]∧σ 5=sl B 0 N 1∧σ 24=I N∧σ 25=I k∧∃Z,Buf H1 h' (σ 4) 1 Z∧Z.length=(curvesSt f sg wk N k).2∧CurR h' H1.length (σ 4) Z (curvesL f sg wk N k)) (λk=>N-k) 0 ?_ ?_
 ·exact⟨by omega,g,by omega,hB0,by simpa using q1,by simpa using q5,by simp,by simp,[],by simpa [q4]using Buf.nil,rfl,CurR.nil⟩
 clear q1 q4 q5 q15 q16 hB0 g eH1
 rintro k σ h2⟨hk,g,hlen,hB,q1,q5,q24,q25,Z,bz,hZ,hL⟩
 obtain⟨st1,st2,st3⟩:=A.st wkok k hk
 simp(disch:=omega)[q24,q25]
 refine fork_dec (λhlt=>?_) (λhge=>?_)
 ·have k1:k<N:=by omega
  have hok:=wkok k k1
  have hsgk:=wksg k k1
  obtain⟨oc,eoc⟩:∃oc,oc=curvesSt f sg wk N k:=⟨_,rfl⟩
  have esucc:curvesSt f sg wk N (k+1)=if 0<=at0 oc.1 k then oc else(paint f sg (wk k) oc.2 oc.1 (perW f (wk k)),oc.2+1):=by rw[eoc];rfl
  have esS:curvesL f sg wk N (k+1)=if 0<=at0 oc.1 k then curvesL f sg wk N k else curvesL f sg wk N k++[orbW f (wk k) (perW f (wk k))]:=by rw[eoc];exact curvesL_succ k
  rw[<-eoc]at hB hZ st1 st2 st3
  obtain⟨O,c⟩:=oc
  simp only at hB hZ st1 st2 st3 esucc esS
  have hcell:cell h2 B k=some (I (at0 O k)):=cell_of hB (by simp[ints,at0,List.getD_eq_getElem?_getD,show k<O.length by omega])
  simp(disch:=omega)[q5,q24,q25,k1,hcell]
  refine fork_dec (λhpos=>?_) (λhneg=>?_)
  ·simp(disch:=omega)[q24,q25,wrap64]
   rw[if_pos hpos]at esucc esS
   refine⟨k+1,⟨by omega,g,by omega,?_,q1,q5,by omega,Z,bz,?_,by rw[esS];exact hL⟩,by omega⟩
   ·have:=(List.getElem?_eq_some_iff.1 hB).2
    simpa [esucc]using this
   ·rw[esucc];exact hZ
  ·rw[if_neg hneg]at esucc esS
   have c2:=c56 h2 W H s k w8 hh8 (by omega)
   rw[<-ewk]at c2
   obtain⟨u,eu⟩:∃u,u=wk k:=⟨_,rfl⟩
   rw[<-eu]at c2 hok esucc esS hsgk
   obtain⟨P1,P2,P3,P4⟩:=A.per hok
   obtain⟨R1,R2⟩:=A.run hok (c:=(c:Int)) (by omega) st1 st2 (by rw[hsgk];omega)
   obtain⟨n,en⟩:∃n,n=perW f u:=⟨_,rfl⟩
   rw[<-en]at P1 P2 P3 P4 R1 R2 esucc esS
   simp(disch:=omega)[q1]
   refine callW_of c2 ?_
   rintro _ h3⟨rfl,e3⟩
   subst e3
   refine⟨λe=>(by cases e),?_⟩
   simp(disch:=omega)[wv_eq]
   obtain⟨b7,e7⟩:=bz.sl1
   rw[hZ]at e7
   rw[e7]at bz hL
   have hg3:=g.le
   obtain⟨HH,eHH⟩:∃HH,HH=h3:=⟨_,rfl⟩
   have lHH:HH.length=h3.length:=by rw[eHH]
   refine awp_loop (λ(j:Nat) σ' h'=>j<=n∧Grows h0 h'∧HH.length<=h'.length∧h'[B]?=some ⟨ints (paint f sg u c O j),true⟩∧σ' 1=.agg #[I W,I H,s]∧σ' 4=sl b7 0 c 1∧σ' 5=sl B 0 N 1∧σ' 9=wv (itW f j u)∧σ' 24=I N∧σ' 25=I k∧Buf H1 h' (sl b7 0 c 1) 1 Z∧FrB HH h' B∧∃Q,Buf HH h' (σ' 8) 4 Q∧Q=wksV (orbW f u j)∧Apart (σ' 8) (sl b7 0 c 1)) (λj=>n-j) 0 ?_ ?_
   ·refine⟨by omega,g,by omega,hB,by simpa using q1,by simpa using e7,by simpa using q5,by simp[wv_eq,itW],by simpa using q24,by simpa using q25,bz,by rw[eHH];exact FrB.refl,[],by simpa using Buf.nil,rfl,?_⟩
    intro b c n m z y h1 h2 e
    simp[sl]at h1;omega
   rintro j τ h5⟨hj,g5,l5,hB5,r1,r4,r5,r9,r24,r25,bz5,fb5,Q,bq,hQ',ap⟩
   have hQ:Q.length=4*j:=by rw[hQ',wksV_len,orbW_len]
   have hoj:=A.vi hok j
   obtain⟨v,ev⟩:∃v,v=itW f j u:=⟨_,rfl⟩
   rw[<-ev]at r9 hoj
   have hsv:sg v<N:=A.lt _ hoj
   have hcell:cell h5 B (sg v)=some (I (at0 (paint f sg u c O j) (sg v))):=cell_of hB5 (by simp[ints,at0,List.getD_eq_getElem?_getD,paint_len,st1,hsv])
   obtain⟨x,y,dx,dy⟩:=v
   simp only[wv]at r9
   have c5:=c50 h5 W H s x y dx dy w8 hh8 hoj
   rw[<-esg]at c5
   simp(disch:=omega)[r1,r5,r9]
   refine callW_of c5 ?_
   rintro _ h6⟨rfl,rfl⟩
   refine⟨λe=>(by cases e),?_⟩
   simp(disch:=omega)[hsv,hcell]
   refine fork_dec (λhlt=>?_) (λhge=>?_)
   ·have j1:j<n:=by
     rcases Nat.lt_or_ge j n with q|q
     ·exact q
     ·have:j=n:=by omega
      subst this
      rw[<-ev]at R2;omega
    have st:=store_one (v:=I c) (o:=sg (x,y,dx,dy)) hB5 (by simp[ints,paint_len,st1];omega)
    simp(disch:=omega)[r1,r4,r5,r9]
    refine callW_of c5 ?_
    rintro _ h7⟨rfl,rfl⟩
    refine⟨λe=>(by cases e),?_⟩
    simp(disch:=omega)[hsv,st]
    obtain⟨h8,e8⟩:∃h8,h8=List.set h7 B {cells:=(ints (paint f sg u (↑c) O j)).set (sg (x,y,dx,dy)) (I ↑c),rw:=true}:=⟨_,rfl⟩
    rw[<-e8]
    have g8:Grows h0 h8:=by rw[e8];exact g5.put (by omega) _
    have l8:h8.length=h7.length:=by rw[e8];simp
    have hB8:h8[B]?=some ⟨ints (paint f sg u c O (j+1)),true⟩:=by
     have:B<h7.length:=at_lt hB5
     rw[e8]
     simp[this,paint,<-ev,ints,List.map_set]
    have bz8:Buf H1 h8 (sl b7 0 c 1) 1 Z:=by rw[e8];exact bz5.put (by omega)
    have bq8:Buf HH h8 (τ 8) 4 Q:=by rw[e8];exact bq.put (by omega)
    have eb:aBuildSlice 4 1 h8 [(0,.agg #[I 0,I 0,I 0,I 0]),(4,.agg #[I x,I y,I dx,I dy])]=some (sl h8.length 0 1 4,h8++[⟨[I x,I y,I dx,I dy],true⟩]):=by simp[aBuildSlice]
    rw[eb]
    simp only[bindW_some]
    refine app1 (by omega) g8 (by omega) (by omega) bq8 (by simp) (by omega) (by simp[maxSize];omega) λv9 h9 g9 l9 b9 n9 fr9=>?_
    have bz9:=bz8.keep (by omega) ap fr9
    have hB9:=fr9 B _ hB8 (bq8.ne (by omega) (by omega))
    have fb9:FrB HH h9 B:=λc c0 cB cl=>by
     have k5:=fb5 c c0 cB cl
     obtain⟨kk,hkk⟩:∃kk,HH[c]?=some kk:=⟨_,List.getElem?_eq_getElem cl⟩
     have k8:h8[c]?=some kk:=by rw[e8,List.getElem?_set_ne (λe=>cB e.symm),k5,hkk]
     rw[hkk];exact fr9 c kk k8 (bq8.ne c0 cl)
    have ap9:=apart_of (by omega) bz8 n9
    refine callW_of (c54 h9 W H br s x y dx dy ok0 (hr.grow g9) hoj) ?_
    rintro _ h10⟨⟨q,rfl⟩,rfl⟩
    refine⟨λe=>(by cases e),?_⟩
    obtain⟨a1,a2,a3,a4,eabcd⟩:∃a b c d,stepW W.toNat H.toNat br (x,y,dx,dy)=(a,b,c,d):=⟨_,_,_,_,rfl⟩
    rw[eabcd]
    have e9:itW f (j+1) u=(a1,a2,a3,a4):=by show f (itW f j u)=_;rw[<-ev,ef];exact eabcd
    have hB9':=(List.getElem?_eq_some_iff.1 hB9).2
    simp(disch:=omega)[wv_eq]
    exact⟨j+1,⟨by omega,g9,by omega,by simpa using hB9',by simp[e9],r24,r25,bz9,fb9,_,b9,by rw[hQ',orbW_succ,wksV_snoc,<-ev],ap9⟩,by omega⟩
   ·have ej:j=n:=by
     rcases Nat.lt_or_ge j n with q|q
     ·have:=R1 j q;rw[<-ev]at this;omega
     ·omega
    subst ej
    obtain⟨b8,n8,e8,en8,hb8,hc8⟩:∃b n,τ 8=sl b 0 n 4∧n=j∧HH.length<=b∧h6[b]?=some ⟨wksV (orbW f u j),true⟩:=by
     rcases bq with⟨e1,e2⟩|⟨b,n,e1,e2,e3,e4⟩
     ·rw[e1]at hQ;simp at hQ;omega
     ·exact⟨b,n,e1,by omega,e3,by rw[<-hQ'];exact e4⟩
    have eb:aBuildSlice 1 1 h6 [(0,.agg #[sl 0 0 0 0]),(1,sl b8 0 n8 4)]=some (sl h6.length 0 1 1,h6++[⟨[sl b8 0 n8 4],true⟩]):=by simp[aBuildSlice]
    simp(disch:=omega)[r1,r4,r5,e8]
    rw[eb]
    simp only[bindW_some]
    refine app1 (by omega) g5 (by omega) (by omega) bz5 (by simp) (by omega) (by simp[hZ,maxSize];omega) λv6 h7 g6 l6 b6 n6 fr6=>?_
    have nL:=(hL.frame (by rw[<-lHH]at*;exact λc c0 cB cl=>by rw[fb5 c c0 cB (by omega),eHH]) (by omega) (by omega)).snoc (b:=b8) (n:=n8) (C:=orbW f u j) fr6 (λb n y e=>by have:=n6 b n y e;omega) hc8 (by omega) (λn y e=>by
     simp[sl]at e
     have:=ap b8 b7 n8 c 4 1 e8 rfl (by omega);omega) (by rw[orbW_len];exact en8)
    have hB6:=fr6 B _ hB5 (bz5.ne (by omega) (by omega))
    simp(disch:=omega)[r1,r5,r24,r25,wrap64]
    refine⟨k+1,⟨by omega,g6,by omega,?_,by omega,_,b6,?_,by rw[esS];exact nL⟩,by omega⟩
    ·have:=(List.getElem?_eq_some_iff.1 hB6).2
     simpa [esucc]using this
    ·rw[esucc];simp[hZ]
 ·have e:k=N:=by omega
  subst e
  obtain⟨b7,e7⟩:=bz.sl1
  rw[hZ]at e7
  simp(disch:=omega)[e7,q5]
  rw[e7]at bz hL
  refine⟨g,b7,B,⟨rfl,rfl⟩,Z,bz.base (by omega),hL.low (by omega),by omega,hB⟩
end Am

/- Contracts: AmH86, AmH87, AmH88, AmH89. -/
import Derived.Test.YtpgioncclmancaaGreatAmK17
import Derived.Test.YtpgioncclmancaaGreatAmK7
import Derived.Test.YtpgioncclmancaaGreatAmK6
import Derived.Test.YtpgioncclmancaaGreatAmK3
set_option linter.unusedVariables false
set_option linter.unusedSimpArgs false
set_option maxHeartbeats 4000000
set_option maxRecDepth 40000
namespace Am
open Go
theorem cmd_ok{J:Jrn}{w:List UInt8}{n:List Int}(ok:okJ J=true)(h:(cmdA J w n).2=0):okJ (cmdA J w n).1=true:=by
 unfold cmdA at h ⊢
 split at h
 ·rename_i e
  rw[if_pos e]
  unfold undoAns at h ⊢
  rw[if_pos ok]at h ⊢
  split at h
  ·simp at h
  ·rename_i q
   rw[if_neg q]
   exact(undo_ok ok q).1
 rename_i e1
 rw[if_neg e1]
 split at h
 ·rename_i e
  rw[if_pos e]
  unfold redoAns at h ⊢
  rw[if_pos ok]at h ⊢
  split at h
  ·simp at h
  ·rename_i q
   rw[if_neg q]
   exact(redo_ok ok q).1
 rename_i e2
 rw[if_neg e2]
 split at h
 ·rename_i e
  rw[if_pos e]
  unfold sqAns at h ⊢
  rw[if_pos ok]at h ⊢
  obtain⟨⟨W,H,br⟩,p,f⟩:=J
  exact(sq_ok ok).ok
 rename_i e3
 rw[if_neg e3]
 split at h
 ·rename_i e
  rw[if_pos e]
  unfold setA at h ⊢
  split at h
  ·rename_i q
   rw[if_pos q]
   unfold doAns at h ⊢
   rw[if_pos ok]at h ⊢
   split at h
   ·rename_i q2
    rw[if_pos q2]
    obtain⟨⟨W,H,br⟩,p,f⟩:=J
    exact(do_law ok q2).1
   ·rename_i q2
    exact absurd h q2
  ·rename_i q
   exact absurd h q
 rename_i e4
 rw[if_neg e4]
 split at h
 ·rename_i e
  rw[if_pos e]
  unfold newJA at h ⊢
  split at h
  ·rename_i q
   rw[if_pos q]
   unfold njAns at h ⊢
   split at h
   ·rename_i q2
    rw[if_pos q2]
    exact okJ_iff.2 ⟨q2,by simp,⟨_,rfl⟩,_,rfl⟩
   ·simp at h
  ·rename_i q
   exact absurd h q
 ·rename_i e
  rw[if_neg e];exact ok
def stepW?(w:List UInt8):Prop:=w=wNew∨w=wSet∨w=wUndo∨w=wRedo∨w=wSquash∨w=wShow
instance (w:List UInt8):Decidable (stepW? w):=by unfold stepW?;infer_instance
noncomputable def readJ(s:List UInt8):Jrn:=((readAns s).1,[],[])
noncomputable def doneA(J:Jrn)(A:Jrn×Int):Jrn×List (List UInt8)×Int:=if A.2=0 then(A.1,[deskT A.1],0)else(J,[],A.2)
noncomputable def runW(J:Jrn)(w:List UInt8)(n:List Int):Jrn×List (List UInt8)×Int:=if stepW? w then doneA J (cmdA J w n)else(J,(tellA J w n).1,(tellA J w n).2)
def numOk(l:List (List UInt8)):Prop:=∀x∈l,(rdDec x).2=true
instance (l:List (List UInt8)):Decidable (numOk l):=by unfold numOk;infer_instance
def numsW(l:List (List UInt8)):List Int:=l.map λx=>(rdDec x).1
/-- A line of words, executed. -/
noncomputable def exeA(J:Jrn)(w:List UInt8)(l:List (List UInt8)):Jrn×List (List UInt8)×Int:=
 if w=wRead then(if(readAns (l.getD 0 [])).2=true then(readJ (l.getD 0 []),[deskT (readJ (l.getD 0 []))],0)else(J,[],8))
 else if numOk l then runW J w (numsW l)else(J,[],7)
theorem read_ok{s:List UInt8}(h:(readAns s).2=true):okJ (readJ s)=true:=by
 rcases readAns_cases s with⟨X,a,_,c⟩|⟨_,c⟩
 ·unfold readJ
  rw[c]
  exact okJ_iff.2 ⟨okP_iff.2 a,by simp,⟨_,rfl⟩,_,rfl⟩
 ·rw[c]at h;simp at h
theorem exe_ok{J:Jrn}{w:List UInt8}{l:List (List UInt8)}(ok:okJ J=true):okJ (exeA J w l).1=true:=by
 unfold exeA
 split
 ·split
  ·rename_i h;exact read_ok h
  ·exact ok
 ·split
  ·unfold runW
   split
   ·unfold doneA
    split
    ·rename_i h;exact cmd_ok ok h
    ·exact ok
   ·exact ok
  ·exact ok
theorem desk_len{J:Jrn}(ok:okJ J=true):(deskT J).length<=1000:=by
 obtain⟨⟨W,H,br⟩,p,f⟩:=J
 obtain⟨okX,hle,_⟩:=okJ_parts ok
 have hw:=okX.w
 have hh:=okX.h
 have hl:=ok_len okX
 simp only at hw hh
 have l1:=panT_len (X:=(W,H,br)) (by unfold I64;simp only;omega) (by unfold I64;simp only;omega)
 have l2:=(decS_len (n:=(p.length:Int)) (by unfold I64;omega)).2
 have l3:=(decS_len (n:=(f.length:Int)) (by unfold I64;omega)).2
 unfold deskT
 simp only[List.length_append,List.length_cons,List.length_nil]at l1 ⊢
 omega
theorem c157k(h:Heap)(hp:0<h.length)(v:Value)(J:Jrn)(hv:Vr h shJournal v J)(ok:okJ J=true):ACall Gam 157 [v] h λr h'=>Grows h h'∧r=S (deskT J):=by
 obtain⟨⟨W,H,br⟩,p,f⟩:=J
 obtain⟨okX,hle,_⟩:=okJ_parts ok
 have hl:=ok_len okX
 exact c157 h hp v W H br p f hv okX.b (by omega) (by omega) (by omega)
/-- What execute gives back. -/
def ExeR(h h':Heap)(r:Value)(A:Jrn×List (List UInt8)×Int):Prop:=Grows h h'∧∃nv lv,r=.tuple #[nv,lv,I A.2.2]∧Vr h' shJournal nv A.1∧(∃b o n z,lv=sl b o n z)∧(A.2.2=0->Buf h h' lv 1 (texts A.2.1))
theorem numsW_take{l:List (List UInt8)}{k:Nat}(h:k<l.length):numsW (l.take (k+1))=numsW (l.take k)++[(rdDec l[k]).1]:=by
 unfold numsW
 rw[List.take_succ_eq_append_getElem h,List.map_append];rfl
theorem words_cell{h:Heap}{b k:Nat}{w:List UInt8}{l:List (List UInt8)}(hc:cellsAt h b 0 (l.length+1)=some (texts (w::l)))(hk:k<l.length):cell h b (k+1)=some (S l[k]):=by
 have:=(cell_in hc (i:=k+1) (by omega)).1
 rw[Nat.zero_add]at this
 rw[this]
 simp[texts,List.getElem?_eq_getElem hk]
theorem words_first{h:Heap}{b:Nat}{w:List UInt8}{l:List (List UInt8)}(hc:cellsAt h b 0 (l.length+1)=some (texts (w::l))):cell h b 0=some (S w):=by
 have:=(cell_in hc (i:=0) (by omega)).1
 rw[Nat.zero_add]at this
 rw[this]
 simp[texts]
theorem vi_buf{h0 h:Heap}{v:Value}{X:List Int}(x:Buf h0 h v 1 (ints X))(hl:X.length<=100000)(hx:∀x∈X,I64 x):Vi h v X:=Vi.rw x.rw (by rw[maxLen_eq];omega) hx
theorem numsW_64(l:List (List UInt8)):∀x∈numsW l,I64 x:=by
 intro x hx
 obtain⟨s,_,rfl⟩:=List.mem_map.1 hx
 exact rdDec_64 s
theorem c21(h:Heap)(hp:0<h.length)(v:Value)(J:Jrn)(wb:Nat)(w:List UInt8)(l:List (List UInt8))(hv:Vr h shJournal v J)(ok:okJ J=true)(hc:cellsAt h wb 0 (l.length+1)=some (texts (w::l)))(hl:∀x∈l,x.length<=1048576)(hn:l.length+1=sizeW w):ACall Gam 21 [v,sl wb 0 (l.length+1) 1] h λr h'=>ExeR h h' r (exeA J w l):=by
 have hv0:=hv
 have hs:=okJ_siz ok
 have l3:w=wSet->l.length=3:=λe=>by rw[e,show sizeW wSet=4 from by decide]at hn;omega
 have l2:w=wNew->l.length=2:=λe=>by rw[e,show sizeW wNew=3 from by decide]at hn;omega
 have l2b:w=wSearch∨w=wLink->l.length=2:=λe=>by
  have h1:sizeW wSearch=3:=by decide
  have h2:sizeW wLink=3:=by decide
  rcases e with e|e<;>rw[e]at hn<;>omega
 have l1:w=wColumn∨w=wPasses->l.length=1:=λe=>by
  have h1:sizeW wColumn=2:=by decide
  have h2:sizeW wPasses=2:=by decide
  rcases e with e|e<;>rw[e]at hn<;>omega
 have lr:w=wRead->l.length=1:=λe=>by rw[e,show sizeW wRead=2 from by decide]at hn;omega
 have l4:l.length<=3:=by
  have:sizeW w<=4:=by
   unfold sizeW
   (repeat' split)<;>omega
  omega
 obtain⟨A,eA⟩:∃A,A=exeA J w l:=⟨_,rfl⟩
 rw[<-eA]
 obtain⟨W,H,b1,o1,n1,z1,b2,o2,n2,z2,b3,o3,n3,z3,rfl,hpan⟩:=hv.jx
 have c0:=words_first hc
 obtain⟨ll,ell⟩:∃ll,ll=l.length:=⟨_,rfl⟩
 refine ACall_intro g21 rfl ?_
 unfold fn21
 rw[awp_seq,awp_reg]
 generalize hK:seqQ Gam _ _ 0=K
 simp(disch:=omega)
 subst hK
 simp only[seqQ_zero]
 rw[awp_seq,awp_reg]
 generalize hK:seqQ Gam _ _ 0=K
 simp(disch:=omega)[c0]
 subst hK
 simp only[seqQ_zero]
 rw[awp_seq]
 generalize hK:seqQ Gam _ _=K
 by_cases er:w=[114,101,97,100]
 ·have nl:=lr er
  have cw:=words_cell hc (k:=0) (by omega)
  rw[Nat.zero_add]at cw
  have sl0:=hl _ (List.getElem_mem (show 0<l.length by omega))
  have g0:l.getD 0 []=l[0]:=by rw[List.getD_eq_getElem?_getD,List.getElem?_eq_getElem (by omega)];rfl
  have eA0:=eA
  unfold exeA at eA0
  rw[if_pos (show w=wRead from er),g0]at eA0
  obtain⟨s,es⟩:∃s,s=l[0]:=⟨_,rfl⟩
  rw[<-es]at eA0 cw sl0
  have rok:=λe=>@read_ok s e
  simp(disch:=omega)[er,nl,cw]
  refine callW_of (c122 h hp s sl0) ?_
  rintro _ h1⟨g1,r0,rfl,o⟩
  try refine⟨λe=>(by first|exact g1|cases e),?_⟩
  have ov:=o.vr
  have ov0:=ov
  unfold readJ at rok eA0
  obtain⟨RA,eR⟩:∃RA,RA=readAns s:=⟨_,rfl⟩
  rw[<-eR]at rok eA0 ov ov0 ⊢
  obtain⟨W',H',b1',o1',n1',z1',rfl⟩:=ov.px
  cases q:RA.2 with
  |false=>
   rw[q,if_neg (by simp)]at eA0
   subst eA0
   simp(disch:=omega)
   subst hK
   simp(disch:=omega)[resOf,resAll,resOne,aField]
   exact⟨g1,_,_,rfl,hv0.grow g1,⟨_,_,_,_,rfl⟩,λe=>by simp at e⟩
  |true=>
   rw[q,if_pos rfl]at eA0
   have rok:=rok q
   obtain⟨RX,eX⟩:∃RX,RX=RA.1:=⟨_,rfl⟩
   rw[<-eX]at eA0 rok ov0
   obtain⟨RW,RH,rbr⟩:=RX
   obtain⟨s',es',w1,w2,ri⟩:=ov0.panel
   have e3:=es'
   injection e3 with e3
   simp at e3
   obtain⟨a1,a2,a3⟩:=e3
   subst a1;subst a2;subst a3
   have vj:Vr h1 shJournal (.agg #[I W',I H',sl b1' o1' n1' z1',sl 0 0 0 0,sl 0 0 0 0]) ((W',H',rbr),[],[]):=Vr.of_journal w1 w2 ri (Vr.of_trips (X:=[]) (.inr ⟨rfl,rfl⟩) (by simp) (by simp) (.inl rfl)) (Vr.of_trips (X:=[]) (.inr ⟨rfl,rfl⟩) (by simp) (by simp) (.inl rfl))
   subst eA0
   simp(disch:=omega)
   refine callW_of (c157k h1 (pos_of hp g1) _ _ vj rok) ?_
   rintro _ h2⟨g2,rfl⟩
   try refine⟨λe=>(by first|exact g2|cases e),?_⟩
   have G:=g1.trans g2
   simp(disch:=omega)[one_text]
   subst hK
   simp(disch:=omega)[resOf,resAll,resOne,aField]
   exact⟨G.trans ⟨_,rfl⟩,_,_,rfl,(vj.grow g2).grow ⟨_,rfl⟩,⟨_,_,_,_,rfl⟩,λ_=>Buf.single G⟩
 have eA0:=eA
 unfold exeA at eA0
 rw[if_neg (show ¬w=wRead from er)]at eA0
 simp(disch:=omega)[er]
 subst hK
 simp only[seqQ_zero]
 rw[awp_seq,awp_reg]
 generalize hK:seqQ Gam _ _ 0=K
 simp(disch:=omega)
 subst hK
 simp only[seqQ_zero]
 rw[awp_seq]
 generalize hP:seqQ Gam _ _=PP
 have cut:∀g:Heap,aSlice 3 g (sl wb 0 (l.length+1) 1) (some (I 1)) none none=some (sl wb 1 l.length 1,g):=λg=>by simp[aSlice,bound]
 simp(disch:=omega)[cut]
 have fin:∀(σ:Nat->Value) (h':Heap),Grows h h'->numOk l->Buf h h' (σ 11) 1 (ints (numsW l))->σ 2=.agg #[I W,I H,sl b1 o1 n1 z1,sl b2 o2 n2 z2,sl b3 o3 n3 z3]->σ 7=S w->σ 4=.agg #[I 0,I 0,sl 0 0 0 0,sl 0 0 0 0,sl 0 0 0 0]->PP 0 σ h':=by
  intro σ h' hg hno hb q2 q7 q4
  rw[if_pos hno]at eA0
  unfold runW at eA0
  have vn:Vi h' (σ 11) (numsW l):=vi_buf hb (by unfold numsW;rw[List.length_map];omega) (numsW_64 l)
  have nlen:(numsW l).length=l.length:=by simp[numsW]
  obtain⟨N,eN⟩:∃N,N=numsW l:=⟨_,rfl⟩
  rw[<-eN]at vn eA0 nlen
  clear hb
  obtain⟨nv,env⟩:∃nv,nv=σ 11:=⟨_,rfl⟩
  rw[<-env]at vn
  have vn0:=vn
  obtain⟨nb,no,nz,env2,_⟩:=vn0
  have q11:σ 11=nv:=env.symm
  clear env
  subst hP
  simp only[seqQ_zero]
  rw[awp_seq]
  generalize hQ:seqQ Gam _ _=Q
  have tail:¬stepW? w->∀τ:Nat->Value,τ 2=.agg #[I W,I H,sl b1 o1 n1 z1,sl b2 o2 n2 z2,sl b3 o3 n3 z3]->τ 7=S w->τ 11=nv->τ 4=.agg #[I 0,I 0,sl 0 0 0 0,sl 0 0 0 0,sl 0 0 0 0]->Q 0 τ h':=by
   intro hw τ t2 t7 t11 t4
   rw[if_neg hw]at eA0
   subst hQ
   simp only[seqQ_zero]
   have call:=c24 h' (pos_of hp hg) _ nv w N J (hv0.grow hg) ok vn (λe=>by rw[nlen];exact l2b e) (λe=>by rw[nlen];exact l1 e)
   obtain⟨TA,eT⟩:∃TA,TA=tellA J w N:=⟨_,rfl⟩
   rw[<-eT]at call eA0
   simp(disch:=omega)[t2,t7,t11,t4]
   refine callW_of call ?_
   rintro _ h2⟨g2,lv,rfl,hb⟩
   try refine⟨λe=>(by first|exact g2|cases e),?_⟩
   obtain⟨lb,rfl,_⟩:=hb.texts1
   simp(disch:=omega)[t2,t4]
   rw[eA0]
   simp(disch:=omega)[resOf,resAll,resOne,aField]
   exact⟨hg.trans g2,_,_,rfl,(hv0.grow hg).grow g2,⟨_,_,_,_,rfl⟩,λ_=>hb.base hg.le⟩
  rw[awp_seq,awp_reg]
  generalize hK:seqQ Gam _ _ 0=K
  simp(disch:=omega)[q7]
  subst hK
  simp only[seqQ_zero]
  rw[awp_block]
  rw[awp_seq]
  generalize hR:seqQ Gam _ _=R
  have yes:stepW? w->∀τ:Nat->Value,τ 63=B true->τ 2=.agg #[I W,I H,sl b1 o1 n1 z1,sl b2 o2 n2 z2,sl b3 o3 n3 z3]->τ 7=S w->τ 11=nv->τ 4=.agg #[I 0,I 0,sl 0 0 0 0,sl 0 0 0 0,sl 0 0 0 0]->R 0 τ h':=by
   intro hw τ t63 t2 t7 t11 t4
   rw[if_pos hw]at eA0
   unfold doneA at eA0
   have call:=c23 h' (pos_of hp hg) _ nv w N J (hv0.grow hg) hs vn (λe=>by rw[nlen];exact l3 e) (λe=>by rw[nlen];exact l2 e)
   have cok:=@cmd_ok J w N ok
   obtain⟨CA,eC⟩:∃CA,CA=cmdA J w N:=⟨_,rfl⟩
   rw[<-eC]at call eA0 cok
   subst hR
   simp(disch:=omega)[t63,t2,t7,t11,t4]
   refine callW_of call ?_
   rintro _ h2⟨g2,r0,rfl,ov⟩
   try refine⟨λe=>(by first|exact g2|cases e),?_⟩
   have ov0:=ov
   obtain⟨W',H',b1',o1',n1',z1',b2',o2',n2',z2',b3',o3',n3',z3',rfl,_⟩:=ov.jx
   have G2:=hg.trans g2
   by_cases qc:CA.2=0
   ·rw[if_pos qc]at eA0
    have cok:=cok qc
    subst eA0
    simp(disch:=omega)[qc,t2,t4]
    refine callW_of (c157k h2 (pos_of hp G2) _ _ ov0 cok) ?_
    rintro _ h3⟨g3,rfl⟩
    try refine⟨λe=>(by first|exact g3|cases e),?_⟩
    have G:=G2.trans g3
    subst hQ
    simp(disch:=omega)[one_text,t2,t4,resOf,resAll,resOne,aField]
    exact⟨G.trans ⟨_,rfl⟩,_,_,rfl,(ov0.grow g3).grow ⟨_,rfl⟩,⟨_,_,_,_,rfl⟩,λ_=>Buf.single G⟩
   ·rw[if_neg qc]at eA0
    subst eA0
    subst hQ
    simp(disch:=omega)[qc,t2,t4,resOf,resAll,resOne,aField]
    exact⟨G2,_,_,rfl,hv0.grow G2,⟨_,_,_,_,rfl⟩,λe=>absurd e qc⟩
  have nope:¬stepW? w->∀τ:Nat->Value,τ 63=B false->τ 2=.agg #[I W,I H,sl b1 o1 n1 z1,sl b2 o2 n2 z2,sl b3 o3 n3 z3]->τ 7=S w->τ 11=nv->τ 4=.agg #[I 0,I 0,sl 0 0 0 0,sl 0 0 0 0,sl 0 0 0 0]->R 0 τ h':=by
   intro hw τ t63 t2 t7 t11 t4
   subst hR
   simp(disch:=omega)[t63]
   exact tail hw _ t2 t7 t11 t4
  clear hR hQ tail
  by_cases f1:w=[110,101,119]
  ·simp(disch:=omega)[f1]
   exact yes (.inl f1) _ (by simp) (by simpa using q2) (by simpa [f1]using q7) (by simpa using q11) (by simpa using q4)
  by_cases f2:w=[115,101,116]
  ·simp(disch:=omega)[f2]
   exact yes (.inr (.inl f2)) _ (by simp) (by simpa using q2) (by simpa [f2]using q7) (by simpa using q11) (by simpa using q4)
  by_cases f3:w=[117,110,100,111]
  ·simp(disch:=omega)[f3]
   exact yes (.inr (.inr (.inl f3))) _ (by simp) (by simpa using q2) (by simpa [f3]using q7) (by simpa using q11) (by simpa using q4)
  by_cases f4:w=[114,101,100,111]
  ·simp(disch:=omega)[f4]
   exact yes (.inr (.inr (.inr (.inl f4)))) _ (by simp) (by simpa using q2) (by simpa [f4]using q7) (by simpa using q11) (by simpa using q4)
  by_cases f5:w=[115,113,117,97,115,104]
  ·simp(disch:=omega)[f5]
   exact yes (.inr (.inr (.inr (.inr (.inl f5))))) _ (by simp) (by simpa using q2) (by simpa [f5]using q7) (by simpa using q11) (by simpa using q4)
  by_cases f6:w=[115,104,111,119]
  ·simp(disch:=omega)[f6]
   exact yes (.inr (.inr (.inr (.inr (.inr f6))))) _ (by simp) (by simpa using q2) (by simpa [f6]using q7) (by simpa using q11) (by simpa using q4)
  simp(disch:=omega)[f1,f2,f3,f4,f5,f6]
  refine nope ?_ _ (by simp) (by simpa using q2) (by simpa using q7) (by simpa using q11) (by simpa using q4)
  rintro(e|e|e|e|e|e)
  ·exact f1 e
  ·exact f2 e
  ·exact f3 e
  ·exact f4 e
  ·exact f5 e
  ·exact f6 e
 have bad:∀(σ:Nat->Value) (h':Heap),Grows h h'->¬numOk l->σ 4=.agg #[I W,I H,sl b1 o1 n1 z1,sl b2 o2 n2 z2,sl b3 o3 n3 z3]->σ 5=sl 0 0 0 0->σ 6=I 7->PP 1 σ h':=by
  intro σ h' hg hno q4 q5 q6
  rw[if_neg hno]at eA0
  subst hP
  rw[eA0]
  simp(disch:=omega)[q4,q5,q6,resOf,resAll,resOne,aField]
  exact⟨hg,_,_,rfl,hv0.grow hg,⟨_,_,_,_,rfl⟩,λe=>by simp at e⟩
 clear hP
 have b0:∀(σ:Nat->Value) (h':Heap),PP 0 σ h'->blockQ 0 PP 2 σ h':=by
  intro σ h' x;rw[blockQ_eq,if_pos rfl];exact x
 have b1':∀(σ:Nat->Value) (h':Heap),PP 1 σ h'->blockQ 0 PP 1 σ h':=by
  intro σ h' x;rw[blockQ_eq,if_neg (by omega)];exact x
 generalize blockQ 0 PP=B0 at b0 b1' ⊢
 refine awp_loop (λk σ h'=>k<=l.length∧Grows h h'∧numOk (l.take k)∧Buf h h' (σ 11) 1 (ints (numsW (l.take k)))∧σ 2=.agg #[I W,I H,sl b1 o1 n1 z1,sl b2 o2 n2 z2,sl b3 o3 n3 z3]∧σ 7=S w∧σ 4=.agg #[I 0,I 0,sl 0 0 0 0,sl 0 0 0 0,sl 0 0 0 0]∧σ 43=sl wb 1 l.length 1∧σ 44=I l.length∧σ 45=I k) (λk=>l.length-k) 0 ?_ ?_
 ·exact⟨by omega,Grows.refl _,by simp[numOk],by simpa [numsW,ints]using Buf.nil,by simp,by simp,by simp,by simp,by simp,by simp⟩
 rintro k σ h'⟨hk,hg,hno,hb,q2,q7,q4,q43,q44,q45⟩
 simp(disch:=omega)[q44,q45]
 refine fork_dec (λhlt=>?_) (λhge=>?_)
 ·have k1:k<l.length:=by omega
  have cw:=(hg.cell (words_cell hc k1))
  rw[Nat.add_comm]at cw
  have hl1:=hl _ (List.getElem_mem k1)
  have nt:=numsW_take k1
  have no2:(rdDec l[k]).2=true->numOk (l.take (k+1)):=by
   intro e x hx
   rw[List.take_succ_eq_append_getElem k1]at hx
   rcases List.mem_append.1 hx with hx|hx
   ·exact hno x hx
   ·rw[List.mem_singleton.1 hx];exact e
  have nob:(rdDec l[k]).2=false->¬numOk l:=by
   intro e q
   have:=q _ (List.getElem_mem k1)
   rw[e]at this;cases this
  have c118':=c118 l[k] hl1 h' (pos_of hp hg)
  obtain⟨D,eD⟩:∃D,D=rdDec l[k]:=⟨_,rfl⟩
  rw[<-eD]at c118' nt no2 nob
  obtain⟨x,ex⟩:∃x,x=l[k]:=⟨_,rfl⟩
  rw[<-ex]at cw c118'
  simp(disch:=omega)[q43,q45,k1,cw]
  refine callW_of c118' ?_
  rintro _ h2⟨g2,rfl⟩
  try refine⟨λe=>(by first|exact g2|cases e),?_⟩
  have G:=hg.trans g2
  cases qd:D.2 with
  |false=>
   simp(disch:=omega)[q2,q4,qd]
   exact b1' _ _ (bad _ h2 G (nob qd) (by simp) (by simp) (by simp))
  |true=>
   have no2:=no2 qd
   have wk:IntKind.i64.wrap ((k:Int)+1)=((k+1:Nat):Int):=by rw[wrap64 (by omega) (by omega)];omega
   simp(disch:=omega)[qd]
   refine app_int hp G (by unfold numsW;rw[List.length_map,List.length_take];omega) (hb.grow g2) λv3 h3 g3 b3=>?_
   rw[<-nt]at b3
   try simp(disch:=omega)[q45,wk]
   refine⟨k+1,?_,by omega⟩
   and_intros<;>first|assumption|omega|rfl
 ·have:k=l.length:=by omega
  subst this
  rw[List.take_length]at hno hb
  try simp(disch:=omega)
  refine b0 _ _ (fin _ h' hg hno (by simpa using hb) (by simpa using q2) (by simpa using q7) (by simpa using q4))
theorem Own5.vo{h h':Heap}{r:Value}{X:Jrn}(x:Own5 h h' r X)(wf:Jwf X):Vo h' h.length h'.length shJournal r X:=by
 obtain⟨⟨W,H,br⟩,p,f⟩:=X
 obtain⟨g,s,sp,sf,m1,m2,rfl,l1,l2,l3,r1,r2,r3⟩:=x
 exact Vo.three wf.w wf.h r1 (r2.trips (by rw[maxLen_eq];have:=wf.lp;omega) wf.p) (r3.trips (by rw[maxLen_eq];have:=wf.lf;omega) wf.f) l1 l2 l3
def errT(c:Int):List UInt8:=[101,114,114,111,114,32]++cdName c
def word0(s:List UInt8):List UInt8:=(splitS 32 s).getD 0 []
/-- A line of the console. -/
noncomputable def deskA(J:Jrn)(s:List UInt8):Jrn×List (List UInt8)×Int:=
 if okJ J=true then(if sizeW (word0 s)=(splitS 32 s).length then(if(exeA J (word0 s) (splitS 32 s).tail).2.2=0 then((exeA J (word0 s) (splitS 32 s).tail).1,(exeA J (word0 s) (splitS 32 s).tail).2.1,0)
  else(J,[errT (exeA J (word0 s) (splitS 32 s).tail).2.2],0))else(noJ,[],7))else(noJ,[],1)
/-- What DeskCommand gives back. -/
def DeskR(h h':Heap)(r:Value)(A:Jrn×List (List UInt8)×Int):Prop:=Grows h h'∧∃r0 r1 l1 l2 k1 k2,r=.tuple #[r0,r1,I A.2.2]∧Vo h' l1 l2 shJournal r0 A.1∧Vo h' k1 k2 shTexts r1 A.2.1∧(h.length<=l1∧l2<=h'.length)∧(h.length<=k1∧k2<=h'.length)∧(l2<=k1∨k2<=l1)
theorem errT_len(c:Int):(errT c).length<=20:=by
 unfold errT cdName
 split
 ·rename_i h
  have:c=0∨c=1∨c=2∨c=3∨c=4∨c=5∨c=6∨c=7∨c=8∨c=9∨c=10:=by omega
  rcases this with rfl|rfl|rfl|rfl|rfl|rfl|rfl|rfl|rfl|rfl|rfl<;>decide
 ·simp
theorem exe_bd{J:Jrn}{w:List UInt8}{l:List (List UInt8)}(ok:okJ J=true)(h:(exeA J w l).2.2=0):BdL (exeA J w l).2.1:=by
 have hk:=exe_ok (w:=w) (l:=l) ok
 unfold exeA at h hk ⊢
 split at h
 ·rename_i e
  rw[if_pos e]at hk ⊢
  split at h
  ·rename_i e2
   rw[if_pos e2]at hk ⊢
   exact BdL.one (Nat.le_trans (desk_len hk) (by omega))
  ·simp at h
 ·rename_i e
  rw[if_neg e]at hk ⊢
  split at h
  ·rename_i e2
   rw[if_pos e2]at hk ⊢
   unfold runW at h hk ⊢
   split at h
   ·rename_i e3
    rw[if_pos e3]at hk ⊢
    unfold doneA at h hk ⊢
    split at h
    ·rename_i e4
     rw[if_pos e4]at hk ⊢
     exact BdL.one (Nat.le_trans (desk_len hk) (by omega))
    ·rename_i e4
     exact absurd h e4
   ·rename_i e3
    rw[if_neg e3]
    exact tell_bd w _ ok
  ·simp at h
theorem desk_bd{J:Jrn}{s:List UInt8}(h:(deskA J s).2.2=0):BdL (deskA J s).2.1∧okJ (deskA J s).1=true:=by
 unfold deskA at h ⊢
 split at h
 ·rename_i e
  rw[if_pos e]
  split at h
  ·rename_i e2
   rw[if_pos e2]
   split at h
   ·rename_i e3
    rw[if_pos e3]
    exact⟨exe_bd e e3,exe_ok e⟩
   ·rename_i e3
    rw[if_neg e3]
    exact⟨BdL.one (by have:=errT_len (exeA J (word0 s) (splitS 32 s).tail).2.2;omega),e⟩
  ·simp at h
 ·simp at h
theorem BdL.vo{h0 h:Heap}{v:Value}{L:List (List UInt8)}(x:BdL L)(b:Buf h0 h v 1 (texts L)):Vo h h0.length h.length shTexts v L:=b.vo_texts (by rw[maxLen_eq];have:=x.2.1;omega) (λl hl=>by rw[maxLen_eq];have:=x.2.2 l hl;omega)
theorem split_cons(s:List UInt8):splitS 32 s=word0 s::(splitS 32 s).tail:=by
 have:=(splitG_len 32 s []).1
 unfold word0
 unfold splitS
 cases h:splitG 32 [] s with
 |nil=>rw[h]at this;simp at this
 |cons a r=>rfl
theorem c76(h:Heap)(hp:0<h.length)(v:Value)(J:Jrn)(s:List UInt8)(hv:Vr h shJournal v J)(hs:siz shJournal J<=1048576)(hl:s.length<=1048576):ACall Gam 76 [v,S s] h λr h'=>DeskR h h' r (deskA J s):=by
 have hv0:=hv
 have wf:=wf_vr hv hs
 have ebd:=λe=>@exe_bd J (word0 s) (splitS 32 s).tail e
 obtain⟨A,eA⟩:∃A,A=deskA J s:=⟨_,rfl⟩
 have eA0:=eA
 unfold deskA at eA0
 rw[<-eA]
 have hsc:=split_cons s
 have hsum:=splitG_sum 32 s []
 have c21':=λh hp v wb hv ok hc hl hn=>c21 h hp v J wb (word0 s) (splitS 32 s).tail hv ok hc hl hn
 have spl:=split_ok (.inl rfl) s 32 hl
 have okE0:okJ J=true->okJ (exeA J (word0 s) (splitS 32 s).tail).1=true:=exe_ok
 obtain⟨E,eE⟩:∃E,E=exeA J (word0 s) (splitS 32 s).tail:=⟨_,rfl⟩
 rw[<-eE]at eA0 ebd c21' okE0
 obtain⟨w,ew⟩:∃w,w=word0 s:=⟨_,rfl⟩
 obtain⟨l,el⟩:∃l,l=(splitS 32 s).tail:=⟨_,rfl⟩
 have hmem:∀x∈l,x.length<=1048576:=by
  intro x hx
  have h1:x∈splitG 32 [] s:=by
   show x∈splitS 32 s
   rw[hsc,<-el]
   exact List.mem_cons_of_mem _ hx
  have:=hsum x h1
  simp at this;omega
 rw[<-ew,<-el]at hsc c21'
 rw[hsc]at spl
 rw[hsc,<-ew]at eA0
 clear ew el eA eE
 obtain⟨W,H,b1,o1,n1,z1,b2,o2,n2,z2,b3,o3,n3,z3,rfl,hpan⟩:=hv.jx
 refine ACall_intro g76 rfl ?_
 unfold fn76
 rw[awp_seq,awp_reg]
 generalize hK:seqQ Gam _ _ 0=K
 simp(disch:=omega)
 subst hK
 simp only[seqQ_zero]
 rw[awp_seq]
 generalize hK:seqQ Gam _ _=K
 simp(disch:=omega)
 refine callW_of (c138 h hp _ _ hv0 hs) ?_
 rintro _ h1⟨g1,rfl⟩
 try refine⟨λe=>(by first|exact g1|cases e),?_⟩
 cases q:okJ J with
 |false=>
  rw[q,if_neg (by simp)]at eA0
  subst eA0
  simp(disch:=omega)
  subst hK
  simp(disch:=omega)[resOf,resAll,resOne,aField]
  exact⟨g1,_,_,h.length,h.length,h.length,h.length,rfl,Vo.no_journal,Vo.no_texts,⟨Nat.le_refl _,g1.le⟩,⟨Nat.le_refl _,g1.le⟩,.inl (Nat.le_refl _)⟩
 |true=>
 rw[q,if_pos rfl]at eA0
 simp(disch:=omega)
 subst hK
 simp only[seqQ_zero]
 rw[awp_seq,awp_reg]
 generalize hK:seqQ Gam _ _ 0=K
 simp(disch:=omega)
 refine callW_of (spl h1 (pos_of hp g1)) ?_
 rintro wv h2⟨g2,wbuf⟩
 try refine⟨λe=>(by first|exact g2|cases e),?_⟩
 have g12:=g1.trans g2
 obtain⟨wb,rfl,wc⟩:=wbuf.texts1
 have wc:=wc.resolve_left (by simp)
 simp only[List.length_cons]at wc eA0 ⊢
 have cw:=words_first wc
 try simp(disch:=omega)
 subst hK
 simp only[seqQ_zero]
 rw[awp_seq]
 generalize hK0:seqQ Gam _ _=K0
 rw[awp_seq,awp_reg]
 generalize hK:seqQ Gam _ _ 0=K
 simp(disch:=omega)[cw]
 refine callW_of (c202 w h2) ?_
 rintro _ h2⟨rfl,rfl⟩
 try refine⟨λe=>(by cases e),?_⟩
 try simp(disch:=omega)
 subst hK
 simp only[seqQ_zero]
 obtain⟨z,ez⟩:∃z,z=sizeW w:=⟨_,rfl⟩
 rw[<-ez]at eA0 c21' ⊢
 by_cases qz:z=l.length+1
 case neg=>
  rw[if_neg qz]at eA0
  subst eA0
  have qz':¬(z:Int)=(l.length:Int)+1:=by omega
  by_cases q0:z=0
  ·simp(disch:=omega)[q0]
   subst hK0
   simp(disch:=omega)[resOf,resAll,resOne,aField]
   exact⟨g12,_,_,h.length,h.length,h.length,h.length,rfl,Vo.no_journal,Vo.no_texts,⟨Nat.le_refl _,g12.le⟩,⟨Nat.le_refl _,g12.le⟩,.inl (Nat.le_refl _)⟩
  ·simp(disch:=omega)[q0,qz,qz']
   subst hK0
   simp(disch:=omega)[resOf,resAll,resOne,aField]
   exact⟨g12,_,_,h.length,h.length,h.length,h.length,rfl,Vo.no_journal,Vo.no_texts,⟨Nat.le_refl _,g12.le⟩,⟨Nat.le_refl _,g12.le⟩,.inl (Nat.le_refl _)⟩
 rw[if_pos qz]at eA0
 have q0:¬z=0:=by omega
 have q0':¬(l.length:Int)+1=0:=by omega
 have call:=c21' h2 (pos_of hp g12) _ wb (hv0.grow g12) q wc hmem qz.symm
 have ebd:=ebd q
 simp(disch:=omega)[qz,q0,q0']
 subst hK0
 simp only[seqQ_zero]
 rw[awp_seq,awp_reg]
 generalize hK:seqQ Gam _ _ 0=K
 simp(disch:=omega)
 refine callW_of call ?_
 rintro _ h3⟨g3,nv,lv,rfl,vn,⟨lb,lo,ln,lz,rfl⟩,hb⟩
 try refine⟨λe=>(by first|exact g3|cases e),?_⟩
 have g13:=g12.trans g3
 have vn0:=vn
 obtain⟨W',H',b1',o1',n1',z1',b2',o2',n2',z2',b3',o3',n3',z3',rfl,_⟩:=vn.jx
 simp(disch:=omega)
 subst hK
 simp only[seqQ_zero]
 rw[awp_seq]
 generalize hK:seqQ Gam _ _=K
 by_cases qc:E.2.2=0
 ·rw[if_pos qc]at eA0
  have hb:=hb qc
  have bd:=ebd qc
  have okE:siz shJournal E.1<=1048576:=okJ_siz (okE0 q)
  have wfE:=wf_vr vn0 okE
  subst eA0
  simp(disch:=omega)[qc]
  subst hK
  simp(disch:=omega)
  refine callW_of (c148 h3 (pos_of hp g13) _ _ vn0 okE) ?_
  rintro r0 h4 x5
  have g4:=x5.1
  try refine⟨λe=>(by first|exact g4|cases e),?_⟩
  have vo:=x5.vo wfE
  have vo2:=(bd.vo (hb.base g12.le)).grow g4
  have vor:=vo.vr
  obtain⟨W',H',b1',o1',n1',z1',b2',o2',n2',z2',b3',o3',n3',z3',rfl,_⟩:=vor.jx
  simp(disch:=omega)[resOf,resAll,resOne,aField]
  exact⟨g13.trans g4,_,_,_,_,_,_,rfl,vo,vo2,⟨g13.le,Nat.le_refl _⟩,⟨Nat.le_refl _,g4.le⟩,.inr (Nat.le_refl _)⟩
 ·rw[if_neg qc]at eA0
  obtain⟨c,ec⟩:∃c,c=E.2.2:=⟨_,rfl⟩
  have c67':=λh=>c67 c h
  have lenT:=errT_len c
  rw[<-ec]at eA0 qc ⊢
  have et:errT c=[101,114,114,111,114,32]++cdName c:=rfl
  obtain⟨N,eN⟩:∃N,N=cdName c:=⟨_,rfl⟩
  rw[<-eN]at c67' et
  rw[et]at eA0 lenT
  subst eA0
  simp only[List.length_append,List.length_cons,List.length_nil]at lenT
  have f1:N.length+6<=4611686018427387904:=by omega
  have f2:6+N.length<=4611686018427387904:=by omega
  have f3:N.length<=4611686018427387898:=by omega
  simp(disch:=omega)[qc]
  refine callW_of (c148 h3 (pos_of hp g13) _ _ (hv0.grow g13) hs) ?_
  rintro r0 h4 x5
  have g4:=x5.1
  try refine⟨λe=>(by first|exact g4|cases e),?_⟩
  have g14:=g13.trans g4
  have vo:=x5.vo wf
  have vor:=vo.vr
  obtain⟨W',H',b1',o1',n1',z1',b2',o2',n2',z2',b3',o3',n3',z3',rfl,_⟩:=vor.jx
  simp(disch:=omega)
  refine callW_of (c67' h4) ?_
  rintro _ h4⟨rfl,rfl⟩
  try refine⟨λe=>(by cases e),?_⟩
  simp(disch:=omega)[f1,f2,f3,one_text]
  subst hK
  simp(disch:=omega)[resOf,resAll,resOne,aField]
  have bs:=Buf.single (t:=[101,114,114,111,114,32]++N) (Grows.refl h4)
  have vo2:=(BdL.one (l:=[101,114,114,111,114,32]++N) (by simp;omega)).vo bs
  refine⟨g14.trans ⟨_,rfl⟩,_,_,_,_,_,_,rfl,vo.grow ⟨_,rfl⟩,?_,⟨g13.le,by simp⟩,⟨g14.le,Nat.le_refl _⟩,.inl (Nat.le_refl _)⟩
  simpa using vo2
def sayL(L:List (List UInt8)):List UInt8:=(L.map λl=>l++[10]).flatten
noncomputable def runA:Nat->Jrn->List (List UInt8)->List UInt8
 |_,_,[]=>[]
 |0,_,_::_=>errT 5++[10]
 |n+1,J,s::r=>if(deskA J s).2.2=0 then sayL (deskA J s).2.1++runA n (deskA J s).1 r else[63,10]++runA n J r
def cutT(s:List UInt8):List UInt8:=if s.getLast?=some 10 then s.dropLast else s
def linesT(s:List UInt8):List (List UInt8):=if s=[]then[]else splitS 10 (cutT s)
noncomputable def runTxt(s:List UInt8):List UInt8:=runA 60 newDesk (linesT s)
theorem sayL_snoc(L:List (List UInt8))(l:List UInt8):sayL (L++[l])=sayL L++(l++[10]):=by simp[sayL]
theorem sayL_len{L:List (List UInt8)}(h:∀l∈L,l.length<=300000):(sayL L).length<=300001*L.length:=by
 induction L with
 |nil=>simp[sayL]
 |cons a r ih=>
  have h1:=h a (by simp)
  have h2:=ih λl hl=>h l (by simp[hl])
  have e:sayL (a::r)=(a++[10])++sayL r:=by simp[sayL]
  rw[e]
  simp only[List.length_append,List.length_cons,List.length_nil]
  omega
theorem cutT_len(s:List UInt8):(cutT s).length<=s.length:=by unfold cutT;split<;>simp
/-- What is left of a text to run. -/
def LeftR(O:List UInt8)(n:Nat)(J:Jrn)(L:List (List UInt8))(R:List UInt8):Prop:=O++runA n J L=R
theorem LeftR.done{O:List UInt8}{n:Nat}{J:Jrn}{R:List UInt8}(x:LeftR O n J [] R):O=R:=by
 unfold LeftR at x
 cases n<;>simpa [runA]using x
theorem LeftR.full{O:List UInt8}{J:Jrn}{s:List UInt8}{r:List (List UInt8)}{R:List UInt8}(x:LeftR O 0 J (s::r) R):O++(errT 5++[10])=R:=x
theorem LeftR.step{O:List UInt8}{n:Nat}{J:Jrn}{s:List UInt8}{r:List (List UInt8)}{R:List UInt8}(x:LeftR O (n+1) J (s::r) R)(e:(deskA J s).2.2=0):LeftR (O++sayL (deskA J s).2.1) n (deskA J s).1 r R:=by
 unfold LeftR at x ⊢
 rw[runA,if_pos e]at x
 rw[List.append_assoc];exact x
theorem LeftR.skip{O:List UInt8}{n:Nat}{J:Jrn}{s:List UInt8}{r:List (List UInt8)}{R:List UInt8}(x:LeftR O (n+1) J (s::r) R)(e:¬(deskA J s).2.2=0):LeftR (O++[63,10]) n J r R:=by
 unfold LeftR at x ⊢
 rw[runA,if_neg e]at x
 rw[List.append_assoc];exact x
theorem newDesk_ok:okJ newDesk=true:=okJ_iff.2 ⟨okP_iff.2 (newP_ok (by omega) (by omega)),by simp[newDesk],⟨_,rfl⟩,_,rfl⟩
/-- The state while a text runs. -/
def RunS(h:Heap)(v w:Value)(i:Nat)(L:List (List UInt8))(A:List UInt8):Prop:=∃J O,Vr h shJournal v J∧okJ J=true∧w=S O∧O.length<=i*20000000∧LeftR O (60-i) J (L.drop i) A
def SayS(w:Value)(O:List UInt8)(Ls:List (List UInt8))(m:Nat):Prop:=w=S (O++sayL (Ls.take m))
theorem texts_cellV{h:Heap}{lo hi:Nat}{v:Value}{X:List (List UInt8)}(x:Vo h lo hi shTexts v X):∃b z,v=sl b 0 X.length z∧∀k (hk:k<X.length),cell h b k=some (S X[k]):=by
 obtain⟨b,z,e,_,_,_,hc⟩:=x.texts
 refine⟨b,z,e,λk hk=>?_⟩
 rcases hc with hc|hc
 ·subst hc;simp at hk
 ·exact cell_of hc.1 (by simp[Am.texts,List.getElem?_eq_getElem hk])
theorem c126(h:Heap)(hp:0<h.length)(s:List UInt8)(hl:s.length<=1048576):ACall Gam 126 [S s] h λr h'=>Grows h h'∧r=S (runTxt s):=by
 obtain⟨A,eA⟩:∃A,A=runTxt s:=⟨_,rfl⟩
 have eA0:=eA
 unfold runTxt linesT at eA0
 rw[<-eA]
 refine ACall_intro g126 rfl ?_
 unfold fn126
 rw[awp_seq,awp_reg]
 generalize hK:seqQ Gam _ _ 0=K
 simp(disch:=omega)
 subst hK
 simp only[seqQ_zero]
 rw[awp_seq]
 generalize hK:seqQ Gam _ _=K
 by_cases e0:s=[]
 ·rw[if_pos e0]at eA0
  have:A=[]:=by rw[eA0];rfl
  subst this
  simp(disch:=omega)[e0]
  subst hK
  simp(disch:=omega)
  exact Grows.refl _
 rw[if_neg e0]at eA0
 simp(disch:=omega)[e0]
 subst hK
 simp only[seqQ_zero]
 rw[awp_seq]
 generalize hK:seqQ Gam _ _=K
 have cutl:=cutT_len s
 obtain⟨ct,ect⟩:∃ct,ct=cutT s:=⟨_,rfl⟩
 rw[<-ect]at eA0 cutl
 have post:∀σ:Nat->Value,σ 0=S ct->K 0 σ h:=by
  intro σ q0
  subst hK
  simp only[seqQ_zero]
  rw[awp_seq,awp_reg]
  generalize hK:seqQ Gam _ _ 0=K
  simp(disch:=omega)[q0]
  refine callW_of (c100 h hp) ?_
  rintro dv h1⟨g1,od,sd⟩
  try refine⟨λe=>(by first|exact g1|cases e),?_⟩
  have vd:=od.vr
  have vd0:=vd
  obtain⟨W',H',b1',o1',n1',z1',b2',o2',n2',z2',b3',o3',n3',z3',rfl,_⟩:=vd.jx
  simp(disch:=omega)
  subst hK
  simp only[seqQ_zero]
  rw[awp_seq]
  generalize hP:seqQ Gam _ _=PP
  rw[awp_seq,awp_reg]
  generalize hK:seqQ Gam _ _ 0=K
  simp(disch:=omega)[q0]
  refine callW_of (split_ok (.inl rfl) ct 10 (by omega) h1 (pos_of hp g1)) ?_
  rintro wv h2⟨g2,wbuf⟩
  try refine⟨λe=>(by first|exact g2|cases e),?_⟩
  have g12:=g1.trans g2
  obtain⟨wb,rfl,wc⟩:=wbuf.texts1
  have hsum:=splitG_sum 10 ct []
  obtain⟨L,eL⟩:∃L,L=splitS 10 ct:=⟨_,rfl⟩
  have hmem:∀x∈L,x.length<=1048576:=by
   intro x hx
   rw[eL]at hx
   have:=hsum x hx
   simp at this;omega
  rw[<-eL]at wc eA0 ⊢
  have LR0:LeftR [] 60 newDesk L A:=by unfold LeftR;rw[eA0];rfl
  clear eA0 eL hsum
  simp(disch:=omega)
  subst hK
  simp only[seqQ_zero]
  have full:∀(τ:Nat->Value) (h':Heap),Grows h h'->τ 2=S A->PP 1 τ h':=by
   intro τ h' hg t2
   subst hP
   simp(disch:=omega)[t2]
   exact hg
  have fin:∀(τ:Nat->Value) (h':Heap),Grows h h'->τ 4=S A->PP 0 τ h':=by
   intro τ h' hg t4
   subst hP
   simp(disch:=omega)[t4]
   exact hg
  clear hP
  simp(disch:=omega)
  have b0:∀(σ:Nat->Value) (h':Heap),PP 0 σ h'->blockQ 0 PP 2 σ h':=by
   intro σ h' x;rw[blockQ_eq,if_pos rfl];exact x
  have b1:∀(σ:Nat->Value) (h':Heap),PP 1 σ h'->blockQ 0 PP 1 σ h':=by
   intro σ h' x;rw[blockQ_eq,if_neg (by omega)];exact x
  generalize blockQ 0 PP=B0 at b0 b1 ⊢
  refine awp_loop (λi τ h'=>i<=L.length∧i<=60∧Grows h2 h'∧RunS h' (τ 3) (τ 4) i L A∧τ 27=sl wb 0 L.length 1∧τ 28=I L.length∧τ 29=I i) (λi=>L.length-i) 0 ?_ ?_
  ·exact⟨by omega,by omega,Grows.refl _,⟨newDesk,[],by simpa using vd0.grow g2,newDesk_ok,by simp,by simp,by simpa using LR0⟩,by simp,by simp,by simp⟩
  rintro i τ h'⟨hi,hi6,hg2,⟨J,O,vJ,okj,t4,lO,LR⟩,t27,t28,t29⟩
  have hg:=g12.trans hg2
  simp(disch:=omega)[t28,t29]
  refine fork_dec (λhlt=>?_) (λhge=>?_)
  ·have i1:i<L.length:=by omega
   have cw:cell h' wb i=some (S L[i]):=by
    have wc:=wc.resolve_left (by intro e;rw[e]at i1;simp at i1)
    have:=(cell_in (hg2.cellsAt wc) (i:=i) (by omega)).1
    rw[Nat.zero_add]at this
    rw[this]
    simp[texts,List.getElem?_eq_getElem i1]
   have ml:=hmem _ (List.getElem_mem i1)
   rw[List.drop_eq_getElem_cons i1]at LR
   obtain⟨s1,es1⟩:∃s1,s1=L[i]:=⟨_,rfl⟩
   rw[<-es1]at cw ml LR
   have vJ0:=vJ
   obtain⟨W2,H2,y1,y2,y3,y4,y5,y6,y7,y8,y9,y10,y11,y12,t3,_⟩:=vJ.jx
   rw[t3]at vJ0
   by_cases q60:i=60
   ·subst q60
    have e5:errT 5++[10]=[101,114,114,111,114,32,102,117,108,108,10]:=by decide
    have ef:=LeftR.full LR
    rw[e5]at ef
    have f1:O.length<=4611686018427387893:=by omega
    have i1':(60:Int)<L.length:=by omega
    have toN:((60:Nat):Int)=60:=rfl
    simp(disch:=omega)[t27,t29,i1,i1',cw,t4,f1]
    refine b1 _ _ (full _ h' hg ?_)
    rw[<-ef]
    try simp
   have q60':¬(i:Int)=60:=by omega
   rw[show 60-i=(60-(i+1))+1 by omega]at LR
   have call:=c76 h' (pos_of hp hg) _ J s1 vJ0 (okJ_siz okj) ml
   have dbd:=@desk_bd J s1
   have LRs:=LR.step
   have LRk:=LR.skip
   obtain⟨D,eD⟩:∃D,D=deskA J s1:=⟨_,rfl⟩
   rw[<-eD]at call dbd LRs LRk
   have wk:IntKind.i64.wrap ((i:Int)+1)=((i+1:Nat):Int):=by rw[wrap64 (by omega) (by omega)];omega
   simp(disch:=omega)[t3,t27,t29,i1,cw,q60,q60']
   refine callW_of call ?_
   rintro _ h3⟨g3,r0,r1,l1,l2,k1,k2,rfl,vo0,vo1,_⟩
   try refine⟨λe=>(by first|exact g3|cases e),?_⟩
   have G3:=hg.trans g3
   have vr0:=vo0.vr
   have vr00:=vr0
   obtain⟨W',H',b1',o1',n1',z1',b2',o2',n2',z2',b3',o3',n3',z3',rfl,_⟩:=vr0.jx
   obtain⟨tb,tz,rfl,tc⟩:=texts_cellV vo1
   by_cases qc:D.2.2=0
   ·obtain⟨bd,okD⟩:=dbd qc
    have LRs:=LRs qc
    have bl:=bd.2.1
    have b3:=bd.2.2
    simp(disch:=omega)[qc,t4,t3]
    obtain⟨Ls,eLs⟩:∃Ls,Ls=D.2.1:=⟨_,rfl⟩
    rw[<-eLs]at LRs bl b3 tc ⊢
    refine awp_loop (λm ρ hh=>hh=h3∧m<=Ls.length∧SayS (ρ 4) O Ls m∧ρ 3=.agg #[I W',I H',sl b1' o1' n1' z1',sl b2' o2' n2' z2',sl b3' o3' n3' z3']∧ρ 27=sl wb 0 L.length 1∧ρ 28=I L.length∧ρ 29=I i∧ρ 50=sl tb 0 Ls.length tz∧ρ 51=I Ls.length∧ρ 52=I m) (λm=>Ls.length-m) 0 ?_ ?_
    ·exact⟨rfl,by omega,by simpa [SayS,sayL]using t4,by simp,by simpa using t27,by simpa using t28,by simpa using t29,by simp,by simp,by simp⟩
    rintro m ρ hh⟨rfl,hm,p4,p3,p27,p28,p29,p50,p51,p52⟩
    simp(disch:=omega)[p51,p52]
    refine fork_dec (λhlt=>?_) (λhge=>?_)
    ·have m1:m<Ls.length:=by omega
     have ct1:=tc m m1
     have lm:=b3 _ (List.getElem_mem m1)
     have ls:=sayL_len (L:=Ls.take m) (λl hl=>b3 l (List.mem_of_mem_take hl))
     rw[List.length_take]at ls
     have sn:=sayL_snoc (Ls.take m) Ls[m]
     have tk:Ls.take (m+1)=Ls.take m++[Ls[m]]:=List.take_succ_eq_append_getElem m1
     unfold SayS at p4
     obtain⟨T,eT⟩:∃T,T=sayL (Ls.take m):=⟨_,rfl⟩
     obtain⟨x,ex⟩:∃x,x=Ls[m]:=⟨_,rfl⟩
     rw[<-eT]at p4 ls sn
     rw[<-ex]at ct1 lm sn tk
     have wm:IntKind.i64.wrap ((m:Int)+1)=((m+1:Nat):Int):=by rw[wrap64 (by omega) (by omega)];omega
     have f1:x.length<=4611686018427387903:=by omega
     have f2:O.length+T.length+(x.length+1)<=4611686018427387904:=by omega
     have f3:O.length+(T.length+(x.length+1))<=4611686018427387904:=by omega
     have fin4:SayS (S (O++(T++(x++[10])))) O Ls (m+1):=by unfold SayS;rw[tk,sn]
     simp(disch:=omega)[p4,p50,p52,m1,ct1,f1,f2,f3]
     try simp(disch:=omega)[wm]
     refine⟨m+1,?_,by omega⟩
     and_intros<;>first|assumption|omega|rfl
    ·have:m=Ls.length:=by omega
     subst this
     have ls:=sayL_len (L:=Ls) b3
     unfold SayS at p4
     rw[List.take_length]at p4
     simp(disch:=omega)[p29,wk]
     refine⟨i+1,⟨by omega,by omega,hg2.trans g3,?_,p27,p28,by omega⟩,by omega⟩
     rw[p3]
     exact⟨D.1,_,vr00,okD,p4,by rw[List.length_append];omega,LRs⟩
   ·have LRk:=LRk qc
    have f1:O.length<=4611686018427387902:=by omega
    simp(disch:=omega)[qc,t4,f1,t29]
    try simp(disch:=omega)[wk]
    refine⟨i+1,⟨by omega,by omega,hg2.trans g3,?_,t27,t28,by omega⟩,by omega⟩
    first
     |exact⟨J,_,vJ.grow g3,okj,by simp,by rw[List.length_append];simp;omega,LRk⟩
     |(rw[t3];exact⟨J,_,vJ0.grow g3,okj,by simp,by rw[List.length_append];simp;omega,LRk⟩)
  ·have:i=L.length:=by omega
   subst this
   rw[List.drop_length]at LR
   have:=LR.done
   subst this
   simp(disch:=omega)
   refine b0 _ _ (fin _ h' hg (by simpa using t4))
 clear hK
 rcases List.eq_nil_or_concat s with rfl|⟨t,x,e⟩
 ·exact absurd rfl e0
 have e:s=t++[x]:=by rw[e];simp
 subst e
 have hl':(t++[x]).length=t.length+1:=by simp
 rw[hl']at hl
 have e2:((t.length:Int)+1)-1=(t.length:Nat):=by omega
 have i1:(t.length:Int)<t.length+1:=by omega
 unfold cutT at ect
 by_cases hx:x=10
 ·subst hx
  have es:aSlice 0 h (S (t++[10])) none (some (I (t.length:Nat))) none=some (S t,h):=by
   rw[slice_to (by simp)];simp
  have ect:ct=t:=by rw[ect];simp
  simp(disch:=omega)[wrap64,e2,i1,es]
  exact post _ (by simp[ect])
 ·have hx':¬((x.toNat:Int)=10):=by
   intro e;exact hx (UInt8.toNat_inj.1 (by have:(10:UInt8).toNat=10:=rfl;omega))
  have hx'':¬(x.toNat=10):=by omega
  have ect:ct=t++[x]:=by rw[ect,if_neg (by simpa using hx)]
  simp(disch:=omega)[wrap64,e2,i1,hx',hx'']
  exact post _ (by simp[ect])
end Am

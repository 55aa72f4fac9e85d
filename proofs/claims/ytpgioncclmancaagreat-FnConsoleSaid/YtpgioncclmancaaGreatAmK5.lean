/- Contracts: AmJ11, AmJ12, AmJ13, AmJ14, AmJ15, AmS1, AmS2, AmS3, AmS4, AmS5, AmS6, AmY1, AmY7. -/
import Derived.Test.YtpgioncclmancaaGreatAmK4
import Derived.Test.YtpgioncclmancaaGreatAmK2
set_option linter.unusedVariables false
set_option linter.unusedSimpArgs false
set_option maxHeartbeats 4000000
set_option maxRecDepth 40000
namespace Am
open Go
/-- As Vo, with cells behind Past. -/
def VoJ(h:Heap)(lo hi:Nat)(v:Value)(X:Jrn):Prop:=∃b1 z1 b2 z2 b3 z3 rest,
 v=.agg #[I X.1.1,I X.1.2.1,sl b1 0 X.1.2.2.length z1,sl b2 0 X.2.1.length z2,sl b3 0 X.2.2.length z3]∧(z1=1∨b1=0∧X.1.2.2=[])∧
 (X.1.2.2=[]∨h[b1]?=some ⟨ints X.1.2.2,true⟩∧lo<=b1∧b1<hi∧b1≠b2∧b1≠b3)∧
 (X.2.1=[]∧b2=0∨z2=3∧h[b2]?=some ⟨trips X.2.1++rest,true⟩∧lo<=b2∧b2<hi∧b2≠b3)∧
 (X.2.2=[]∧b3=0∨z3=3∧h[b3]?=some ⟨trips X.2.2,true⟩∧lo<=b3∧b3<hi)∧Jwf X
theorem JM.voj{h:Heap}{lo jb:Nat}{X:Jrn}{rest:List Value}(x:JM h lo jb X rest):∃cs,h[jb]?=some ⟨cs,true⟩∧cs.length=5∧VoJ h lo h.length (.agg cs.toArray) X:=by
 obtain⟨b1,z1,b2,z2,b3,z3,hjb,hlo,hpos,hz1,i1,i2,i3,wf⟩:=x
 exact⟨_,hjb,rfl,b1,z1,b2,z2,b3,z3,rest,rfl,hz1,i1.imp id λe=>⟨e.1,e.2.1,at_lt e.1,e.2.2.2⟩,i2.imp id λe=>⟨e.1,e.2.1,e.2.2.1,at_lt e.2.1,e.2.2.2.2⟩,i3.imp id λe=>⟨e.1,e.2.1,e.2.2.1,at_lt e.2.1⟩,wf⟩
theorem VoJ.no{h:Heap}{lo hi:Nat}:VoJ h lo hi (.agg #[I 0,I 0,sl 0 0 0 0,sl 0 0 0 0,sl 0 0 0 0]) noJ:=
 ⟨0,0,0,0,0,0,[],rfl,.inr ⟨rfl,rfl⟩,.inl rfl,.inl ⟨rfl,rfl⟩,.inl ⟨rfl,rfl⟩,by constructor<;>simp[noJ,I64]⟩
theorem VoJ.wide{h:Heap}{lo hi lo' hi':Nat}{v:Value}{X:Jrn}(x:VoJ h lo hi v X)(h1:lo'<=lo)(h2:hi<=hi'):VoJ h lo' hi' v X:=by
 obtain⟨b1,z1,b2,z2,b3,z3,rest,e,hz1,i1,i2,i3,wf⟩:=x
 exact⟨b1,z1,b2,z2,b3,z3,rest,e,hz1,i1.imp id λe=>⟨e.1,by omega,by omega,e.2.2.2⟩,i2.imp id λe=>⟨e.1,e.2.1,by omega,by omega,e.2.2.2.2⟩,i3.imp id λe=>⟨e.1,e.2.1,by omega,by omega⟩,wf⟩
theorem VoJ.vr{h:Heap}{lo hi:Nat}{v:Value}{X:Jrn}(x:VoJ h lo hi v X):Vr h shJournal v X:=by
 obtain⟨⟨W,H,br⟩,p,f⟩:=X
 obtain⟨b1,z1,b2,z2,b3,z3,rest,rfl,hz1,i1,i2,i3,w1,w2,x1,x2,x3,y1,y2,y3⟩:=x
 simp only at hz1 i1 i2 i3 w1 w2 x1 x2 x3 y1 y2 y3
 refine Vr.of_journal w1 w2 (Vr.of_ints hz1 (by rw[maxLen_eq];simp only;omega) x1 (i1.imp id λe=>cellsAt_all e.1 (by simp[ints])))
  (Vr.of_trips (i2.elim (λe=>.inr ⟨e.2,e.1⟩) λe=>.inl e.1) (by rw[maxLen_eq];simp only;omega) x2 (i2.imp (λe=>e.1) λe=>?_))
  (Vr.of_trips (i3.elim (λe=>.inr ⟨e.2,e.1⟩) λe=>.inl e.1) (by rw[maxLen_eq];simp only;omega) x3 (i3.imp (λe=>e.1) λe=>cellsAt_all e.2.1 (by rw[trips_len];omega)))
 rw[cellsAt_of e.2.1 (by simp[trips_len];omega)]
 simp[trips_len,Nat.mul_comm]
def undoJ(X:Jrn):Jrn:=match X.2.1.reverse with
 |[]=>X
 |s::r=>((X.1.1,X.1.2.1,X.1.2.2.set s.1.toNat s.2.1),r.reverse,s::X.2.2)
def undoAns(X:Jrn):Jrn×Int:=if okJ X then(if X.2.1=[]then(noJ,6)else(undoJ X,0))else(noJ,1)
theorem undoJ_len(X:Jrn):(undoJ X).1.2.2.length=X.1.2.2.length∧(undoJ X).2.1.length+(undoJ X).2.2.length=X.2.1.length+X.2.2.length:=by
 unfold undoJ
 split
 ·exact⟨rfl,rfl⟩
 ·rename_i h
  have:=congrArg List.length h
  simp at this
  simp;omega
theorem undo_siz(X:Jrn):siz shJournal (undoAns X).1<=16777216:=by
 unfold undoAns
 split
 ·rename_i h
  split
  ·rw[noJ_siz];omega
  ·exact ok_siz h (undoJ_len X).1 (by have:=(undoJ_len X).2;have:=(JK.of h).n;simp only at*;omega)
 ·rw[noJ_siz];omega
theorem undo_i(h:Heap)(lo jb:Nat)(X:Jrn)(rest:List Value)(hJ:JM h lo jb X rest)(hk:JK X)(hne:X.2.1≠[]):
  ACall Gam 2 [pt jb 0] h λ_ h'=>Mod lo h.length h h'∧∃rest,JM h' lo jb (undoJ X) rest:=by
 obtain⟨⟨W,H,br⟩,p,f'⟩:=X
 simp only at hne
 unfold undoJ
 simp only
 split
 ·rename_i e;exact absurd (by simpa using e) hne
 rename_i s r e
 obtain rfl:p=r.reverse++[s]:=by rw[<-List.reverse_reverse p,e];simp
 obtain⟨a,x,y⟩:=s
 have k1:=hk.p (a,x,y) (by simp)
 have k2:=hk.n
 simp only[List.length_append,List.length_cons,List.length_nil]at k1 k2
 exact(c2 h lo jb W H br r.reverse f' a x y rest hJ k1.1 k1.2 (by omega) (by omega)).mono λ_ _ h=>⟨h.1,_,h.2⟩
theorem c134(h:Heap)(hp:0<h.length)(v0:Value)(X0:Jrn)(hv0:Vr h shJournal v0 X0)(hs0:siz shJournal X0<=1048576):
  ACall Gam 134 [v0] h λr h'=>Grows h h'∧∃r0,r=.tuple #[r0,I (undoAns X0).2]∧VoJ h' h.length h'.length r0 (undoAns X0).1∧siz shJournal (undoAns X0).1<=16777216:=by
 have hsz:=undo_siz X0
 have wf:=wf_vr hv0 hs0
 obtain⟨⟨W,H,br⟩,p,f⟩:=X0
 obtain⟨s,sp,sf,rfl,w1,w2,r1,r2,r3⟩:=hv0.journal
 refine ACall_intro g134 rfl ?_
 unfold fn134
 rw[awp_seq,awp_reg]
 generalize hK:seqQ Gam _ _ 0=K
 simp(disch:=omega)
 subst hK
 simp only[seqQ_zero]
 rw[awp_seq]
 generalize hK:seqQ Gam _ _=K
 simp(disch:=omega)
 have hv0':=hv0
 obtain⟨pb,po,pz,e3,hpm,_⟩:=trips_at r2
 rw[maxLen_eq]at hpm
 subst e3
 refine callW_of (c138 h hp _ _ hv0' hs0) ?_
 rintro _ h1⟨G1,rfl⟩
 cases q:okJ ((W,H,br),p,f)
 ·have e:undoAns ((W,H,br),p,f)=(noJ,1):=by simp[undoAns,q]
  subst hK
  rw[e]at hsz ⊢
  simp(disch:=omega)[resOf,resAll,resOne,aField]
  exact⟨G1,VoJ.no,hsz⟩
 simp(disch:=omega)
 subst hK
 simp only[seqQ_zero]
 rw[awp_seq]
 generalize hK:seqQ Gam _ _=K
 simp(disch:=omega)
 refine fork_dec (λh3=>?_) (λh3=>?_)
 ·have h3:p=[]:=List.length_eq_zero_iff.1 (by simpa using h3)
  have e:undoAns ((W,H,br),p,f)=(noJ,6):=by unfold undoAns;rw[q];simp[h3]
  subst hK
  rw[e]at hsz ⊢
  simp(disch:=omega)[resOf,resAll,resOne,aField]
  exact⟨G1,VoJ.no,hsz⟩
 have hfe:p≠[]:=by intro e;subst e;simp at h3
 have e:undoAns ((W,H,br),p,f)=(undoJ ((W,H,br),p,f),0):=by unfold undoAns;rw[q];simp[hfe]
 simp(disch:=omega)
 subst hK
 rw[e]at hsz ⊢
 simp only[seqQ_zero]
 rw[awp_seq,awp_reg]
 generalize hK:seqQ Gam _ _ 0=K
 simp(disch:=omega)
 refine callW_of (c148 h1 (pos_of hp G1) _ _ (hv0'.grow G1) hs0) ?_
 rintro _ h2 x5
 obtain⟨b1,z1,b2,z2,b3,z3,rfl,hJ⟩:=JM.own (pos_of hp G1) x5 wf
 have g2:=x5.1
 simp only at hJ
 have hsb:storeAt (h2++[⟨[I 0,I 0,sl 0 0 0 0,sl 0 0 0 0,sl 0 0 0 0],true⟩]) h2.length 0 [I W,I H,sl b1 0 br.length z1,sl b2 0 p.length z2,sl b3 0 f.length z3]=some (h2++[⟨[I W,I H,sl b1 0 br.length z1,sl b2 0 p.length z2,sl b3 0 f.length z3],true⟩]):=store_box rfl
 simp(disch:=omega)[hsb]
 subst hK
 simp only[seqQ_zero]
 rw[awp_seq,awp_reg]
 generalize hK:seqQ Gam _ _ 0=K
 simp(disch:=omega)
 obtain⟨h3,e3⟩:∃h3,h3=h2++[⟨[I W,I H,sl b1 0 br.length z1,sl b2 0 p.length z2,sl b3 0 f.length z3],true⟩]:=⟨_,rfl⟩
 rw[<-e3]at hJ ⊢
 have G3:Grows h1 h3:=g2.trans ⟨_,e3⟩
 refine callW_of (undo_i h3 h1.length h2.length _ [] hJ (JK.of q) hfe) ?_
 rintro _ h4⟨md,rest,hJ2⟩
 simp(disch:=omega)
 subst hK
 simp only[seqQ_zero]
 have L1:=G1.le
 obtain⟨cs,hk,hl,ov⟩:=hJ2.voj
 have cw:cellsAt h4 h2.length 0 5=some cs:=cellsAt_all hk hl.symm
 have G4:=md.grows G3 (Nat.le_refl _)
 simp(disch:=omega)[cw,hl,resOf,resAll,resOne,aField]
 have et:cs.take 5=cs:=List.take_of_length_le (by omega)
 try rw[et]
 exact⟨G1.trans G4,ov.wide L1 (Nat.le_refl _),hsz⟩
theorem at0_set{l:List Int}{k:Nat}{v:Int}(hk:k<l.length):at0 (l.set k v) k=v:=by
 rw[at0_of (by simpa using hk)];simp
theorem set_at0{l:List Int}{k:Nat}(hk:k<l.length):l.set k (at0 l k)=l:=by
 rw[at0_of hk,List.set_getElem_self]
theorem okP_set{W H:Int}{br:List Int}{k:Nat}{v:Int}(h:okP (W,H,br)=true)(hv:0<=v∧v<=2):okP (W,H,br.set k v)=true:=by
 rw[okP_iff]at h ⊢
 refine⟨h.w,h.h,by simpa using h.n,λx hx=>?_⟩
 rcases List.mem_or_eq_of_mem_set hx with hx|rfl
 ·exact h.b x hx
 ·exact hv
theorem okJ_iff{X:Jrn}:okJ X=true↔okP X.1=true∧X.2.1.length+X.2.2.length<=50∧(∃c,runB X.2.1.reverse X.1.2.2=some c)∧∃c,runF X.2.2 X.1.2.2=some c:=by
 unfold okJ
 simp only[Bool.and_eq_true,decide_eq_true_eq,Option.isSome_iff_exists]
theorem runB_cons{s:Trip}{l:List Trip}{br c:List Int}(h:runB (s::l) br=some c):okStep br.length s=true∧at0 br s.1.toNat=s.2.2∧runB l (br.set s.1.toNat s.2.1)=some c:=by
 simp only[runB]at h
 split at h
 ·rename_i hc;simp at hc;exact⟨hc.1,hc.2,h⟩
 ·cases h
theorem runF_cons{s:Trip}{l:List Trip}{br c:List Int}(h:runF (s::l) br=some c):okStep br.length s=true∧at0 br s.1.toNat=s.2.1∧runF l (br.set s.1.toNat s.2.2)=some c:=by
 simp only[runF]at h
 split at h
 ·rename_i hc;simp at hc;exact⟨hc.1,hc.2,h⟩
 ·cases h
theorem runB_mk{s:Trip}{l:List Trip}{br c:List Int}(h1:okStep br.length s=true)(h2:at0 br s.1.toNat=s.2.2)(h:runB l (br.set s.1.toNat s.2.1)=some c):runB (s::l) br=some c:=by
 simp only[runB,h1,h2,decide_true,Bool.and_self,if_true];exact h
theorem runF_step{s:Trip}{l:List Trip}{br c:List Int}(h1:okStep br.length s=true)(h2:at0 br s.1.toNat=s.2.1)(h:runF l (br.set s.1.toNat s.2.2)=some c):runF (s::l) br=some c:=by
 simp only[runF,h1,h2,decide_true,Bool.and_self,if_true];exact h
theorem step_bd{n:Nat}{s:Trip}(h:okStep n s=true):s.1.toNat<n∧(0<=s.2.1∧s.2.1<=2)∧(0<=s.2.2∧s.2.2<=2):=by
 have:=okStep_iff.1 h;omega
/-- One step back, in plain terms. -/
theorem undo_law{W H:Int}{br:List Int}{p f:List Trip}{s:Trip}(h:okJ ((W,H,br),p++[s],f)=true):
  undoJ ((W,H,br),p++[s],f)=((W,H,br.set s.1.toNat s.2.1),p,s::f)∧okJ ((W,H,br.set s.1.toNat s.2.1),p,s::f)=true∧
  redoJ ((W,H,br.set s.1.toNat s.2.1),p,s::f)=((W,H,br),p++[s],f)∧startB ((W,H,br.set s.1.toNat s.2.1),p,s::f)=startB ((W,H,br),p++[s],f):=by
 obtain⟨h1,h2,⟨c,h3⟩,⟨d,h4⟩⟩:=okJ_iff.1 h
 simp only[List.reverse_append,List.reverse_cons,List.reverse_nil,List.nil_append,List.singleton_append,List.length_append,List.length_cons,List.length_nil]at h1 h2 h3 h4
 obtain⟨g1,g2,g3⟩:=runB_cons h3
 obtain⟨e1,e2,e3⟩:=step_bd g1
 have back:(br.set s.1.toNat s.2.1).set s.1.toNat s.2.2=br:=by rw[List.set_set,<-g2,set_at0 e1]
 refine⟨by simp[undoJ],okJ_iff.2 ⟨okP_set h1 e2,by simp only[List.length_cons];omega,⟨c,g3⟩,d,?_⟩,by simp[redoJ,back],?_⟩
 ·exact runF_step (by simpa using g1) (at0_set e1) (by rw[back];exact h4)
 ·simp only[startB,List.reverse_append,List.reverse_cons,List.reverse_nil,List.nil_append,List.singleton_append,h3,g3]
/-- One step again. -/
theorem redo_law{W H:Int}{br:List Int}{p f:List Trip}{s:Trip}(h:okJ ((W,H,br),p,s::f)=true):
  redoJ ((W,H,br),p,s::f)=((W,H,br.set s.1.toNat s.2.2),p++[s],f)∧okJ ((W,H,br.set s.1.toNat s.2.2),p++[s],f)=true∧
  undoJ ((W,H,br.set s.1.toNat s.2.2),p++[s],f)=((W,H,br),p,s::f)∧startB ((W,H,br.set s.1.toNat s.2.2),p++[s],f)=startB ((W,H,br),p,s::f):=by
 obtain⟨h1,h2,⟨c,h3⟩,⟨d,h4⟩⟩:=okJ_iff.1 h
 simp only[List.length_cons]at h1 h2 h3 h4
 obtain⟨g1,g2,g3⟩:=runF_cons h4
 obtain⟨e1,e2,e3⟩:=step_bd g1
 have back:(br.set s.1.toNat s.2.2).set s.1.toNat s.2.1=br:=by rw[List.set_set,<-g2,set_at0 e1]
 have h5:runB (s::p.reverse) (br.set s.1.toNat s.2.2)=some c:=runB_mk (by simpa using g1) (at0_set e1) (by rw[back];exact h3)
 refine⟨by simp[redoJ],okJ_iff.2 ⟨okP_set h1 e3,by simp only[List.length_append,List.length_cons,List.length_nil];omega,⟨c,?_⟩,d,g3⟩,by simp[undoJ,back],?_⟩
 ·simpa using h5
 ·simp only[startB,List.reverse_append,List.reverse_cons,List.reverse_nil,List.nil_append,List.singleton_append,h3,h5]
/-- A step made. -/
theorem do_law{W H:Int}{br:List Int}{p f:List Trip}{k kind:Int}(h:okJ ((W,H,br),p,f)=true)(hc:doCode ((W,H,br),p,f) k kind=0):
  okJ (doJ ((W,H,br),p,f) k kind)=true∧(undoJ (doJ ((W,H,br),p,f) k kind)).1=(W,H,br):=by
 obtain⟨h1,h2,⟨c,h3⟩,⟨d,h4⟩⟩:=okJ_iff.1 h
 unfold doCode at hc
 split at hc
 rotate_left
 ·simp at hc
 rename_i hq
 simp only[Bool.and_eq_true,inR_iff,okBr_iff]at hq
 split at hc
 ·simp at hc
 rename_i hne
 split at hc
 ·simp at hc
 rename_i hp
 simp only at hq hp hne h1 h2 h3 h4
 obtain⟨kn,rfl⟩:=Int.eq_ofNat_of_zero_le hq.1.1
 have hk:kn<br.length:=by omega
 rw[Int.toNat_natCast]at hne
 have hb:0<=at0 br kn∧at0 br kn<=2:=by
  rw[at0_of hk];exact(okP_iff.1 h1).b _ (List.getElem_mem hk)
 have hs:okStep br.length ((kn:Int),at0 br kn,kind)=true:=okStep_iff.2 ⟨⟨by simp,by simpa using hk⟩,hb,hq.2,hne⟩
 have hJ:okJ ((W,H,br.set kn kind),p++[((kn:Int),at0 br kn,kind)],[])=true:=by
  refine okJ_iff.2 ⟨okP_set h1 hq.2,by simp only[List.length_append,List.length_cons,List.length_nil];omega,⟨c,?_⟩,_,rfl⟩
  have:=runB_mk (s:=((kn:Int),at0 br kn,kind)) (l:=p.reverse) (br:=br.set kn kind) (c:=c) (by simpa using hs) (at0_set hk) (by simp only[Int.toNat_natCast];rw[List.set_set,set_at0 hk];exact h3)
  simpa using this
 simp only[doJ,Int.toNat_natCast]
 refine⟨hJ,?_⟩
 rw[(undo_law hJ).1]
 simp only[Int.toNat_natCast]
 rw[List.set_set,set_at0 hk]
/-- One step back, however the journal is given. -/
theorem undo_ok{X:Jrn}(h:okJ X=true)(hne:X.2.1≠[]):okJ (undoJ X)=true∧redoJ (undoJ X)=X∧startB (undoJ X)=startB X∧(undoJ X).2.2≠[]∧(undoJ X).1.1=X.1.1∧(undoJ X).1.2.1=X.1.2.1:=by
 obtain⟨⟨W,H,br⟩,p,f⟩:=X
 simp only at hne
 obtain⟨p',s,rfl⟩:∃p' s,p=p'++[s]:=by
  rcases List.eq_nil_or_concat p with e|⟨p',s,e⟩
  ·exact absurd e hne
  ·exact⟨p',s,by simpa using e⟩
 obtain⟨e,h1,h2,h3⟩:=undo_law h
 rw[e]
 exact⟨h1,h2,h3,by simp,rfl,rfl⟩
theorem redo_ok{X:Jrn}(h:okJ X=true)(hne:X.2.2≠[]):okJ (redoJ X)=true∧undoJ (redoJ X)=X∧startB (redoJ X)=startB X∧(redoJ X).2.1≠[]∧(redoJ X).1.1=X.1.1∧(redoJ X).1.2.1=X.1.2.1:=by
 obtain⟨⟨W,H,br⟩,p,f⟩:=X
 cases f with
 |nil=>exact absurd rfl hne
 |cons s f=>
  obtain⟨e,h1,h2,h3⟩:=redo_law h
  rw[e]
  exact⟨h1,h2,h3,by simp,rfl,rfl⟩
/-- A source in a box of our own: its code lies behind it, and it has given at most m bytes. -/
def Src(h:Heap)(b m:Nat):Prop:=∃(cb co n z a:Nat) (s:Int),h[b]?=some ⟨[sl cb co n z,I a,.int .u64 s],true⟩∧a<=m∧0<=s∧s<18446744073709551616∧(n=0∨cb<b)∧n<=9223372036854775807∧∀i,i<n->∃x:Nat,cell h cb (co+i)=some (.int .u8 x)∧x<256
theorem Src.mono{h:Heap}{b m m':Nat}(x:Src h b m)(hm:m<=m'):Src h b m':=by
 obtain⟨cb,co,n,z,a,s,h1,h2,h3⟩:=x
 exact⟨cb,co,n,z,a,s,h1,by omega,h3⟩
theorem Src.grow{h h':Heap}{b m:Nat}(x:Src h b m)(g:Grows h h'):Src h' b m:=by
 obtain⟨cb,co,n,z,a,s,h1,h2,h3,h4,h5,h6,h7⟩:=x
 have hl:=at_lt h1
 refine⟨cb,co,n,z,a,s,by rw[g.look hl];exact h1,h2,h3,h4,h5,h6,λi hi=>?_⟩
 obtain⟨x,e1,e2⟩:=h7 i hi
 exact⟨x,g.cell e1,e2⟩
theorem wrap_u64(n:Int):0<=IntKind.u64.wrap n∧IntKind.u64.wrap n<18446744073709551616:=by
 simp only[IntKind.wrap,IntKind.signed,IntKind.bits]
 have h1:=Int.emod_nonneg n (show(2^64:Int)≠0 by decide)
 have h2:=Int.emod_lt_of_pos n (show(0:Int)<2^64 by decide)
 simp at*
 omega
theorem wrapUs{n:Int}(h1:0<=n)(h2:n<18446744073709551616):IntKind.u64.wrap n=n:=wrap_unsigned (M:=18446744073709551616) rfl (by decide) h1 h2
theorem and_255(a:Int):∃x:Nat,bitsOp .u64 (· &&& ·) a 255=.int .u64 x∧x<256:=by
 obtain⟨x,hx⟩:∃x:Nat,x=(BitVec.ofInt 64 a &&& BitVec.ofInt 64 255).toNat:=⟨_,rfl⟩
 have hb:x<256:=by
  rw[hx,BitVec.toNat_and]
  have:(BitVec.ofInt 64 255).toNat=255:=by decide
  rw[this]
  have:=@Nat.and_le_right (BitVec.ofInt 64 a).toNat 255
  omega
 refine⟨x,?_,hb⟩
 show Value.int .u64 (IntKind.u64.wrap ((BitVec.ofInt 64 a &&& BitVec.ofInt 64 255).toNat:Int))=_
 rw[<-hx,wrapUs (by omega) (by omega)]
theorem c5(h:Heap)(b m:Nat)(hs:Src h b m)(hm:m<=1099511627776):ACall Gam 5 [pt b 0] h λr h'=>∃x:Nat,r=I x∧x<256∧Mod b (b+1) h h'∧h'.length=h.length∧Src h' b (m+1):=by
 obtain⟨cb,co,n,z,a,s,h1,h2,h3,h4,h5,h6,h7⟩:=hs
 have hl:=at_lt h1
 have k0:cell h b 0=some (sl cb co n z):=by simp[cell,h1]
 have k1:cell h b 1=some (I a):=by simp[cell,h1]
 have k2:cell h b 2=some (.int .u64 s):=by simp[cell,h1]
 refine ACall_intro g5 rfl ?_
 unfold fn5
 rw[awp_seq,awp_reg]
 generalize hK:seqQ Gam _ _ 0=K
 simp(disch:=omega)
 subst hK
 simp only[seqQ_zero]
 rw[awp_seq,awp_reg]
 generalize hK:seqQ Gam _ _ 0=K
 simp(disch:=omega)
 subst hK
 simp only[seqQ_zero]
 rw[awp_seq]
 generalize hK:seqQ Gam _ _=K
 have step:∀(σ:Nat->Value) (x:Nat),x<256->σ 0=pt b 0->σ 3=I x->K 0 σ h:=by
  intro σ x hx q0 q3
  subst hK
  simp only[seqQ_zero]
  rw[awp_seq,awp_reg]
  generalize hK:seqQ Gam _ _ 0=K
  have s1:=store_one (v:=I ((a:Int)+1)) (o:=1) h1 (by simp)
  obtain⟨h',eh⟩:∃h',h'=h.set b ⟨[sl cb co n z,I ((a:Int)+1),.int .u64 s],true⟩:=⟨_,rfl⟩
  simp only[List.set_cons_succ,List.set_cons_zero,<-eh]at s1
  simp(disch:=omega)[q0,k1,s1,wrap64]
  subst hK
  simp only[seqQ_zero]
  have hb':h'[b]?=some ⟨[sl cb co n z,I ((a:Int)+1),.int .u64 s],true⟩:=by rw[eh];simp[hl]
  have k0:cell h' b 0=some (sl cb co n z):=by simp[cell,hb']
  have k1:cell h' b 1=some (I ((a:Int)+1)):=by simp[cell,hb']
  have k2:cell h' b 2=some (.int .u64 s):=by simp[cell,hb']
  rw[awp_seq,awp_reg]
  generalize hK:seqQ Gam _ _ 0=K
  simp(disch:=omega)[q0,q3,k2]
  obtain⟨t,ht⟩:∃t,t=IntKind.u64.wrap (IntKind.u64.wrap (IntKind.u64.wrap (s*6364136223846793005)+IntKind.u64.wrap ↑x)+1442695040888963407):=⟨_,rfl⟩
  have tb:=wrap_u64 (IntKind.u64.wrap (IntKind.u64.wrap (s*6364136223846793005)+IntKind.u64.wrap ↑x)+1442695040888963407)
  rw[<-ht]at tb ⊢
  have s2:=store_one (v:=.int .u64 t) (o:=2) hb' (by simp)
  obtain⟨h2',eh2⟩:∃h2',h2'=h'.set b ⟨[sl cb co n z,I ((a:Int)+1),.int .u64 t],true⟩:=⟨_,rfl⟩
  simp only[List.set_cons_succ,List.set_cons_zero,<-eh2]at s2
  rw[s2]
  have hb2:h2'[b]?=some ⟨[sl cb co n z,I ((a:Int)+1),.int .u64 t],true⟩:=by rw[eh2];simp[at_lt hb']
  have k0:cell h2' b 0=some (sl cb co n z):=by simp[cell,hb2]
  have k1:cell h2' b 1=some (I ((a:Int)+1)):=by simp[cell,hb2]
  have k2:cell h2' b 2=some (.int .u64 t):=by simp[cell,hb2]
  have hl2:h2'.length=h.length:=by rw[eh2,eh];simp
  have ho:∀c,c≠b->h2'[c]?=h[c]?:=λc hc=>by rw[eh2,set_other hc,eh,set_other hc]
  have md:Mod b (b+1) h h2':=⟨by omega,λc hc hn=>ho c (by omega)⟩
  have src:Src h2' b (m+1):=⟨cb,co,n,z,a+1,t,by rw[hb2];rfl,by omega,tb.1,tb.2,h5,h6,λi hi=>by
   obtain⟨x,e1,e2⟩:=h7 i hi
   exact⟨x,by unfold cell at e1 ⊢;rw[ho cb (by omega)];exact e1,e2⟩⟩
  simp(disch:=omega)
  subst hK
  simp only[seqQ_zero]
  rw[awp_seq]
  generalize hK:seqQ Gam _ _=K
  simp(disch:=omega)[q0,k0,k1]
  refine fork_dec (λh3=>?_) (λh3=>?_)
  ·subst hK
   simp(disch:=omega)[q3]
   exact⟨x,rfl,hx,md,hl2,src⟩
  ·simp(disch:=omega)
   subst hK
   simp only[seqQ_zero]
   obtain⟨y,ey,hy⟩:=and_255 (t.fdiv (2^min 40 IntKind.u64.bits))
   simp(disch:=omega)[q0,k2,ey,wrap64]
   exact⟨y,rfl,hy,md,hl2,src⟩
 simp(disch:=omega)[k0,k1]
 refine fork_dec (λh3=>?_) (λh3=>?_)
 ·obtain⟨x,e1,e2⟩:=h7 a (by omega)
  simp(disch:=omega)[k0,k1,e1,h3,wrap64]
  exact step _ x e2 (by simp) (by simp)
 ·simp(disch:=omega)
  exact step _ 0 (by omega) (by simp) (by simp)
/-- What a draw leaves: a number from 0 to n - 1. -/
theorem c7(h:Heap)(b m:Nat)(n:Int)(hs:Src h b m)(hm:m<=1000000000)(hn:I64 n):ACall Gam 7 [pt b 0,I n] h λr h'=>∃x:Nat,r=I x∧(n<=1->x=0)∧(1<n->(x:Int)<n)∧Mod b (b+1) h h'∧h'.length=h.length∧Src h' b (m+2):=by
 refine ACall_intro g7 rfl ?_
 unfold fn7
 rw[awp_seq,awp_reg]
 generalize hK:seqQ Gam _ _ 0=K
 simp(disch:=omega)
 subst hK
 simp only[seqQ_zero]
 rw[awp_seq]
 generalize hK:seqQ Gam _ _=K
 simp(disch:=omega)
 refine fork_dec (λh1=>?_) (λh1=>?_)
 ·subst hK
  simp(disch:=omega)
  exact⟨0,rfl,λ_=>rfl,λh=>by omega,Mod.refl _ _ _,hs.mono (by omega)⟩
 simp(disch:=omega)
 subst hK
 simp only[seqQ_zero]
 rw[awp_seq,awp_reg]
 generalize hK:seqQ Gam _ _ 0=K
 simp(disch:=omega)
 refine callW_of (c5 h b m hs (by omega)) ?_
 rintro _ h2⟨x,rfl,hx,md,hl,hs2⟩
 simp(disch:=omega)
 subst hK
 simp only[seqQ_zero]
 rw[awp_seq]
 generalize hK:seqQ Gam _ _=K
 have fin:∀(σ:Nat->Value) (h':Heap) (y:Nat),σ 1=I n->σ 5=I y->y<100000->Mod b (b+1) h h'->h'.length=h.length->Src h' b (m+2)->K 0 σ h':=by
  intro σ h' y q1 q5 hy md hl hs'
  subst hK
  simp only[seqQ_zero]
  obtain⟨nn,rfl⟩:=Int.eq_ofNat_of_zero_le (show 0<=n by omega)
  have e:(y:Int).tmod nn=((y%nn:Nat):Int):=by rw[tmod_pos (by omega),Int.natCast_emod]
  have hn0:nn≠0:=by omega
  have lt:=Nat.mod_lt y (show 0<nn by omega)
  obtain⟨r,hr⟩:∃r,r=y%nn:=⟨_,rfl⟩
  rw[<-hr]at e lt
  simp(disch:=omega)[q1,q5,e,hn0]
  exact⟨r,rfl,by omega,by omega,md,hl,hs'⟩
 simp(disch:=omega)
 refine fork_dec (λh3=>?_) (λh3=>?_)
 ·simp(disch:=omega)[wrap64]
  refine callW_of (c5 h2 b (m+1) hs2 (by omega)) ?_
  rintro _ h4⟨y,rfl,hy,md2,hl2,hs4⟩
  simp(disch:=omega)[wrap64]
  exact fin _ h4 (x*256+y) (by simp) (by simp) (by omega) (md.trans md2) (by omega) (hs4.mono (by omega))
 ·simp(disch:=omega)
  exact fin _ h2 x (by simp) (by simp) (by omega) md hl (hs2.mono (by omega))
def shBytes:Shp:=.slice (.int .u8)
theorem byte_at{h:Heap}{v:Value}{X:List Int}(hv:Vr h shBytes v X):∃b o z,v=sl b o X.length z∧X.length<=9223372036854775807∧∀i,i<X.length->∃x:Nat,cell h b (o+i)=some (.int .u8 x)∧x<256:=by
 obtain⟨b,o,z,rfl,hz,hm,hel⟩:=hv.slice
 refine⟨b,o,z,rfl,by rw[<-maxLen_eq];exact hm,λi hi=>?_⟩
 obtain⟨c,hc,⟨rfl,w⟩⟩:=hel i hi
 have e:=(cell_in (i:=0) hc (by simp[Shp.n])).1
 have w':0<=X[i]∧X[i]<256:=by
  simp[Lit.wf,IntKind.min,IntKind.max,IntKind.signed,IntKind.bits]at w
  omega
 refine⟨X[i].toNat,?_,by omega⟩
 simp only[Shp.n,Nat.mul_one,Nat.add_zero]at e
 rw[e,Int.toNat_of_nonneg w'.1]
 rfl
theorem c431(h:Heap)(v:Value)(X:List Int)(hv:Vr h shBytes v X):ACall Gam 431 [v] h λr h'=>r=pt h.length 0∧Grows h h'∧h'.length=h.length+1∧Src h' h.length 0:=by
 obtain⟨b,o,z,rfl,hm,hel⟩:=byte_at hv
 refine ACall_intro g431 rfl ?_
 unfold fn431
 simp(disch:=omega)
 refine⟨⟨_,rfl⟩,b,o,X.length,z,0,0,by simp,by omega,by omega,by omega,?_,hm,λi hi=>?_⟩
 ·by_cases h0:X.length=0
  ·exact .inl h0
  ·obtain⟨x,e,_⟩:=hel 0 (by omega)
   right
   unfold cell at e
   cases hk:h[b]? with
   |none=>rw[hk]at e;simp at e
   |some k=>exact at_lt hk
 ·obtain⟨x,e1,e2⟩:=hel i hi
  exact⟨x,Grows.cell ⟨_,rfl⟩ e1,e2⟩
theorem c258(h:Heap)(v w:Value)(X Y:List Int)(hv:Vr h shBytes v X)(hw:Vr h shBytes w Y):ACall Gam 258 [v,w] h λr h'=>r=B (decide (3000<X.length)||decide (3000<Y.length))∧h'=h:=by
 obtain⟨b,o,z,rfl,hm,_⟩:=byte_at hv
 obtain⟨b2,o2,z2,rfl,hm2,_⟩:=byte_at hw
 refine ACall_intro g258 rfl ?_
 unfold fn258
 obtain⟨w1,hw1⟩:∃w1:Bool,w1=decide ((3000:Int)<X.length):=⟨_,rfl⟩
 have e1:decide (3000<X.length)=w1:=by rw[hw1];congr 1;apply propext;omega
 simp(disch:=omega)[<-hw1,e1]
 cases w1
 ·simp(disch:=omega)
  omega
 ·simp(disch:=omega)
theorem c8(h:Heap)(b m lb:Nat)(L:List (List UInt8))(hs:Src h b m)(hm:m<=100000000)(hl:h[lb]?=some ⟨L.map S,true⟩)(hne:lb≠b)(h0:0<L.length)(h1:L.length<=200):
  ACall Gam 8 [pt b 0,sl lb 0 L.length 1] h λr h'=>∃x∈L,r=S x∧Mod b (b+1) h h'∧h'.length=h.length∧Src h' b (m+2):=by
 refine ACall_intro g8 rfl ?_
 unfold fn8
 rw[awp_seq,awp_reg]
 generalize hK:seqQ Gam _ _ 0=K
 simp(disch:=omega)
 subst hK
 simp only[seqQ_zero]
 rw[awp_seq,awp_reg]
 generalize hK:seqQ Gam _ _ 0=K
 simp(disch:=omega)
 refine callW_of (c7 h b m L.length hs (by omega) (by unfold I64;omega)) ?_
 rintro _ h2⟨k,rfl,k1,k2,md,l2,hs2⟩
 have hk:k<L.length:=by
  by_cases e:L.length=1
  ·have:=k1 (by omega);omega
  ·have:=k2 (by omega);omega
 have hb2:h2[lb]?=some ⟨L.map S,true⟩:=by rw[md.2 lb (at_lt hl) (by omega)];exact hl
 have cb:cell h2 lb k=some (S L[k]):=cell_of hb2 (by simp[hk])
 simp(disch:=omega)[hk,cb]
 subst hK
 simp only[seqQ_zero]
 simp(disch:=omega)
 exact⟨L[k],List.getElem_mem hk,rfl,md,l2,hs2⟩
theorem OkP.row{X:Pan}(ok:OkP X):X.2.2.length=rowN X.1.toNat (2*X.2.1.toNat):=by
 have h1:=ok.w;have h2:=ok.h;have h3:=ok.n
 have:=rowN_end (W:=X.1.toNat) (by omega) (H:=X.2.1.toNat) (by omega) (by omega) (by omega)
 rw[Int.toNat_of_nonneg (by omega),Int.toNat_of_nonneg (by omega)]at this
 unfold inner at h3
 omega
theorem OkP.siz{X:Pan}(ok:OkP X):X.2.2.length<=128:=by
 have h1:=ok.w;have h2:=ok.h
 rw[ok.row]
 exact rowN_le (by omega) (by omega)
section
variable {α : Type} (f R : α -> α) (seg : α -> Nat) (V : α -> Prop) (N : Nat)
def itW(f:α->α):Nat->α->α
 |0,w=>w
 |k+1,w=>f (itW f k w)
theorem itW_add{f:α->α}(i j:Nat)(w:α):itW f (i+j) w=itW f j (itW f i w):=by
 induction j with
 |zero=>rfl
 |succ j ih=>rw[<-Nat.add_assoc];simp only[itW];rw[ih]
/-- What makes the curves of walkers closed. -/
structure Walks:Prop where
 vf:∀w,V w->V (f w)
 vr:∀w,V w->V (R w)
 rr:∀w,R (R w)=w
 fr:∀w,V w->f (R (f w))=R w
 ne:∀w,V w->f w≠R w
 nr:∀w,V w->R w≠w
 sg:∀w v,V w->V v->(seg w=seg v↔w=v∨w=R v)
 lt:∀w,V w->seg w<N
variable {f R seg V N}
theorem Walks.vi(a:Walks f R seg V N){w:α}(h:V w):∀k,V (itW f k w)
 |0=>h
 |k+1=>a.vf _ (a.vi h k)
theorem Walks.inj(a:Walks f R seg V N){w v:α}(h1:V w)(h2:V v)(e:f w=f v):w=v:=by
 have e1:=a.fr w h1
 have e2:=a.fr v h2
 rw[e,e2]at e1
 rw[<-a.rr w,<-e1,a.rr]
/-- A walker turned back walks back. -/
theorem Walks.back(a:Walks f R seg V N){w:α}(h:V w):∀k,itW f k (R (itW f k w))=R w
 |0=>rfl
 |k+1=>by
  have e:=a.fr _ (a.vi h k)
  have:=a.back h k
  rw[show k+1=1+k by omega,itW_add,Nat.add_comm]
  simp only[itW]
  rw[e];exact this
theorem Walks.injI(a:Walks f R seg V N){u v:α}(h:V u)(h':V v):∀k,itW f k u=itW f k v->u=v
 |0,e=>e
 |k+1,e=>a.injI h h' k (a.inj (a.vi h k) (a.vi h' k) e)
theorem Walks.never(a:Walks f R seg V N){w:α}(h:V w)(m:Nat):itW f m w≠R w:=by
 intro e
 rcases Nat.mod_two_eq_zero_or_one m with hm|hm
 ·obtain⟨k,rfl⟩:∃k,m=k+k:=⟨m/2,by omega⟩
  rw[itW_add]at e
  have hb:=a.back h k
  rw[<-e]at hb
  have:=a.injI (a.vr _ (a.vi h k)) (a.vi h k) k hb
  exact a.nr _ (a.vi h k) this
 ·obtain⟨k,rfl⟩:∃k,m=k+1+k:=⟨m/2,by omega⟩
  rw[itW_add]at e
  have hb:=a.back h k
  rw[<-e]at hb
  have:=a.injI (a.vr _ (a.vi h k)) (a.vi h (k+1)) k hb
  exact a.ne _ (a.vi h k) this.symm
theorem Walks.same(a:Walks f R seg V N){w:α}(h:V w){i j:Nat}(hij:i<=j)(e:seg (itW f i w)=seg (itW f j w)):itW f (j-i) w=w:=by
 have hi:=a.vi h i
 have hj:=a.vi h j
 rcases(a.sg _ _ hj hi).1 e.symm with q|q
 ·have:itW f i (itW f (j-i) w)=itW f i w:=by
   rw[<-itW_add,show j-i+i=j by omega,q]
  exact a.injI (a.vi h (j-i)) h i this
 ·exfalso
  refine a.never hi (j-i) ?_
  rw[<-itW_add,show i+(j-i)=j by omega];exact q
theorem pigeon:∀(n:Nat) (g:Nat->Nat),(∀i,i<=n->g i<n)->∃i j,i<j∧j<=n∧g i=g j
 |0,g,hb=>by have:=hb 0 (Nat.le_refl _);omega
 |n+1,g,hb=>by
  by_cases q:∃i,i<=n∧g i=g (n+1)
  ·obtain⟨i,h1,h2⟩:=q
   exact⟨i,n+1,by omega,Nat.le_refl _,h2⟩
  ·have hc:=hb (n+1) (Nat.le_refl _)
   have hne:∀i,i<=n->g i≠g (n+1):=λi hi e=>q ⟨i,hi,e⟩
   obtain⟨i,j,h1,h2,h3⟩:=pigeon n (λi=>if g (n+1)<g i then g i-1 else g i) (λi hi=>by
    have:=hne i hi
    have:=hb i (by omega)
    split<;>omega)
   have e1:=hne i (by omega)
   have e2:=hne j (by omega)
   refine⟨i,j,h1,by omega,?_⟩
   split at h3<;>split at h3<;>omega
theorem least{P:Nat->Prop}:∀n,P n->∃m,m<=n∧P m∧∀k,k<m->¬P k:=by
 intro n
 induction n using Nat.strongRecOn with
 |ind n ih=>
  intro hp
  by_cases q:∃k,k<n∧P k
  ·obtain⟨k,h1,h2⟩:=q
   obtain⟨m,a,b,c⟩:=ih k h1 h2
   exact⟨m,by omega,b,c⟩
  ·exact⟨n,Nat.le_refl _,hp,λk hk hx=>q ⟨k,hk,hx⟩⟩
/-- The length of a walker's curve. -/
theorem Walks.period(a:Walks f R seg V N){w:α}(h:V w):∃n,0<n∧n<=N∧itW f n w=w:=by
 obtain⟨i,j,h1,h2,h3⟩:=pigeon N (λi=>seg (itW f i w)) λi _=>a.lt _ (a.vi h i)
 exact⟨j-i,by omega,by omega,a.same h (by omega) h3⟩
open Classical in
noncomputable def perW(f:α->α)(w:α):Nat:=if h:∃n,(0<n∧itW f n w=w)∧∀k,k<n->¬(0<k∧itW f k w=w)then Classical.choose h else 0
theorem Walks.per(a:Walks f R seg V N){w:α}(h:V w):0<perW f w∧perW f w<=N∧itW f (perW f w) w=w∧∀j,0<j->j<perW f w->itW f j w≠w:=by
 obtain⟨n,h1,h2,h3⟩:=a.period h
 obtain⟨m,m1,m2,m3⟩:=least (P:=λn=>0<n∧itW f n w=w) n ⟨h1,h3⟩
 have e:∃n,(0<n∧itW f n w=w)∧∀k,k<n->¬(0<k∧itW f k w=w):=⟨m,m2,m3⟩
 unfold perW
 rw[dif_pos e]
 obtain⟨p1,p2⟩:=Classical.choose_spec e
 refine⟨p1.1,?_,p1.2,λj hj hl hx=>p2 j hl ⟨hj,hx⟩⟩
 by_cases q:Classical.choose e<=N
 ·exact q
 ·exact absurd ⟨h1,h3⟩ (p2 n (by omega))
theorem Walks.dist(a:Walks f R seg V N){w:α}(h:V w){i j:Nat}(hij:i<j)(hj:j<perW f w):seg (itW f i w)≠seg (itW f j w):=by
 intro e
 exact(a.per h).2.2.2 (j-i) (by omega) (by omega) (a.same h (by omega) e)
def paint(f:α->α)(seg:α->Nat)(w:α)(c:Int)(o:List Int):Nat->List Int
 |0=>o
 |k+1=>(paint f seg w c o k).set (seg (itW f k w)) c
theorem paint_len{w:α}{c:Int}{o:List Int}:∀k,(paint f seg w c o k).length=o.length
 |0=>rfl
 |k+1=>by simp[paint,paint_len k]
theorem paint_at{w:α}{c:Int}{o:List Int}{s:Nat}(hs:s<o.length):∀k,at0 (paint f seg w c o k) s=if ∃j,j<k∧seg (itW f j w)=s then c else at0 o s
 |0=>by simp[paint]
 |k+1=>by
  simp only[paint]
  have ih:=paint_at (w:=w) (c:=c) hs k
  have hl:=paint_len (f:=f) (seg:=seg) (w:=w) (c:=c) (o:=o) k
  by_cases e:seg (itW f k w)=s
  ·rw[if_pos ⟨k,by omega,e⟩]
   unfold at0
   rw[List.getD_eq_getElem?_getD,e,List.getElem?_set_self (by omega)];rfl
  ·have:at0 ((paint f seg w c o k).set (seg (itW f k w)) c) s=at0 (paint f seg w c o k) s:=by
    unfold at0
    rw[List.getD_eq_getElem?_getD,List.getElem?_set_ne e,<-List.getD_eq_getElem?_getD]
   rw[this,ih]
   by_cases q:∃j,j<k∧seg (itW f j w)=s
   ·obtain⟨j,a,b⟩:=q
    rw[if_pos ⟨j,a,b⟩,if_pos ⟨j,by omega,b⟩]
   ·rw[if_neg q,if_neg]
    rintro⟨j,a,b⟩
    by_cases ej:j=k
    ·exact e (ej▸b)
    ·exact q ⟨j,by omega,b⟩
/-- Owned segments are owned with all of their curve. -/
def Closed(f:α->α)(seg:α->Nat)(V:α->Prop)(o:List Int):Prop:=∀w,V w->(0<=at0 o (seg w)↔0<=at0 o (seg (f w)))
theorem Closed.it(hV:∀w,V w->V (f w)){o:List Int}(a:Closed f seg V o){w:α}(h:V w):∀k,V (itW f k w)∧(0<=at0 o (seg w)↔0<=at0 o (seg (itW f k w)))
 |0=>⟨h,Iff.rfl⟩
 |k+1=>by
  obtain⟨h1,h2⟩:=Closed.it hV a h k
  exact⟨hV _ h1,h2.trans (a _ h1)⟩
theorem Walks.closed(a:Walks f R seg V N){w:α}(h:V w){c:Int}(hc:0<=c){o:List Int}(ho:o.length=N)(cl:Closed f seg V o):Closed f seg V (paint f seg w c o (perW f w)):=by
 obtain⟨p1,p2,p3,p4⟩:=a.per h
 intro v hv
 rw[paint_at (by rw[ho];exact a.lt v hv),paint_at (by rw[ho];exact a.lt _ (a.vf v hv))]
 have key:(∃j,j<perW f w∧seg (itW f j w)=seg v)↔∃j,j<perW f w∧seg (itW f j w)=seg (f v):=by
  constructor
  ·rintro⟨j,h1,h2⟩
   rcases(a.sg _ _ (a.vi h j) hv).1 h2 with q|q
   ·by_cases e:j+1<perW f w
    ·exact⟨j+1,e,by simp only[itW];rw[q]⟩
    ·refine⟨0,p1,?_⟩
     have:itW f (j+1) w=w:=by rw[show j+1=perW f w by omega];exact p3
     simp only[itW]at this ⊢
     rw[<-q,this]
   · -- f^j w = R v, so R (f v) = f^(j-1) w
    have hb:f (R (f v))=R v:=a.fr v hv
    by_cases e:j=0
    ·subst e
     refine⟨perW f w-1,by omega,(a.sg _ _ (a.vi h _) (a.vf v hv)).2 (.inr ?_)⟩
     refine a.inj (a.vi h _) (a.vr _ (a.vf v hv)) ?_
     rw[hb,<-q]
     have:itW f (perW f w-1+1) w=w:=by rw[show perW f w-1+1=perW f w by omega];exact p3
     exact this
    ·refine⟨j-1,by omega,(a.sg _ _ (a.vi h _) (a.vf v hv)).2 (.inr ?_)⟩
     refine a.inj (a.vi h _) (a.vr _ (a.vf v hv)) ?_
     rw[hb,<-q]
     show itW f (j-1+1) w=_
     rw[show j-1+1=j by omega]
  ·rintro⟨j,h1,h2⟩
   rcases(a.sg _ _ (a.vi h j) (a.vf v hv)).1 h2 with q|q
   ·by_cases e:j=0
    ·subst e
     refine⟨perW f w-1,by omega,(a.sg _ _ (a.vi h _) hv).2 (.inl ?_)⟩
     refine a.inj (a.vi h _) hv ?_
     rw[<-q]
     show itW f (perW f w-1+1) w=_
     rw[show perW f w-1+1=perW f w by omega];exact p3
    ·refine⟨j-1,by omega,(a.sg _ _ (a.vi h _) hv).2 (.inl ?_)⟩
     refine a.inj (a.vi h _) hv ?_
     rw[<-q]
     show itW f (j-1+1) w=_
     rw[show j-1+1=j by omega]
   · -- f^j w = R (f v), so f^(j+1) w = R v
    have hb:f (R (f v))=R v:=a.fr v hv
    by_cases e:j+1<perW f w
    ·exact⟨j+1,e,(a.sg _ _ (a.vi h _) hv).2 (.inr (by simp only[itW];rw[q,hb]))⟩
    ·refine⟨0,p1,(a.sg _ _ h hv).2 (.inr ?_)⟩
     have:itW f (j+1) w=w:=by rw[show j+1=perW f w by omega];exact p3
     simp only[itW]at this
     rw[q,hb]at this
     exact this.symm
 by_cases q:∃j,j<perW f w∧seg (itW f j w)=seg v
 ·rw[if_pos q,if_pos (key.1 q)]
 ·rw[if_neg q,if_neg (λx=>q (key.2 x))];exact cl v hv
/-- After the first segments: the curve of each segment, the number of curves. -/
noncomputable def curvesSt(f:α->α)(seg:α->Nat)(wk:Nat->α)(N:Nat):Nat->List Int×Nat
 |0=>(List.replicate N (-1),0)
 |k+1=>if 0<=at0 (curvesSt f seg wk N k).1 k then curvesSt f seg wk N k else(paint f seg (wk k) (curvesSt f seg wk N k).2 (curvesSt f seg wk N k).1 (perW f (wk k)),(curvesSt f seg wk N k).2+1)
theorem Walks.st(a:Walks f R seg V N){wk:Nat->α}(hw:∀k,k<N->V (wk k)):∀k,k<=N->(curvesSt f seg wk N k).1.length=N∧Closed f seg V (curvesSt f seg wk N k).1∧(curvesSt f seg wk N k).2<=k
 |0,_=>by
  refine⟨by simp[curvesSt],?_,by simp[curvesSt]⟩
  intro w hw
  have h1:=a.lt w hw
  have h2:=a.lt _ (a.vf w hw)
  simp[curvesSt,at0,List.getD_eq_getElem?_getD,List.getElem?_replicate,h1,h2]
 |k+1,hk=>by
  obtain⟨h1,h2,h3⟩:=Walks.st a hw k (by omega)
  simp only[curvesSt]
  split
  ·exact⟨h1,h2,by omega⟩
  ·exact⟨by rw[paint_len,h1],a.closed (hw k (by omega)) (by omega) h1 h2,by simp only;omega⟩
/-- The steps of the walk that paints a curve: not owned before the end, owned at the end. -/
theorem Walks.run(a:Walks f R seg V N){w:α}(h:V w){c:Int}(hc:0<=c){o:List Int}(ho:o.length=N)(cl:Closed f seg V o)(hn:at0 o (seg w)<0):
  (∀k,k<perW f w->at0 (paint f seg w c o k) (seg (itW f k w))<0)∧0<=at0 (paint f seg w c o (perW f w)) (seg (itW f (perW f w) w)):=by
 obtain⟨p1,p2,p3,p4⟩:=a.per h
 constructor
 ·intro k hk
  have hv:=a.vi h k
  rw[paint_at (by rw[ho];exact a.lt _ hv),if_neg]
  ·have:=(Closed.it a.vf cl h k).2
   omega
  ·rintro⟨j,hj,e⟩
   exact a.dist h hj hk e
 ·rw[p3,paint_at (by rw[ho];exact a.lt _ h),if_pos ⟨0,p1,rfl⟩];exact hc
end
abbrev Wk:=Int×Int×Int×Int
def edgeW(W H:Nat)(x y:Int):Prop:=x=0∨x=2*W∨y=0∨y=2*H
instance (W H:Nat)(x y:Int):Decidable (edgeW W H x y):=by unfold edgeW;infer_instance
def kindW(W H:Nat)(br:List Int)(x y:Int):Int:=if edgeW W H x y then 0 else at0 br (numP W x.toNat y.toNat)
def stepW(W H:Nat)(br:List Int)(w:Wk):Wk:=
 (w.1+w.2.2.1,w.2.1+w.2.2.2,
  if w.1+w.2.2.1=0∨w.1+w.2.2.1=2*W∨kindW W H br (w.1+w.2.2.1) (w.2.1+w.2.2.2)=1 then -w.2.2.1 else w.2.2.1,
  if w.2.1+w.2.2.2=0∨w.2.1+w.2.2.2=2*H∨kindW W H br (w.1+w.2.2.1) (w.2.1+w.2.2.2)=2 then -w.2.2.2 else w.2.2.2)
def backW(w:Wk):Wk:=(w.1+w.2.2.1,w.2.1+w.2.2.2,-w.2.2.1,-w.2.2.2)
structure OkW (W H:Nat) (w:Wk):Prop where
 dx:w.2.2.1=1∨w.2.2.1=-1
 dy:w.2.2.2=1∨w.2.2.2=-1
 x:0<=w.1∧w.1<=2*W
 y:0<=w.2.1∧w.2.1<=2*H
 nx:0<=w.1+w.2.2.1∧w.1+w.2.2.1<=2*W
 ny:0<=w.2.1+w.2.2.2∧w.2.1+w.2.2.2<=2*H
 p:(w.1+w.2.1)%2=1
def minI(a b:Int):Int:=if a<=b then a else b
def segW(H:Nat)(w:Wk):Nat:=(minI w.1 (w.1+w.2.2.1)*(2*H)+minI w.2.1 (w.2.1+w.2.2.2)).toNat
theorem minI_one{x d:Int}(h:d=1∨d=-1):minI x (x+d)=if d=1 then x else x-1:=by
 unfold minI;rcases h with rfl|rfl
 ·rw[if_pos (by omega),if_pos rfl]
 ·rw[if_neg (by omega),if_neg (by omega)];omega
theorem pair_eq{H a b c d:Int}(h:0<H)(hb:0<=b∧b<H)(hd:0<=d∧d<H)(e:a*H+b=c*H+d):a=c∧b=d:=by
 have h1:(a*H+b)/H=a:=by
  rw[Int.add_comm,Int.add_mul_ediv_right _ _ (by omega),Int.ediv_eq_zero_of_lt hb.1 hb.2];omega
 have h2:(c*H+d)/H=c:=by
  rw[Int.add_comm,Int.add_mul_ediv_right _ _ (by omega),Int.ediv_eq_zero_of_lt hd.1 hd.2];omega
 have:a=c:=by rw[<-h1,e,h2]
 subst this
 exact⟨rfl,by omega⟩
theorem seg_bd{W H:Nat}{w:Wk}(h:OkW W H w):(0<=minI w.1 (w.1+w.2.2.1)∧minI w.1 (w.1+w.2.2.1)<=2*W-1)∧(0<=minI w.2.1 (w.2.1+w.2.2.2)∧minI w.2.1 (w.2.1+w.2.2.2)<=2*H-1):=by
 obtain⟨dx,dy,x,y,nx,ny,p⟩:=h
 rw[minI_one dx,minI_one dy]
 rcases dx with e|e<;>rcases dy with e'|e'<;>rw[e,e']<;>rw[e]at nx<;>rw[e']at ny<;>simp<;>omega
theorem seg_cast{W H:Nat}{w:Wk}(h:OkW W H w):(segW H w:Int)=minI w.1 (w.1+w.2.2.1)*(2*H)+minI w.2.1 (w.2.1+w.2.2.2):=by
 obtain⟨⟨a,_⟩,b,_⟩:=seg_bd h
 have:0<=minI w.1 (w.1+w.2.2.1)*(2*(H:Int)):=Int.mul_nonneg a (by omega)
 unfold segW;omega
theorem seg_lt{W H:Nat}{w:Wk}(h:OkW W H w):segW H w<4*W*H:=by
 obtain⟨⟨a,a'⟩,b,b'⟩:=seg_bd h
 have hc:=seg_cast h
 have h1:minI w.1 (w.1+w.2.2.1)*(2*(H:Int))<=(2*W-1)*(2*H):=Int.mul_le_mul_of_nonneg_right a' (by omega)
 have h2:((2:Int)*W-1)*(2*H)=4*W*H-2*H:=by
  rw[Int.sub_mul];simp only[Int.one_mul]
  congr 1
  rw[show(2:Int)*W*(2*H)=(2*2)*(W*H)by ac_rfl,show(4:Int)*W*H=4*(W*H)by ac_rfl]
  rfl
 have h3:((4*W*H:Nat):Int)=4*W*H:=by simp
 omega
theorem kindW_edge{W H:Nat}{br:List Int}{x y:Int}(h:edgeW W H x y):kindW W H br x y=0:=if_pos h
theorem walks{W H:Nat}{br:List Int}(w1:1<=W)(h1:1<=H):Walks (stepW W H br) backW (segW H) (OkW W H) (4*W*H) where
 vf:=by
  rintro⟨x,y,dx,dy⟩⟨hdx,hdy,hx,hy,hnx,hny,hp⟩
  simp only at*
  have c1:∀k:Int,(if x+dx=0∨x+dx=2*(W:Int)∨k=1 then -dx else dx)=1∨(if x+dx=0∨x+dx=2*(W:Int)∨k=1 then -dx else dx)=-1:=by intro k;split<;>omega
  have c2:∀k:Int,(if y+dy=0∨y+dy=2*(H:Int)∨k=2 then -dy else dy)=1∨(if y+dy=0∨y+dy=2*(H:Int)∨k=2 then -dy else dy)=-1:=by intro k;split<;>omega
  refine⟨c1 _,c2 _,hnx,hny,?_,?_,by simp only[stepW];omega⟩
  ·simp only[stepW];split<;>omega
  ·simp only[stepW];split<;>omega
 vr:=by
  rintro⟨x,y,dx,dy⟩⟨hdx,hdy,hx,hy,hnx,hny,hp⟩
  simp only at*
  refine⟨?_,?_,hnx,hny,?_,?_,?_⟩<;>simp only[backW]<;>omega
 rr:=by
  rintro⟨x,y,dx,dy⟩
  simp only[backW,Prod.mk.injEq]
  omega
 fr:=by
  rintro⟨x,y,dx,dy⟩⟨hdx,hdy,hx,hy,hnx,hny,hp⟩
  simp only at*
  have e1:∀a:Int,x+dx+a+-a=x+dx:=by intro a;omega
  have e2:∀a:Int,y+dy+a+-a=y+dy:=by intro a;omega
  simp only[stepW,backW,e1,e2,Prod.mk.injEq,true_and]
  constructor
  ·split<;>simp
  ·split<;>simp
 ne:=by
  rintro⟨x,y,dx,dy⟩⟨hdx,hdy,hx,hy,hnx,hny,hp⟩ e
  simp only[stepW,backW,Prod.mk.injEq,true_and]at*
  obtain⟨e1,e2⟩:=e
  have hk:=kindW_edge (W:=W) (H:=H) (br:=br) (x:=x+dx) (y:=y+dy)
  unfold edgeW at hk
  split at e1
  ·split at e2
   ·rename_i q1 q2
    have:¬(x+dx=0∨x+dx=2*(W:Int)∨y+dy=0∨y+dy=2*(H:Int))∨kindW W H br (x+dx) (y+dy)=0:=by
     by_cases q:x+dx=0∨x+dx=2*(W:Int)∨y+dy=0∨y+dy=2*(H:Int)
     ·exact .inr (hk q)
     ·exact .inl q
    omega
   ·omega
  ·omega
 nr:=by
  rintro⟨x,y,dx,dy⟩⟨hdx,hdy,hx,hy,hnx,hny,hp⟩ e
  simp only[backW,Prod.mk.injEq]at*
  omega
 sg:=by
  intro w v hw hv
  have cw:=seg_cast hw
  have cv:=seg_cast hv
  obtain⟨⟨a,a'⟩,b,b'⟩:=seg_bd hw
  obtain⟨⟨c,c'⟩,d,d'⟩:=seg_bd hv
  constructor
  ·intro e
   rw[e,cv]at cw
   obtain⟨e1,e2⟩:=pair_eq (H:=2*(H:Int)) (by omega) ⟨d,by omega⟩ ⟨b,by omega⟩ cw
   obtain⟨x,y,dx,dy⟩:=w
   obtain⟨x',y',dx',dy'⟩:=v
   obtain⟨hdx,hdy,hx,hy,hnx,hny,hp⟩:=hw
   obtain⟨hdx',hdy',hx',hy',hnx',hny',hp'⟩:=hv
   simp only at*
   rw[minI_one hdx,minI_one hdx']at e1
   rw[minI_one hdy,minI_one hdy']at e2
   simp only[backW,Prod.mk.injEq]
   rcases hdx with rfl|rfl<;>rcases hdy with rfl|rfl<;>rcases hdx' with rfl|rfl<;>rcases hdy' with rfl|rfl<;>simp at e1 e2 ⊢<;>omega
  ·rintro(e|e)
   ·rw[e]
   ·have:(segW H w:Int)=segW H v:=by
     rw[cw,cv,e]
     obtain⟨x',y',dx',dy'⟩:=v
     simp only[backW]
     have q1:∀p d:Int,minI (p+d) (p+d+-d)=minI p (p+d):=by
      intro p d;unfold minI
      rw[show p+d+-d=p by omega]
      split<;>split<;>omega
     rw[q1,q1]
    omega
 lt:=λw h=>seg_lt h
/-- The walker along a segment, to the right. -/
def wkW(H:Nat)(k:Nat):Wk:=if(k/(2*H)+k%(2*H))%2=1 then((k/(2*H):Nat),(k%(2*H):Nat),1,1)else((k/(2*H):Nat),(k%(2*H):Nat)+1,1,-1)
theorem wkW_ok{W H k:Nat}(h1:1<=H)(hk:k<4*W*H):OkW W H (wkW H k):=by
 have a:k%(2*H)<2*H:=Nat.mod_lt _ (by omega)
 have b:k/(2*H)<2*W:=by
  rw[Nat.div_lt_iff_lt_mul (by omega)]
  have:2*W*(2*H)=4*W*H:=by
   rw[show 2*W*(2*H)=(2*2)*(W*H)by ac_rfl,show 4*W*H=4*(W*H)by ac_rfl]
  omega
 unfold wkW
 generalize k/(2*H)=q at*
 generalize k%(2*H)=r at*
 split<;>constructor<;>simp only<;>first|omega|simp
theorem wkW_seg{W H k:Nat}(h1:1<=H)(hk:k<4*W*H):segW H (wkW H k)=k:=by
 have hc:=seg_cast (wkW_ok (W:=W) h1 hk)
 have hd:=Nat.div_add_mod k (2*H)
 have hd':((2*H*(k/(2*H)):Nat):Int)=((k/(2*H):Nat):Int)*(2*H):=by
  rw[Nat.mul_comm];simp
 have:(segW H (wkW H k):Int)=k:=by
  rw[hc]
  unfold wkW minI
  split
  ·simp only;rw[if_pos (by omega),if_pos (by omega)];omega
  ·simp only;rw[if_pos (by omega),if_neg (by omega)];omega
 omega
noncomputable def curvesP(X:Pan):List Int×Nat:=curvesSt (stepW X.1.toNat X.2.1.toNat X.2.2) (segW X.2.1.toNat) (wkW X.2.1.toNat) (4*X.1.toNat*X.2.1.toNat) (4*X.1.toNat*X.2.1.toNat)
/-- The number of curves. -/
noncomputable def curveN(X:Pan):Nat:=(curvesP X).2
end Am

/- Contracts: AmJ2, AmJ3, AmJ4, AmJ5, AmJ6, AmJ7. -/
import Derived.Test.YtpgioncclmancaaGreatAmK2
set_option linter.unusedVariables false
set_option linter.unusedSimpArgs false
set_option maxHeartbeats 4000000
set_option maxRecDepth 40000
namespace Am
open Go
theorem c558(h:Heap)(hp:0<h.length)(v0:Value)(X0:Jrn)(hv0:PtJ h v0 X0)(hs0:siz shJournal X0<=1048576):
  ACall Gam 558 [v0] h λr h'=>Grows h h'∧r=B (okJ X0):=by
 have hv0':=hv0
 obtain⟨⟨W,H,br⟩,p,f⟩:=X0
 rw[siz_journal]at hs0
 obtain⟨jb,jo,s,sp,sf,rfl,hc,r1,r2,r3,w1,w2⟩:=hv0
 obtain⟨pb,po,pz,rfl,hpm,hpe⟩:=trips_at r2
 obtain⟨fb,fo,fz,rfl,hfm,hfe⟩:=trips_at r3
 rw[maxLen_eq]at hpm hfm
 have k3:cell h jb (jo+3)=_:=(cell_in (i:=3) hc (by omega)).1
 have k4:cell h jb (jo+4)=_:=(cell_in (i:=4) hc (by omega)).1
 simp at k3 k4
 have hpt:=hv0'.panel
 simp only at hpt
 refine ACall_intro g558 rfl ?_
 unfold fn558
 simp(disch:=omega)
 refine callW_of (c452 _ _ h hpt) ?_
 rintro _ h1⟨rfl,rfl⟩
 cases q:okP (W,H,br)
 ·simp[okJ,q]
  exact Grows.refl _
 have ok:=okP_iff.1 q
 have hbl:=ok_len ok
 simp(disch:=omega)[k3,k4,wrap64]
 refine fork_dec (λhgt=>?_) (λhle=>?_)
 ·have:¬p.length+f.length<=50:=by omega
  simp[okJ,q,this]
  exact Grows.refl _
 have hle:p.length+f.length<=50:=by omega
 have eJ:okJ ((W,H,br),p,f)=((runB p.reverse br).isSome&&(runF f br).isSome):=by simp[okJ,q,hle]
 rw[eJ]
 simp(disch:=omega)
 refine callW_of (c453 h1 _ _ hp hpt (by simp only;omega)) ?_
 rintro _ h2⟨g2,o2⟩
 obtain⟨so,rfl,_,_,o2⟩:=o2.panel
 obtain⟨bb,zz,rfl,hb⟩:=own_slice o2
 obtain⟨n,hn⟩:∃n,n=br.length:=⟨_,rfl⟩
 rw[<-hn]at hb ⊢
 have hsb:storeAt (h2++[⟨[I 0,I 0,sl 0 0 0 0],true⟩]) h2.length 0 [I W,I H,sl bb 0 n zz]=some (h2++[⟨[I W,I H,sl bb 0 n zz],true⟩]):=store_box rfl
 simp(disch:=omega)[hsb]
 obtain⟨h3,e3⟩:∃h3,h3=h2++[⟨[I W,I H,sl bb 0 n zz],true⟩]:=⟨_,rfl⟩
 rw[<-e3]
 have g3:Grows h2 h3:=⟨_,e3⟩
 have l3:h3.length=h2.length+1:=by rw[e3];simp
 have b3:h3[h2.length]?=some ⟨[I W,I H,sl bb 0 n zz],true⟩:=by rw[e3];simp
 have G3:=g2.trans g3
 have c3:=G3.cell k3
 have l2:=g2.le
 simp(disch:=omega)[c3,wrap64]
 refine awp_loop (λ(k:Nat) σ h'=>k<=p.length∧Grows h1 h'∧h'[h2.length]?=some ⟨[I W,I H,sl bb 0 n zz],true⟩∧σ 0=pt jb jo∧σ 3=pt h2.length 0∧σ 4=I ((p.length:Int)-1-k)∧
  ∃cur:List Int,cur.length=n∧runB (p.reverse.drop k) cur=runB p.reverse br∧(n=0∨h'[bb]?=some ⟨ints cur,true⟩∧h1.length<=bb∧bb<h2.length)) (λk=>p.length-k) 0 ?_ ?_
 ·refine⟨by omega,G3,b3,by simp,by simp,by simp,br,hn.symm,by simp,hb.imp id λe=>⟨g3.at e.1,e.2⟩⟩
 rintro k σ h'⟨hk,hg,hkb,q0,q3,q4,cur,hcl,hrun,hb⟩
 simp(disch:=omega)[q4]
 refine fork_dec (λhlt=>?_) (λhge=>?_)
 ·have k1:k<p.length:=by omega
  obtain⟨j,hj⟩:∃j,j=p.length-1-k:=⟨_,rfl⟩
  have j1:j<p.length:=by omega
  have ej:(p.length:Int)-1-k=(j:Int):=by omega
  have hd:p.reverse.drop k=p[j]::p.reverse.drop (k+1):=by
   rw[List.drop_eq_getElem_cons (by simpa using k1)]
   congr 1
   rw[List.getElem_reverse]
   congr 1
   omega
  rw[hd]at hrun
  have hcell:=grows_cellsAt hg (hpe j j1)
  have c3:=hg.cell k3
  have cl2:cell h' h2.length 2=some (sl bb 0 n zz):=by simp[cell,hkb]
  rw[ej]at q4
  obtain⟨⟨t1,t2,t3⟩,ht⟩:∃t,t=p[j]:=⟨_,rfl⟩
  rw[<-ht]at hrun hcell
  simp only[runB,hcl]at hrun
  simp(disch:=omega)[q0,q3,q4,j1,c3,hcell,trip]
  refine callW_of (c562 h' h2.length 0 bb 0 n zz (t1,t2,t3) (by rw[maxLen_eq];omega) cl2) ?_
  rintro _ h'⟨rfl,rfl⟩
  cases hs:okStep n (t1,t2,t3)
  ·simp only[hs,Bool.false_and,Bool.false_eq_true,if_false]at hrun
   simp[<-hrun]
   exact hg
  have hso:=okStep_iff.1 hs
  simp only at hso
  have hne:n≠0:=by omega
  obtain⟨hb1,hb2⟩:=hb.resolve_left hne
  obtain⟨t,rfl⟩:=Int.eq_ofNat_of_zero_le hso.1.1
  have htn:t<cur.length:=by omega
  have htn':t<n:=by omega
  have hci:=cell_int hb1 htn
  simp only[hs,Bool.true_and,Int.toNat_natCast]at hrun
  simp(disch:=omega)[q0,q3,q4,cl2,hci,htn']
  refine fork_dec (λhe=>?_) (λhe=>?_)
  ·simp only[he,decide_true,if_true]at hrun
   have hst:=store_int (v:=t2) hb1 htn
   simp(disch:=omega)[q0,q3,q4,cl2,hst,htn',wrap64]
   refine⟨k+1,⟨by omega,hg.put hb2.1 _,by first|exact hkb|(rw[List.getElem?_set_ne (by omega)];exact hkb),by omega,cur.set t t2,by simpa using hcl,hrun,.inr ⟨by simp[at_lt hb1],hb2⟩⟩,by omega⟩
  ·simp only[he,decide_false,Bool.false_eq_true,if_false]at hrun
   simp[<-hrun]
   exact hg
 have hkp:k=p.length:=by omega
 rw[List.drop_of_length_le (by simp;omega)]at hrun
 simp only[runB]at hrun
 rw[<-hrun]
 simp(disch:=omega)[q0,q3]
 refine callW_of (c453 h' _ _ (pos_of hp hg) (hpt.grow hg) (by simp only;omega)) ?_
 rintro _ h4⟨g4,o4⟩
 obtain⟨so,rfl,_,_,o4⟩:=o4.panel
 obtain⟨bb,zz,rfl,hb⟩:=own_slice o4
 rw[<-hn]at hb ⊢
 have b4:=g4.at hkb
 have hst:=storeAt_whole (cs:=[I W,I H,sl bb 0 n zz]) b4 rfl
 simp(disch:=omega)[q0,q3,hst]
 obtain⟨h5,e5⟩:∃h5,h5=h4.set h2.length ⟨[I W,I H,sl bb 0 n zz],true⟩:=⟨_,rfl⟩
 rw[<-e5]
 have b5:h5[h2.length]?=some ⟨[I W,I H,sl bb 0 n zz],true⟩:=by rw[e5];simp[at_lt b4]
 have G5:Grows h1 h5:=by rw[e5];exact(hg.trans g4).put l2 _
 have l4:=at_lt hkb
 refine awp_loop (λ(k:Nat) σ h'=>k<=f.length∧Grows h1 h'∧h'[h2.length]?=some ⟨[I W,I H,sl bb 0 n zz],true⟩∧σ 0=pt jb jo∧σ 3=pt h2.length 0∧σ 6=I k∧
  ∃cur:List Int,cur.length=n∧runF (f.drop k) cur=runF f br∧(n=0∨h'[bb]?=some ⟨ints cur,true⟩∧h1.length<=bb∧h2.length≠bb)) (λk=>f.length-k) 0 ?_ ?_
 ·refine⟨by omega,G5,b5,by simp[q0],by simp[q3],by simp,br,hn.symm,by simp,hb.imp id λe=>⟨?_,by have:=hg.le;omega,by omega⟩⟩
  rw[e5,List.getElem?_set_ne (by omega)];exact e.1
 rintro k σ h'⟨hk,hg,hkb,q0,q3,q6,cur,hcl,hrun,hb⟩
 have c4:=hg.cell k4
 simp(disch:=omega)[q0,q6,c4]
 refine fork_dec (λhlt=>?_) (λhge=>?_)
 ·have k1:k<f.length:=by omega
  rw[List.drop_eq_getElem_cons k1]at hrun
  have hcell:=grows_cellsAt hg (hfe k k1)
  have cl2:cell h' h2.length 2=some (sl bb 0 n zz):=by simp[cell,hkb]
  obtain⟨⟨t1,t2,t3⟩,ht⟩:∃t,t=f[k]:=⟨_,rfl⟩
  rw[<-ht]at hrun hcell
  simp only[runF,hcl]at hrun
  simp(disch:=omega)[q0,q3,q6,k1,c4,hcell,trip]
  refine callW_of (c562 h' h2.length 0 bb 0 n zz (t1,t2,t3) (by rw[maxLen_eq];omega) cl2) ?_
  rintro _ h'⟨rfl,rfl⟩
  cases hs:okStep n (t1,t2,t3)
  ·simp only[hs,Bool.false_and,Bool.false_eq_true,if_false]at hrun
   simp[<-hrun]
   exact hg
  have hso:=okStep_iff.1 hs
  simp only at hso
  have hne:n≠0:=by omega
  obtain⟨hb1,hb2⟩:=hb.resolve_left hne
  obtain⟨t,rfl⟩:=Int.eq_ofNat_of_zero_le hso.1.1
  have htn:t<cur.length:=by omega
  have htn':t<n:=by omega
  have hci:=cell_int hb1 htn
  simp only[hs,Bool.true_and,Int.toNat_natCast]at hrun
  simp(disch:=omega)[q0,q3,q6,cl2,hci,htn']
  refine fork_dec (λhe=>?_) (λhe=>?_)
  ·simp only[he,decide_true,if_true]at hrun
   have hst:=store_int (v:=t3) hb1 htn
   simp(disch:=omega)[q0,q3,q6,cl2,hst,htn',wrap64]
   refine⟨k+1,⟨by omega,hg.put hb2.1 _,by first|exact hkb|(rw[List.getElem?_set_ne (λe=>hb2.2 e.symm)];exact hkb),by omega,cur.set t t3,by simpa using hcl,hrun,.inr ⟨by simp[at_lt hb1],hb2⟩⟩,by omega⟩
  ·simp only[he,decide_false,Bool.false_eq_true,if_false]at hrun
   simp[<-hrun]
   exact hg
 have hkp:k=f.length:=by omega
 rw[List.drop_of_length_le (by omega)]at hrun
 simp only[runF]at hrun
 simp[<-hrun]
 exact hg
def noJ:Jrn:=((0,0,[]),[],[])
theorem i64zero:I64 0:=by unfold I64;omega
theorem Vo.no_journal{h:Heap}{lo hi:Nat}:Vo h lo hi shJournal (.agg #[I 0,I 0,sl 0 0 0 0,sl 0 0 0 0,sl 0 0 0 0]) noJ:=by
 refine Vo.of_journal (l1:=0) (u1:=0) (l2:=0) (u2:=0) (l3:=0) (u3:=0) i64zero i64zero Vo.no_ints Vo.no_steps Vo.no_steps ?_ ?_ ?_ ?_ ?_ ?_<;>((first|unfold Sub2|unfold Dis)<;>omega)
theorem noJ_siz:siz shJournal noJ=0:=by unfold noJ;rw[siz_journal];rfl
theorem c427(h:Heap)(hp:0<h.length)(v0:Value)(X0:Jrn)(hv0:Vr h shJournal v0 X0)(hs0:siz shJournal X0<=1048576):
  ACall Gam 427 [v0] h λr h'=>Grows h h'∧r=B (okJ X0):=by
 obtain⟨⟨W,H,br⟩,p,f⟩:=X0
 obtain⟨s,sp,sf,rfl,w1,w2,r1,r2,r3⟩:=hv0.journal
 refine ACall_intro g427 rfl ?_
 unfold fn427
 simp(disch:=omega)
 obtain⟨ha,eha⟩:∃ha,ha=h++[⟨[I W,I H,s,sp,sf],true⟩]:=⟨_,rfl⟩
 rw[<-eha]
 have ga:Grows h ha:=⟨_,eha⟩
 have ka:ha[h.length]?=some ⟨[I W,I H,s,sp,sf],true⟩:=by rw[eha];simp
 refine callW_of (c558 ha (pos_of hp ga) _ _ (PtJ.of ka (r1.grow ga) (r2.grow ga) (r3.grow ga) w1 w2) hs0) ?_
 rintro _ h1⟨g1,rfl⟩
 simp(disch:=omega)
 exact ga.trans g1
def njAns(X:Pan):Jrn×Int:=if okP X then((X,[],[]),0)else(noJ,1)
theorem nj_siz(X:Pan)(hs:siz shPanel X<=1048576):siz shJournal (njAns X).1<=16777216:=by
 obtain⟨W,H,br⟩:=X
 rw[siz_panel]at hs
 unfold njAns
 split
 ·rw[siz_journal];simp;omega
 ·rw[noJ_siz];omega
theorem Vo.new_journal{h:Heap}{lo hi:Nat}{W H:Int}{br:List Int}{s:Value}(h1:I64 W)(h2:I64 H)(o:Vo h lo hi shInts s br):Vo h lo hi shJournal (.agg #[I W,I H,s,sl 0 0 0 0,sl 0 0 0 0]) ((W,H,br),[],[]):=by
 have hlt:lo<=hi∨hi<lo:=by omega
 rcases hlt with hlt|hlt
 ·refine Vo.of_journal (l1:=lo) (u1:=hi) (l2:=0) (u2:=0) (l3:=0) (u3:=0) h1 h2 o Vo.no_steps Vo.no_steps ?_ ?_ ?_ ?_ ?_ ?_<;>((first|unfold Sub2|unfold Dis)<;>omega)
 ·have o':Vo h 0 0 shInts s br:=by
   obtain⟨cs,bs,r,e,n,hb⟩:=o
   refine⟨cs,bs,r,e,n,λb hb'=>?_⟩
   have:=hb b hb'
   omega
  refine Vo.of_journal (l1:=0) (u1:=0) (l2:=0) (u2:=0) (l3:=0) (u3:=0) h1 h2 o' Vo.no_steps Vo.no_steps ?_ ?_ ?_ ?_ ?_ ?_<;>((first|unfold Sub2|unfold Dis)<;>omega)
theorem c101(h:Heap)(hp:0<h.length)(v0:Value)(X0:Pan)(hv0:Vr h shPanel v0 X0)(hs0:siz shPanel X0<=1048576):
  ACall Gam 101 [v0] h λr h'=>Grows h h'∧∃r0,r=.tuple #[r0,I (njAns X0).2]∧Vo h' h.length h'.length shJournal r0 (njAns X0).1∧siz shJournal (njAns X0).1<=16777216:=by
 have hsz:=nj_siz X0 hs0
 obtain⟨W,H,br⟩:=X0
 rw[siz_panel]at hs0
 have hv0':=hv0
 obtain⟨s,rfl,w1,w2,r1⟩:=hv0.panel
 refine ACall_intro g101 rfl ?_
 unfold fn101
 simp(disch:=omega)
 refine callW_of (c140 _ _ h hv0') ?_
 rintro _ h1⟨rfl,rfl⟩
 cases q:okP (W,H,br)
 ·have e:njAns (W,H,br)=(noJ,1):=by simp[njAns,q]
  rw[e]at hsz ⊢
  simp(disch:=omega)[resOf,resAll,resOne,aField]
  exact⟨Grows.refl _,Vo.no_journal,hsz⟩
 have e:njAns (W,H,br)=(((W,H,br),[],[]),0):=by simp[njAns,q]
 rw[e]at hsz ⊢
 simp(disch:=omega)
 refine callW_of (c150 h1 _ _ hp hv0' hs0) ?_
 rintro _ h2⟨g2,o2⟩
 obtain⟨so,rfl,_,_,o2⟩:=o2.panel
 obtain⟨bb,zz,e2,_⟩:=o2.ints
 subst e2
 simp(disch:=omega)[resOf,resAll,resOne,aField]
 exact⟨g2,Vo.new_journal w1 w2 o2,hsz⟩
def startB(X:Jrn):List Int:=(runB X.2.1.reverse X.1.2.2).getD []
theorem runB_ok:∀{l:List Trip} {br c:List Int},runB l br=some c->c.length=br.length∧((∀x∈br,0<=x∧x<=2)->∀x∈c,0<=x∧x<=2)
 |[],br,c,h=>by simp only[runB,Option.some.injEq]at h;subst h;exact⟨rfl,λh=>h⟩
 |s::l,br,c,h=>by
  simp only[runB]at h
  split at h
  ·rename_i hs
   simp only[Bool.and_eq_true]at hs
   obtain⟨h1,h2⟩:=runB_ok h
   refine⟨by simpa using h1,λhb=>h2 λx hx=>?_⟩
   rcases List.mem_or_eq_of_mem_set hx with hx|rfl
   ·exact hb x hx
   ·exact(okStep_iff.1 hs.1).2.1
  ·cases h
theorem runB_step{n:Nat}{s:Trip}{l:List Trip}{br c:List Int}(hn:br.length=n)(h:runB (s::l) br=some c):(0<=s.1∧s.1<n)∧runB l (br.set s.1.toNat s.2.1)=some c:=by
 simp only[runB]at h
 split at h
 ·rename_i hs
  simp only[Bool.and_eq_true]at hs
  have:=(okStep_iff.1 hs.1).1
  exact⟨by omega,h⟩
 ·cases h
theorem okJ_parts{W H:Int}{br:List Int}{p f:List Trip}(h:okJ ((W,H,br),p,f)=true):OkP (W,H,br)∧p.length+f.length<=50∧(∃c,runB p.reverse br=some c)∧∃c,runF f br=some c:=by
 simp only[okJ,Bool.and_eq_true,decide_eq_true_eq,Option.isSome_iff_exists]at h
 exact⟨okP_iff.1 h.1,h.2.1,h.2.2.1,h.2.2.2⟩
theorem cur_64{c:List Int}(h:∀x∈c,0<=x∧x<=2):∀x∈c,I64 x:=λx hx=>rng_64' (h x hx)
where rng_64' {x:Int} (h:0<=x∧x<=2):I64 x:=by unfold I64;omega
theorem rev_drop{α:Type}{p:List α}{k j:Nat}(hk:k<p.length)(hj:j=p.length-1-k):p.reverse.drop k=p[j]'(by omega)::p.reverse.drop (k+1):=by
 rw[List.drop_eq_getElem_cons (by simpa using hk)]
 congr 1
 rw[List.getElem_reverse]
 congr 1
 omega
theorem c22(h:Heap)(hp:0<h.length)(v0:Value)(W H:Int)(br:List Int)(p f:List Trip)(hv0:Vr h shJournal v0 ((W,H,br),p,f))(hok:okJ ((W,H,br),p,f)=true):
  ACall Gam 22 [v0] h λr h'=>Grows h h'∧Vo h' h.length h'.length shPanel r (W,H,startB ((W,H,br),p,f)):=by
 obtain⟨ok,hle,⟨fin,hfin⟩,_⟩:=okJ_parts hok
 have hbl:=ok_len ok
 have eS:startB ((W,H,br),p,f)=fin:=by simp[startB,hfin]
 rw[eS]
 obtain⟨hf1,hf2⟩:=runB_ok hfin
 obtain⟨s,sp,sf,rfl,w1,w2,r1,r2,r3⟩:=hv0.journal
 have rp:Vr h shPanel (.agg #[I W,I H,s]) (W,H,br):=Vr.of_panel w1 w2 r1
 have hcp:=r2.trips
 obtain⟨pb,po,pz,rfl,_,hpm,hpx,hpc⟩:=hcp
 rw[maxLen_eq]at hpm
 refine ACall_intro g22 rfl ?_
 unfold fn22
 simp(disch:=omega)
 refine callW_of (c150 h _ _ hp rp (by simp only;omega)) ?_
 rintro _ h2⟨g2,o2⟩
 obtain⟨so,rfl,_,_,o2⟩:=o2.panel
 obtain⟨bb,zz,rfl,hz,_,_,hb⟩:=o2.ints
 obtain⟨n,hn⟩:∃n,n=br.length:=⟨_,rfl⟩
 have hz':zz=1∨bb=0∧n=0:=hz.imp id λe=>⟨e.1,by rw[hn,e.2];rfl⟩
 have hb':n=0∨h2[bb]?=some ⟨ints br,true⟩∧h.length<=bb:=hb.imp (λe=>by rw[hn,e];rfl) λe=>⟨e.1,e.2.1⟩
 rw[<-hn]at hf1 ⊢
 simp(disch:=omega)[wrap64]
 refine awp_loop (λ(k:Nat) σ h'=>k<=p.length∧Grows h h'∧σ 1=.agg #[I W,I H,s,sl pb po p.length pz,sf]∧σ 2=.agg #[I 0,I 0,sl 0 0 0 0]∧σ 3=.agg #[I W,I H,sl bb 0 n zz]∧σ 4=I ((p.length:Int)-1-k)∧
  ∃cur:List Int,cur.length=n∧runB (p.reverse.drop k) cur=some fin∧(n=0∨h'[bb]?=some ⟨ints cur,true⟩∧h.length<=bb)) (λk=>p.length-k) 0 ?_ ?_
 ·refine⟨by omega,g2,by simp,by simp,by simp,by simp,br,hn.symm,by simpa using hfin,hb'⟩
 rintro k σ h'⟨hk,hg,q1,q2,q3,q4,cur,hcl,hrun,hb⟩
 simp(disch:=omega)[q4]
 refine fork_dec (λhlt=>?_) (λhge=>?_)
 ·have k1:k<p.length:=by omega
  obtain⟨j,hj⟩:∃j,j=p.length-1-k:=⟨_,rfl⟩
  have j1:j<p.length:=by omega
  have ej:(p.length:Int)-1-k=(j:Int):=by omega
  rw[rev_drop k1 hj]at hrun
  obtain⟨⟨t1,t2⟩,hrun⟩:=runB_step hcl hrun
  have hne:n≠0:=by omega
  obtain⟨hb1,hb2⟩:=hb.resolve_left hne
  obtain⟨t,ht⟩:=Int.eq_ofNat_of_zero_le t1
  obtain⟨ca,cb,_⟩:=trips_cell (hpc.imp id (grows_cellsAt hg)) j1
  rw[ht,Int.toNat_natCast]at hrun
  rw[ht]at t2 ca
  have htn:t<cur.length:=by omega
  have htn':t<n:=by omega
  rw[ej]at q4
  have hst:=store_int (v:=p[j].2.1) hb1 htn
  simp(disch:=omega)[q1,q2,q3,q4,j1,ca,cb,hst,htn',wrap64]
  exact⟨k+1,⟨by omega,hg.put hb2 _,by omega,cur.set t p[j].2.1,by simpa using hcl,hrun,.inr ⟨by simp[at_lt hb1],hb2⟩⟩,by omega⟩
 ·have hkp:k=p.length:=by omega
  rw[List.drop_of_length_le (by simp;omega)]at hrun
  simp only[runB,Option.some.injEq]at hrun
  subst hrun
  simp(disch:=omega)[q1,q2,q3,resOf_box,aField]
  have:=Vo.of_ints (h:=h') (b:=bb) (lo:=h.length) (hi:=h'.length) (z:=zz) (X:=cur) (hz'.imp id λe=>⟨e.1,by rw[e.2]at hcl;exact List.length_eq_zero_iff.1 hcl⟩) (by rw[maxLen_eq];omega) (cur_64 (hf2 ok.b)) (by
   rcases hb with e|e
   ·left;rw[e]at hcl;exact List.length_eq_zero_iff.1 hcl
   ·exact .inr ⟨e.1,e.2,at_lt e.1⟩)
  rw[hcl]at this
  exact⟨hg,Vo.of_panel w1 w2 this⟩
theorem startB_ok{W H:Int}{br:List Int}{p f:List Trip}(h:okJ ((W,H,br),p,f)=true):(startB ((W,H,br),p,f)).length=br.length∧∀x∈startB ((W,H,br),p,f),0<=x∧x<=2:=by
 obtain⟨ok,hle,⟨fin,hfin⟩,_⟩:=okJ_parts h
 obtain⟨h1,h2⟩:=runB_ok hfin
 have e:startB ((W,H,br),p,f)=fin:=by simp[startB,hfin]
 rw[e]
 exact⟨h1,h2 ok.b⟩
/-- A slice whose cells are these, in memory of our own; more cells may lie behind. -/
def Bf(h:Heap)(lo hi:Nat)(v:Value)(z:Nat)(cs:List Value):Prop:=(cs=[]∧∃y,v=sl 0 0 0 y)∨∃b n,v=sl b 0 n z∧n*z=cs.length∧lo<=b∧b<hi∧h[b]?=some ⟨cs,true⟩
theorem Bf.nil{h:Heap}{lo hi y z:Nat}:Bf h lo hi (sl 0 0 0 y) z []:=.inl ⟨rfl,y,rfl⟩
theorem Bf.sl{h:Heap}{lo hi:Nat}{v:Value}{z:Nat}{cs:List Value}(x:Bf h lo hi v z cs):∃b n y,v=Am.sl b 0 n y:=by
 rcases x with⟨_,y,e⟩|⟨b,n,e,_⟩
 ·exact⟨0,0,y,e⟩
 ·exact⟨b,n,z,e⟩
theorem Bf.wide{h:Heap}{lo hi lo' hi':Nat}{v:Value}{z:Nat}{cs:List Value}(x:Bf h lo hi v z cs)(h1:lo'<=lo)(h2:hi<=hi'):Bf h lo' hi' v z cs:=by
 rcases x with x|⟨b,n,e,e2,e3,e4,e5⟩
 ·exact .inl x
 ·exact .inr ⟨b,n,e,e2,by omega,by omega,e5⟩
theorem Bf.grow{h h':Heap}{lo hi:Nat}{v:Value}{z:Nat}{cs:List Value}(x:Bf h lo hi v z cs)(g:Grows h h'):Bf h' lo hi v z cs:=by
 rcases x with x|⟨b,n,e,e2,e3,e4,e5⟩
 ·exact .inl x
 ·exact .inr ⟨b,n,e,e2,e3,e4,g.at e5⟩
theorem Bf.trips{h:Heap}{lo hi:Nat}{v:Value}{X:List Trip}(x:Bf h lo hi v 3 (Am.trips X))(hm:X.length<=maxLen)(hx:∀x∈X,T64 x):Vo h lo hi shTrips v X:=by
 rcases x with⟨h1,y,rfl⟩|⟨b,n,rfl,h2,h3,h4,h5⟩
 ·have:=trips_inj_nil h1
  subst this
  exact Vo.of_trips (X:=[]) (.inr ⟨rfl,rfl⟩) (by simp) (by simp) (.inl rfl)
 ·rw[trips_len]at h2
  have:n=X.length:=by omega
  subst this
  exact Vo.of_trips (.inl rfl) hm hx (.inr ⟨h5,h3,h4⟩)
theorem Bf.ints{h:Heap}{lo hi:Nat}{v:Value}{X:List Int}(x:Bf h lo hi v 1 (Am.ints X))(hm:X.length<=maxLen)(hx:∀x∈X,I64 x):Vo h lo hi shInts v X:=by
 rcases x with⟨h1,y,rfl⟩|⟨b,n,rfl,h2,h3,h4,h5⟩
 ·have:=ints_inj_nil h1
  subst this
  exact Vo.of_ints (X:=[]) (.inr ⟨rfl,rfl⟩) (by simp) (by simp) (.inl rfl)
 ·have:n=X.length:=by simpa [Am.ints]using h2
  subst this
  exact Vo.of_ints (.inl rfl) hm hx (.inr ⟨h5,h3,h4⟩)
/-- APPENDING TO IT. -/
theorem append_bf{h:Heap}{lo hi:Nat}{v x:Value}{z:Nat}{cs new:List Value}{k:Value->Heap->Prop}(hp:0<lo)(hv:Bf h lo hi v z cs)(hn:newCells z h x=some new)(hz:0<z)(hne:new≠[])(hm:new.length/z*z=new.length)
  (hmax:cs.length+new.length<=maxSize) (hk:∀v' h',Mod lo hi h h'->Bf h' h.length h'.length v' z (cs++new)->k v' h'):bindW (aAppend z h x v) k:=by
 rcases hv with⟨rfl,y,rfl⟩|⟨b,n,rfl,h2,h3,h4,h5⟩
 ·have e:aAppend z h x (sl 0 0 0 y)=some (sl h.length 0 (new.length/z) z,h++[⟨new,true⟩]):=by
   simp only[aAppend,hn]
   rw[if_neg (by omega),if_neg hne,if_neg (by simp at hmax;omega),if_pos trivial]
  rw[e]
  exact hk _ _ (Grows.mod ⟨_,rfl⟩) (.inr ⟨h.length,_,rfl,hm,Nat.le_refl _,by simp,by simp⟩)
 ·have hnz:n<=cs.length:=by rw[<-h2];exact Nat.le_mul_of_pos_right n hz
  have e:aAppend z h x (sl b 0 n z)=some (sl h.length 0 (n+new.length/z) z,h.set b ⟨[],false⟩++[⟨cs++new,true⟩]):=by
   simp only[aAppend,hn]
   rw[if_neg (by omega),if_neg hne,if_neg (by omega),if_neg (by omega)]
   simp only[h5]
   rw[if_pos ⟨trivial,trivial⟩,cellsAt_all h5 h2]
  rw[e]
  have hb:=at_lt h5
  refine hk _ _ ⟨by simp,λc hc hn=>?_⟩ (.inr ⟨h.length,_,rfl,by rw[Nat.add_mul,hm,h2];simp,Nat.le_refl _,by simp,by simp⟩)
  rw[List.getElem?_append_left (by simpa using hc),List.getElem?_set_ne (by omega)]
theorem Mod.push{lo hi:Nat}{h:Heap}(k:Blk):Mod lo hi h (h++[k]):=Grows.mod ⟨_,rfl⟩
theorem append_trip2{h:Heap}{lo hi:Nat}{v:Value}{l:List Trip}{a b c:Int}{K:Value->Heap->Prop}(hp:0<lo)(hl:l.length<=1048576)(hv:Bf h lo hi v 3 (trips l))
  (hK:∀v' h'',Mod lo hi h h''->Bf h'' h.length h''.length v' 3 (trips (l++[(a,b,c)]))->K v' h''):
  bindW (aBuildSlice 3 1 h [(0,.agg #[I 0,I 0,I 0]),(3,.agg #[I a,I b,I c])]) λy h''=>bindW (aAppend 3 h'' y v) K:=by
 have e:aBuildSlice 3 1 h [(0,.agg #[I 0,I 0,I 0]),(3,.agg #[I a,I b,I c])]=some (sl h.length 0 1 3,h++[⟨[I a,I b,I c],true⟩]):=by simp[aBuildSlice]
 rw[e]
 simp only[bindW_some]
 refine append_bf hp (hv.grow ⟨_,rfl⟩) (new:=[I a,I b,I c]) ?_ (by omega) (by simp) (by simp) (by rw[trips_len];simp[maxSize];omega) ?_
 ·simp[newCells]
  rw[cellsAt_of (k:=⟨[I a,I b,I c],true⟩) (by simp) (by simp)]
  simp
 ·intro v' h'' m1 b1
  refine hK v' h'' ((Mod.push _).trans m1) ?_
  rw[trips_append]
  exact b1.wide (by simp) (Nat.le_refl _)
def sqAns(X:Jrn):Jrn×Int:=if okJ X then((X.1,dpre (startB X) X.1.2.2 X.1.2.2.length,[]),0)else(noJ,1)
theorem sq_siz(X:Jrn):siz shJournal (sqAns X).1<=16777216:=by
 obtain⟨⟨W,H,br⟩,p,f⟩:=X
 unfold sqAns
 split
 ·rename_i h
  obtain⟨ok,_⟩:=okJ_parts h
  have:=ok_len ok
  have:=dpre_len (startB ((W,H,br),p,f)) br br.length
  rw[siz_journal]
  simp;omega
 ·rw[noJ_siz];omega
/-- Three slices of our own, one behind the other. -/
theorem Vo.three{h:Heap}{lo hi m1 m2:Nat}{W H:Int}{br:List Int}{p f:List Trip}{s sp sf:Value}(h1:I64 W)(h2:I64 H)(r1:Vo h lo m1 shInts s br)(r2:Vo h m1 m2 shTrips sp p)(r3:Vo h m2 hi shTrips sf f)(l1:lo<=m1)(l2:m1<=m2)(l3:m2<=hi):
  Vo h lo hi shJournal (.agg #[I W,I H,s,sp,sf]) ((W,H,br),p,f):=by
 refine Vo.of_journal h1 h2 r1 r2 r3 ?_ ?_ ?_ ?_ ?_ ?_<;>((first|unfold Sub2|unfold Dis)<;>omega)
theorem c131(h:Heap)(hp:0<h.length)(v0:Value)(X0:Jrn)(hv0:Vr h shJournal v0 X0)(hs0:siz shJournal X0<=1048576):
  ACall Gam 131 [v0] h λr h'=>Grows h h'∧∃r0,r=.tuple #[r0,I (sqAns X0).2]∧Vo h' h.length h'.length shJournal r0 (sqAns X0).1∧siz shJournal (sqAns X0).1<=16777216:=by
 have hsz:=sq_siz X0
 obtain⟨⟨W,H,br⟩,p,f⟩:=X0
 have hv0':=hv0
 obtain⟨s,sp,sf,rfl,w1,w2,r1,r2,r3⟩:=hv0.journal
 have rp:Vr h shPanel (.agg #[I W,I H,s]) (W,H,br):=Vr.of_panel w1 w2 r1
 refine ACall_intro g131 rfl ?_
 unfold fn131
 simp(disch:=omega)
 refine callW_of (c138 h hp _ _ hv0' hs0) ?_
 rintro _ h1⟨g1,rfl⟩
 cases q:okJ ((W,H,br),p,f)
 ·have e:sqAns ((W,H,br),p,f)=(noJ,1):=by simp[sqAns,q]
  rw[e]at hsz ⊢
  simp(disch:=omega)[resOf,resAll,resOne,aField]
  exact⟨g1,Vo.no_journal,hsz⟩
 have e:sqAns ((W,H,br),p,f)=(((W,H,br),dpre (startB ((W,H,br),p,f)) br br.length,[]),0):=by simp[sqAns,q]
 rw[e]at hsz ⊢
 obtain⟨hsl,hsb⟩:=startB_ok q
 obtain⟨ok,_⟩:=okJ_parts q
 have hbl:=ok_len ok
 obtain⟨st,hst⟩:∃st,st=startB ((W,H,br),p,f):=⟨_,rfl⟩
 rw[<-hst]at hsl hsb hsz ⊢
 simp(disch:=omega)
 refine callW_of (c150 h1 _ _ (pos_of hp g1) (rp.grow g1) (by simp only;omega)) ?_
 rintro _ h2⟨g2,o2⟩
 obtain⟨so,rfl,_,_,o2⟩:=o2.panel
 obtain⟨bb,zz,e2,_,_,hx2,hb2⟩:=o2.ints
 subst e2
 have G2:=g1.trans g2
 simp(disch:=omega)
 refine callW_of (c22 h2 (pos_of hp G2) _ W H br p f (hv0'.grow G2) q) ?_
 rintro _ h3⟨g3,o3⟩
 rw[<-hst]at o3
 obtain⟨so,rfl,_,_,o3⟩:=o3.panel
 obtain⟨sb,sz,e3,_,_,hx3,hb3⟩:=o3.ints
 subst e3
 have L1:=g1.le;have L2:=g2.le;have L3:=g3.le
 have o2':=o2.grow g3
 simp(disch:=omega)
 refine awp_loop (λ(k:Nat) σ h'=>k<=st.length∧Mod h3.length h'.length h3 h'∧h3.length<=h'.length∧σ 2=.agg #[I 0,I 0,sl 0 0 0 0,sl 0 0 0 0,sl 0 0 0 0]∧(∃sq,σ 4=.agg #[I W,I H,sl bb 0 br.length zz,sq,sl 0 0 0 0]∧Bf h' h3.length h'.length sq 3 (trips (dpre st br k)))∧σ 18=sl sb 0 st.length sz∧σ 19=I st.length∧σ 20=I k) (λk=>st.length-k) 0 ?_ ?_
 ·exact⟨by omega,Mod.refl _ _ _,Nat.le_refl _,by simp,⟨sl 0 0 0 0,by simp,Bf.nil⟩,by simp,by simp,by simp⟩
 rintro k σ h'⟨hk,hmd,hlh,q2,⟨sq,q4,hbf⟩,q18,q19,q20⟩
 simp(disch:=omega)[q19,q20]
 refine fork_dec (λhlt=>?_) (λhge=>?_)
 ·have k1:k<st.length:=by omega
  have k2:k<br.length:=by omega
  have cs:=cell_int (b:=sb) (h:=h') (l:=st) (k:=k) (r:=true) (by
   rcases hb3 with e|e
   ·rw[e]at k1;simp at k1
   ·rw[hmd.2 sb (by omega) (by omega)];exact e.1) k1
  have cb:=cell_int (b:=bb) (h:=h') (l:=br) (k:=k) (r:=true) (by
   rcases hb2 with e|e
   ·rw[e]at k2;simp at k2
   ·rw[hmd.2 bb (by omega) (by omega),g3.at e.1]) k2
  simp(disch:=omega)[q4,q18,q20,k1,k2,cs,cb]
  refine fork_dec (λhe=>?_) (λhe=>?_)
  ·simp(disch:=omega)[q2,q4,q18,q19,q20,wrap64]
   have hb2:Bf h' h3.length h'.length sq 3 (trips (dpre st br (k+1))):=by rw[dpre_succ,if_pos he.symm];simpa using hbf
   exact⟨k+1,⟨by omega,hmd,hlh,by first|exact hb2|exact⟨_,rfl,hb2⟩,by omega⟩,by omega⟩
  ·simp(disch:=omega)[q4]
   refine append_trip2 (lo:=h3.length) (hi:=h'.length) (pos_of hp (G2.trans g3)) (by have:=dpre_len st br k;omega) hbf λv' h'' m1 b1=>?_
   have lm:=m1.1
   have hb2:Bf h'' h3.length h''.length v' 3 (trips (dpre st br (k+1))):=by rw[dpre_succ,if_neg (λe=>he e.symm)];exact b1.wide hlh (Nat.le_refl _)
   obtain⟨vb,vn,vy,rfl⟩:=b1.sl
   simp(disch:=omega)[q2,q4,q18,q19,q20,wrap64]
   exact⟨k+1,⟨by omega,(hmd.wide (Nat.le_refl _) lm).trans (m1.wide (Nat.le_refl _) lm),by omega,by first|exact hb2|exact⟨_,rfl,hb2⟩,by omega⟩,by omega⟩
 ·have hkp:k=st.length:=by omega
  subst hkp
  have hvo:=hbf.trips (by have:=dpre_len st br st.length;rw[maxLen_eq];omega) (dpre_64 (cur_64 hsb) hx2 (by omega))
  obtain⟨qb,qz,e4,_⟩:=hvo.trips
  subst e4
  rw[hsl]at hvo
  have o2'':Vo h' h.length h3.length shInts (sl bb 0 br.length zz) br:=(o2'.mod hmd (.inl (by omega))).wide (by omega) (by omega)
  have G3:=(G2.trans g3)
  simp(disch:=omega)[q2,q4,resOf,resAll,resOne,aField]
  rw[hsl]
  exact⟨hmd.grows G3 (G3.le),Vo.three w1 w2 o2'' hvo (Vo.no_steps (lo:=h'.length) (hi:=h'.length)) (by omega) (by omega) (by omega),hsz⟩
/-- A slice of structs appended to an empty one: its own copy. -/
theorem own_trips{h:Heap}{v:Value}{X:List Trip}{y:Nat}{K:Value->Heap->Prop}(hp:0<h.length)(hv:Vr h shTrips v X)(hs:X.length<=1048576)(hK:∀v' h',Grows h h'->Bf h' h.length h'.length v' 3 (trips X)->K v' h'):
  bindW (aAppend 3 h v (sl 0 0 0 y)) K:=by
 obtain⟨b,o,z,rfl,hz,hm,hx,hc⟩:=hv.trips
 by_cases hX:X=[]
 ·subst hX
  have e:aAppend 3 h (sl b o (List.length ([]:List Trip)) z) (sl 0 0 0 y)=some (sl 0 0 0 y,h):=by simp[aAppend,newCells]
  rw[e]
  exact hK _ _ (Grows.refl _) Bf.nil
 ·have hc:=hc.resolve_left hX
  have hne:X.length≠0:=by simpa using hX
  refine append_bf (lo:=h.length) (hi:=h.length) hp (Bf.nil (z:=3)) (new:=trips X) ?_ (by omega) (λe=>hX (trips_inj_nil e)) (by rw[trips_len];omega) (by rw[trips_len];simp[maxSize];omega) ?_
  ·simp[newCells,hX,hc]
  ·intro v' h' m b1
   refine hK v' h' (m.grows (Grows.refl _) (Nat.le_refl _)) (by simpa using b1)
theorem c307(h:Heap)(v:Value)(X:List Trip)(hp:0<h.length)(hv:Vr h shTrips v X)(hs:X.length<=1048576):ACall Gam 307 [v] h λr h'=>Grows h h'∧Bf h' h.length h'.length r 3 (trips X):=by
 have hv0:=hv
 obtain⟨b,o,z,rfl,hz,hm,hx,hc⟩:=hv.trips
 refine ACall_intro g307 rfl ?_
 unfold fn307
 simp(disch:=omega)
 refine fork_intro (λhn=>?_) (λhn=>?_)
 ·simp at hn
  rcases hz with hz|⟨_,rfl⟩
  ·omega
  ·simp
   exact⟨Grows.refl _,Bf.nil⟩
 ·simp(disch:=omega)
  refine own_trips hp hv0 hs λv' h' g o=>?_
  obtain⟨b,n,y,rfl⟩:=o.sl
  exact⟨g,o⟩
/-- A journal in new memory. -/
def Own5(h h':Heap)(r:Value)(X:Jrn):Prop:=Grows h h'∧∃s sp sf m1 m2,r=.agg #[I X.1.1,I X.1.2.1,s,sp,sf]∧h.length<=m1∧m1<=m2∧m2<=h'.length∧Vo h' h.length m1 shInts s X.1.2.2∧Bf h' m1 m2 sp 3 (trips X.2.1)∧Bf h' m2 h'.length sf 3 (trips X.2.2)
theorem c148(h:Heap)(hp:0<h.length)(v0:Value)(X0:Jrn)(hv0:Vr h shJournal v0 X0)(hs0:siz shJournal X0<=1048576):
  ACall Gam 148 [v0] h λr h'=>Own5 h h' r X0:=by
 obtain⟨⟨W,H,br⟩,p,f⟩:=X0
 rw[siz_journal]at hs0
 obtain⟨s,sp,sf,rfl,w1,w2,r1,r2,r3⟩:=hv0.journal
 have rp:Vr h shPanel (.agg #[I W,I H,s]) (W,H,br):=Vr.of_panel w1 w2 r1
 refine ACall_intro g148 rfl ?_
 unfold fn148
 simp(disch:=omega)
 refine callW_of (c150 h _ _ hp rp (by simp only;omega)) ?_
 rintro _ h1⟨g1,o1⟩
 obtain⟨so,rfl,_,_,o1⟩:=o1.panel
 obtain⟨bb,zz,e1,_⟩:=o1.ints
 subst e1
 simp(disch:=omega)
 refine callW_of (c307 h1 _ p (pos_of hp g1) (r2.grow g1) (by omega)) ?_
 rintro _ h2⟨g2,o2⟩
 have G2:=g1.trans g2
 obtain⟨b2,n2,y2,rfl⟩:=o2.sl
 simp(disch:=omega)
 refine callW_of (c307 h2 _ f (pos_of hp G2) (r3.grow G2) (by omega)) ?_
 rintro _ h3⟨g3,o3⟩
 obtain⟨b3,n3,y3,rfl⟩:=o3.sl
 simp(disch:=omega)[resOf_box,aField]
 exact⟨G2.trans g3,_,_,_,h1.length,h2.length,rfl,g1.le,g2.le,g3.le,(o1.grow g2).grow g3,o2.grow g3,o3⟩
def doCode(X:Jrn)(k kind:Int):Int:=if inR k 0 ((X.1.2.2.length:Int)-1)&&okBr kind then(if at0 X.1.2.2 k.toNat=kind then 6 else if 50<=X.2.1.length then 5 else 0)else 2
def doJ(X:Jrn)(k kind:Int):Jrn:=((X.1.1,X.1.2.1,X.1.2.2.set k.toNat kind),X.2.1++[(k,at0 X.1.2.2 k.toNat,kind)],[])
def doAns(X:Jrn)(k kind:Int):Jrn×Int:=if okJ X then(if doCode X k kind=0 then(doJ X k kind,0)else(noJ,doCode X k kind))else(noJ,1)
theorem do_siz(X:Jrn)(k kind:Int):siz shJournal (doAns X k kind).1<=16777216:=by
 obtain⟨⟨W,H,br⟩,p,f⟩:=X
 unfold doAns
 split
 ·rename_i h
  obtain⟨ok,hle,_⟩:=okJ_parts h
  have:=ok_len ok
  split
  ·unfold doJ
   rw[siz_journal];simp;omega
  ·rw[noJ_siz];omega
 ·rw[noJ_siz];omega
theorem okBr_iff{x:Int}:okBr x=true↔0<=x∧x<=2:=by unfold okBr;rw[inR_iff]
/-- Numbers of a journal are numbers of the machine. -/
structure Jwf (X:Jrn):Prop where
 w:I64 X.1.1
 h:I64 X.1.2.1
 b:∀x∈X.1.2.2,I64 x
 p:∀x∈X.2.1,T64 x
 f:∀x∈X.2.2,T64 x
 lb:X.1.2.2.length<=1048576
 lp:X.2.1.length<=1048576
 lf:X.2.2.length<=1048576
theorem c82(h:Heap)(hp:0<h.length)(v0:Value)(X0:Jrn)(hv0:Vr h shJournal v0 X0)(hs0:siz shJournal X0<=1048576)(k:Int)(wk:I64 k)(kind:Int)(wkind:I64 kind):
  ACall Gam 82 [v0,I k,I kind] h λr h'=>Grows h h'∧∃r0,r=.tuple #[r0,I (doAns X0 k kind).2]∧Vo h' h.length h'.length shJournal r0 (doAns X0 k kind).1∧siz shJournal (doAns X0 k kind).1<=16777216:=by
 have hsz:=do_siz X0 k kind
 obtain⟨⟨W,H,br⟩,p,f⟩:=X0
 have hv0':=hv0
 obtain⟨s,sp,sf,rfl,w1,w2,r1,r2,r3⟩:=hv0.journal
 obtain⟨b0,o0,z0,rfl,_,hm0,hx0,hc0⟩:=r1.ints
 obtain⟨pb,po,pz,rfl,_,hpm,hpx,hpc⟩:=r2.trips
 rw[maxLen_eq]at hm0 hpm
 refine ACall_intro g82 rfl ?_
 unfold fn82
 rw[awp_seq,awp_reg]
 generalize hK:seqQ Gam _ _ 0=K
 simp(disch:=omega)
 subst hK
 simp only[seqQ_zero]
 rw[awp_seq]
 generalize hK:seqQ Gam _ _=K
 simp(disch:=omega)
 refine callW_of (c138 h hp _ _ hv0' hs0) ?_
 rintro _ h1⟨g1,rfl⟩
 cases q:okJ ((W,H,br),p,f)
 ·have e:doAns ((W,H,br),p,f) k kind=(noJ,1):=by simp[doAns,q]
  subst hK
  rw[e]at hsz ⊢
  simp(disch:=omega)[resOf,resAll,resOne,aField]
  exact⟨g1,Vo.no_journal,hsz⟩
 obtain⟨ok,hle,_⟩:=okJ_parts q
 have hbl:=ok_len ok
 simp(disch:=omega)
 refine callW_of (c163 k br.length (by rw[maxLen_eq];omega) h1) ?_
 rintro _ h1⟨rfl,rfl⟩
 cases q1:inR k 0 ((br.length:Int)-1)
 ·have e:doAns ((W,H,br),p,f) k kind=(noJ,2):=by simp[doAns,doCode,q,q1]
  subst hK
  rw[e]at hsz ⊢
  simp(disch:=omega)[resOf,resAll,resOne,aField]
  exact⟨g1,Vo.no_journal,hsz⟩
 simp(disch:=omega)
 refine callW_of (c196 kind h1) ?_
 rintro _ h1⟨rfl,rfl⟩
 cases q2:okBr kind
 ·have e:doAns ((W,H,br),p,f) k kind=(noJ,2):=by simp[doAns,doCode,q,q1,q2]
  subst hK
  rw[e]at hsz ⊢
  simp(disch:=omega)[resOf,resAll,resOne,aField]
  exact⟨g1,Vo.no_journal,hsz⟩
 rw[inR_iff]at q1
 have q1':inR k 0 ((br.length:Int)-1)=true:=inR_iff.2 q1
 obtain⟨kn,rfl⟩:=Int.eq_ofNat_of_zero_le q1.1
 have k1:kn<br.length:=by omega
 have cb:=ints_cell (hc0.imp id (grows_cellsAt g1)) k1
 rw[<-at0_of k1]at cb
 simp(disch:=omega)[k1,cb]
 refine fork_dec (λh3=>?_) (λh3=>?_)
 ·have e:doAns ((W,H,br),p,f) kn kind=(noJ,6):=by simp[doAns,doCode,q,q1',q2,h3]
  subst hK
  rw[e]at hsz ⊢
  simp(disch:=omega)[resOf,resAll,resOne,aField]
  exact⟨g1,Vo.no_journal,hsz⟩
 simp(disch:=omega)
 refine fork_dec (λh4=>?_) (λh4=>?_)
 ·have:50<=p.length:=by omega
  have e:doAns ((W,H,br),p,f) kn kind=(noJ,5):=by simp[doAns,doCode,q,q1',q2,h3,this]
  subst hK
  rw[e]at hsz ⊢
  simp(disch:=omega)[resOf,resAll,resOne,aField]
  exact⟨g1,Vo.no_journal,hsz⟩
 have h4:¬50<=p.length:=by omega
 have e:doAns ((W,H,br),p,f) kn kind=(doJ ((W,H,br),p,f) kn kind,0):=by simp[doAns,doCode,q,q1',q2,h3,h4]
 simp(disch:=omega)
 subst hK
 rw[e]at hsz ⊢
 simp only[seqQ_zero]
 rw[awp_seq,awp_reg]
 generalize hK:seqQ Gam _ _ 0=K
 simp(disch:=omega)
 refine callW_of (c148 h1 (pos_of hp g1) _ _ (hv0'.grow g1) hs0) ?_
 rintro _ h2⟨g2,s,sp,sf,m1,m2,rfl,l1,l2,l3,o1,o2,o3⟩
 simp only at o1 o2 o3
 obtain⟨bb,zz,rfl,hz,hm,hx,hb⟩:=o1.ints
 have hne:br≠[]:=by intro e;rw[e]at k1;simp at k1
 obtain⟨hb,hb1,hb2⟩:=hb.resolve_left hne
 have cb2:=cell_int hb k1
 obtain⟨pb2,pn2,py2,rfl⟩:=o2.sl
 obtain⟨fb2,fn2,fy2,rfl⟩:=o3.sl
 have L1:=g1.le;have L2:=g2.le
 simp(disch:=omega)
 subst hK
 simp only[seqQ_zero]
 rw[awp_seq,awp_reg]
 generalize hK:seqQ Gam _ _ 0=K
 simp(disch:=omega)[k1,cb2]
 refine append_trip2 (lo:=m1) (hi:=m2) (by omega) (by omega) o2 λv' h3 md3 b3=>?_
 have hb3:h3[bb]?=some ⟨ints br,true⟩:=by rw[md3.2 bb (at_lt hb) (by omega)];exact hb
 have hst:=store_int (v:=kind) hb3 k1
 obtain⟨vb,vn,vy,e3⟩:=b3.sl
 have lm:=md3.1
 have ow:=b3.trips (by simp;rw[maxLen_eq];omega) (by
  intro x hx
  rcases List.mem_append.1 hx with hx|hx
  ·exact hpx x hx
  ·simp at hx;subst hx
   exact⟨by unfold I64;omega,at0wide hx0 _,wkind⟩)
 have G3:Grows h1 h3:=md3.grows g2 l1
 subst e3
 simp(disch:=omega)
 subst hK
 simp only[seqQ_zero]
 simp(disch:=omega)[k1,hst,resOf,resAll,resOne,aField]
 refine⟨(g1.trans G3).put (by omega) _,?_,hsz⟩
 have ob:=Vo.of_ints (h:=h3.set bb ⟨ints (br.set kn kind),true⟩) (b:=bb) (lo:=h.length) (hi:=m1) (z:=zz) (X:=br.set kn kind) (.inl (hz.resolve_right λe=>hne e.2)) (by simpa using hm) (by
  intro x hx
  rcases List.mem_or_eq_of_mem_set hx with hx'|rfl
  ·exact hx0 x hx'
  ·exact wkind) (.inr ⟨by simp[at_lt hb3],by omega,by omega⟩)
 have ow2:=ow.mod (h':=h3.set bb ⟨ints (br.set kn kind),true⟩) (lo':=bb) (hi':=bb+1) ((Mod.refl _ _ _).put (by omega) _) (.inr (by omega))
 rw[List.length_set]at ob
 simp only[doJ,Int.toNat_natCast]
 exact Vo.three w1 w2 ob (ow2.wide (by omega) (Nat.le_refl _)) (Vo.no_steps (lo:=h3.length) (hi:=h3.length)) (by omega) (by omega) (by simp)
/-- A journal in a box of our own, its memory our own, apart. Behind its steps more cells may lie. -/
def JM(h:Heap)(lo jb:Nat)(X:Jrn)(rest:List Value):Prop:=∃b1 z1 b2 z2 b3 z3,
 h[jb]?=some ⟨[I X.1.1,I X.1.2.1,sl b1 0 X.1.2.2.length z1,sl b2 0 X.2.1.length z2,sl b3 0 X.2.2.length z3],true⟩∧lo<=jb∧0<lo∧(z1=1∨b1=0∧X.1.2.2=[])∧
 (X.1.2.2=[]∨h[b1]?=some ⟨ints X.1.2.2,true⟩∧lo<=b1∧b1≠jb∧b1≠b2∧b1≠b3)∧
 (X.2.1=[]∧b2=0∨z2=3∧h[b2]?=some ⟨trips X.2.1++rest,true⟩∧lo<=b2∧b2≠jb∧b2≠b3)∧
 (X.2.2=[]∧b3=0∨z3=3∧h[b3]?=some ⟨trips X.2.2,true⟩∧lo<=b3∧b3≠jb)∧Jwf X
theorem append_rest{h:Heap}{b n:Nat}{x:Value}{z:Nat}{cs rest new:List Value}{k:Value->Heap->Prop}(hv:cs=[]∧n=0∧b=0∨b≠0∧n*z=cs.length∧h[b]?=some ⟨cs++rest,true⟩){y:Nat}(hy:b=0∨y=z)(hn:newCells z h x=some new)(hz:0<z)(hne:new≠[])(hm:new.length/z*z=new.length)
  (hmax:cs.length+new.length<=maxSize) (hk:∀h',h.length<h'.length->(∀c,c<h.length->c≠b∨b=0->h'[c]?=h[c]?)->h'[h.length]?=some ⟨cs++new,true⟩->k (sl h.length 0 (n+new.length/z) z) h'):bindW (aAppend z h x (sl b 0 n y)) k:=by
 rcases hv with⟨rfl,rfl,rfl⟩|⟨hb0,h2,h5⟩
 ·have e:aAppend z h x (sl 0 0 0 y)=some (sl h.length 0 (0+new.length/z) z,h++[⟨new,true⟩]):=by
   simp only[aAppend,hn]
   rw[if_neg (by omega),if_neg hne,if_neg (by simp at hmax;omega),if_pos trivial]
   simp
  rw[e]
  exact hk _ (by simp) (λc hc _=>List.getElem?_append_left hc) (by simp)
 ·have hyz:=hy.resolve_left hb0
  subst hyz
  have hnz:n<=cs.length:=by rw[<-h2];exact Nat.le_mul_of_pos_right n hz
  have e:aAppend y h x (sl b 0 n y)=some (sl h.length 0 (n+new.length/y) y,h.set b ⟨[],false⟩++[⟨cs++new,true⟩]):=by
   simp only[aAppend,hn]
   rw[if_neg (by omega),if_neg hne,if_neg (by omega),if_neg (by omega)]
   simp only[h5]
   have:cellsAt h b 0 (n*y)=some cs:=by
    rw[cellsAt_of h5 (by simp;omega)]
    simp[h2]
   rw[if_pos ⟨trivial,trivial⟩,this]
  rw[e]
  have hb:=at_lt h5
  refine hk _ (by simp) (λc hc hn=>?_) (by simp)
  rw[List.getElem?_append_left (by simpa using hc),List.getElem?_set_ne (by omega)]
theorem set_other{h:Heap}{b c:Nat}{k:Blk}(hne:c≠b):(h.set b k)[c]?=h[c]?:=List.getElem?_set_ne λe=>hne e.symm
/-- The box holds the clone. -/
theorem JM.own{h h1:Heap}{r:Value}{X:Jrn}(hp:0<h.length)(x:Own5 h h1 r X)(wf:Jwf X):∃b1 z1 b2 z2 b3 z3,r=.agg #[I X.1.1,I X.1.2.1,sl b1 0 X.1.2.2.length z1,sl b2 0 X.2.1.length z2,sl b3 0 X.2.2.length z3]∧
  JM (h1++[⟨[I X.1.1,I X.1.2.1,sl b1 0 X.1.2.2.length z1,sl b2 0 X.2.1.length z2,sl b3 0 X.2.2.length z3],true⟩]) h.length h1.length X []:=by
 obtain⟨⟨W,H,br⟩,p,f⟩:=X
 obtain⟨g,s,sp,sf,m1,m2,rfl,l1,l2,l3,o1,o2,o3⟩:=x
 obtain⟨b1,z1,rfl,hz,hm,hx,hc⟩:=o1.ints
 have e2:∃b2 z2,sp=sl b2 0 p.length z2∧(p=[]∧b2=0∨z2=3∧h1[b2]?=some ⟨trips p,true⟩∧m1<=b2∧b2<m2):=by
  rcases o2 with⟨e,y,e'⟩|⟨b,n,e,e',e3,e4,e5⟩
  ·have:=trips_inj_nil e
   simp only at this;subst this
   exact⟨0,y,e',.inl ⟨rfl,rfl⟩⟩
  ·rw[trips_len]at e'
   have:n=p.length:=by simp only at e';omega
   subst this
   exact⟨b,3,e,.inr ⟨rfl,e5,e3,e4⟩⟩
 have e3:∃b2 z2,sf=sl b2 0 f.length z2∧(f=[]∧b2=0∨z2=3∧h1[b2]?=some ⟨trips f,true⟩∧m2<=b2∧b2<h1.length):=by
  rcases o3 with⟨e,y,e'⟩|⟨b,n,e,e',e3,e4,e5⟩
  ·have:=trips_inj_nil e
   simp only at this;subst this
   exact⟨0,y,e',.inl ⟨rfl,rfl⟩⟩
  ·rw[trips_len]at e'
   have:n=f.length:=by simp only at e';omega
   subst this
   exact⟨b,3,e,.inr ⟨rfl,e5,e3,e4⟩⟩
 obtain⟨b2,z2,rfl,i2⟩:=e2
 obtain⟨b3,z3,rfl,i3⟩:=e3
 simp only at hc hz
 refine⟨b1,z1,b2,z2,b3,z3,rfl,b1,z1,b2,z2,b3,z3,by simp,by omega,hp,hz,?_,?_,?_,wf⟩
 ·refine hc.imp id λe=>⟨push_at e.1,by omega,by omega,?_,?_⟩
  ·rcases i2 with i2|i2<;>omega
  ·rcases i3 with i3|i3<;>omega
 ·refine i2.imp id λe=>⟨e.1,by simpa using push_at e.2.1,by omega,by omega,?_⟩
  rcases i3 with i3|i3<;>omega
 ·exact i3.imp id λe=>⟨e.1,push_at e.2.1,by omega,by omega⟩
/-- The journal's value, with memory of its own. -/
theorem JM.vo{h:Heap}{lo jb:Nat}{X:Jrn}(x:JM h lo jb X []):∃cs,h[jb]?=some ⟨cs,true⟩∧cs.length=5∧Vo h lo h.length shJournal (.agg cs.toArray) X:=by
 obtain⟨⟨W,H,br⟩,p,f⟩:=X
 obtain⟨b1,z1,b2,z2,b3,z3,hjb,hlo,hpos,hz1,i1,i2,i3,wf⟩:=x
 obtain⟨w1,w2,x1,x2,x3,y1,y2,y3⟩:=wf
 simp only at hjb hz1 i1 i2 i3 w1 w2 x1 x2 x3 y1 y2 y3
 refine⟨_,hjb,rfl,?_⟩
 have v1:Vo h (if br=[]then 0 else b1) (if br=[]then 0 else b1+1) shInts (sl b1 0 br.length z1) br:=Vo.of_ints hz1 (by rw[maxLen_eq];omega) x1 (by
  rcases i1 with e|e
  ·exact .inl e
  ·by_cases e':br=[]
   ·exact .inl e'
   ·exact .inr ⟨e.1,by simp[e']⟩)
 have v2:Vo h (if p=[]then 0 else b2) (if p=[]then 0 else b2+1) shTrips (sl b2 0 p.length z2) p:=Vo.of_trips (i2.elim (λe=>.inr ⟨e.2,e.1⟩) λe=>.inl e.1) (by rw[maxLen_eq];omega) x2 (by
  by_cases e':p=[]
  ·exact .inl e'
  ·rcases i2 with e|e
   ·exact absurd e.1 e'
   ·exact .inr ⟨by simpa using e.2.1,by simp[e']⟩)
 have v3:Vo h (if f=[]then 0 else b3) (if f=[]then 0 else b3+1) shTrips (sl b3 0 f.length z3) f:=Vo.of_trips (i3.elim (λe=>.inr ⟨e.2,e.1⟩) λe=>.inl e.1) (by rw[maxLen_eq];omega) x3 (by
  by_cases e':f=[]
  ·exact .inl e'
  ·rcases i3 with e|e
   ·exact absurd e.1 e'
   ·exact .inr ⟨e.2.1,by simp[e']⟩)
 refine Vo.of_journal w1 w2 v1 v2 v3 ?_ ?_ ?_ ?_ ?_ ?_
 ·unfold Sub2;split
  ·exact .inl rfl
  ·rename_i hn;have:=i1.resolve_left hn;have:=at_lt this.1;omega
 ·unfold Sub2;split
  ·exact .inl rfl
  ·rename_i hn;have:=i2.resolve_left (λe=>hn e.1);have:=at_lt this.2.1;omega
 ·unfold Sub2;split
  ·exact .inl rfl
  ·rename_i hn;have:=i3.resolve_left (λe=>hn e.1);have:=at_lt this.2.1;omega
 ·unfold Dis
  by_cases h1:br=[]<;>by_cases h2:p=[]<;>simp only[h1,h2,if_true,if_false]<;>try omega
  have:=i1.resolve_left h1;omega
 ·unfold Dis
  by_cases h1:br=[]<;>by_cases h2:f=[]<;>simp only[h1,h2,if_true,if_false]<;>try omega
  have:=i1.resolve_left h1;omega
 ·unfold Dis
  by_cases h1:p=[]<;>by_cases h2:f=[]<;>simp only[h1,h2,if_true,if_false]<;>try omega
  have:=i2.resolve_left (λe=>h1 e.1);omega
end Am

/- The primitive slices.Insert. -/
import Derived.Test.YtpgioncclmancaaGreatAmPrim
set_option linter.unusedVariables false
set_option linter.unusedSimpArgs false
set_option maxHeartbeats 4000000
namespace Am
open Go
structure InsWalk (P:Program) (gf:Nat) (ts ti:TypeId) (z:Nat):Prop where
 fin:∀(X V:Option Addr) (n c m vc:Nat) (w w1:World) (r:Value),0<m->n<=c->n+m<=1073741824->
  (∀ty,(Builtin.append_ #[ts,ts] ty #[.slice X n c,.slice V m vc]).run P w=.ok r w1)->
  Calls P gf #[.slice X n c,.int .i64 n,.slice V m vc] w λe w'=>e=.returned r∧w'=w1
 grow:∀(g o g1 n c i m G:Nat) (V:Option Addr) (vc:Nat) (w w1 w2 w3:World) (u1 u2:Value),i<n->0<m->n<=c->c<n+m->n+m<=1073741824->n+m<=G->
  (∀ty,(Builtin.append_ #[ts,ti] ty #[.slice (some ⟨g,o,none⟩) i c,.int .i64 ((n:Int)+(m:Int)-(i:Int))]).run P w=.ok (.slice (some ⟨g1,0,none⟩) (n+m) G) w1)->
  (∀ty dc,(Builtin.copy_ #[ts,ts] ty #[.slice (some ⟨g1,i*z,none⟩) (n+m-i) dc,.slice V m vc]).run P w1=.ok u1 w2)->
  (∀ty dc sc,(Builtin.copy_ #[ts,ts] ty #[.slice (some ⟨g1,(i+m)*z,none⟩) (n+m-(i+m)) dc,.slice (some ⟨g,o+i*z,none⟩) (n-i) sc]).run P w2.drew=.ok u2 w3)->
  Calls P gf #[.slice (some ⟨g,o,none⟩) n c,.int .i64 i,.slice V m vc] w λe w'=>e=.returned (.slice (some ⟨g1,0,none⟩) (n+m) G)∧w'=w3
 room:∀(g o n c i m gv ov:Nat) (vc tA tB kA kB:Nat) (w w1 w2:World) (u1 u2:Value),i<n->0<m->n<=c->n+m<=c->n+m<=1073741824->
  gv≠g->w.shape? gv=some (tA,kA)->w.shape? g=some (tB,kB)->kB≠0->w.frozen? ⟨gv,ov,none⟩=false->w.frozen? ⟨gv,kA,none⟩=false->
  (∀ty dc sc,(Builtin.copy_ #[ts,ts] ty #[.slice (some ⟨g,o+(i+m)*z,none⟩) (n+m-(i+m)) dc,.slice (some ⟨g,o+i*z,none⟩) (n+m-i) sc]).run P w.drew=.ok u1 w1)->
  (∀ty dc,(Builtin.copy_ #[ts,ts] ty #[.slice (some ⟨g,o+i*z,none⟩) (n+m-i) dc,.slice (some ⟨gv,ov,none⟩) m vc]).run P w1=.ok u2 w2)->
  Calls P gf #[.slice (some ⟨g,o,none⟩) n c,.int .i64 i,.slice (some ⟨gv,ov,none⟩) m vc] w λe w'=>e=.returned (.slice (some ⟨g,o,none⟩) (n+m) c)∧w'=w2
theorem enters_of{P:Program}{g:Nat}{fn:Func}(hf:P.funcs[g]?=some fn)(hn:(fn.name== "runtime.NumGoroutine")=false)(hb:fn.body.isSome=true):Enters P g:=by
 intro us w hs
 obtain⟨b,hb⟩:=Option.isSome_iff_exists.1 hb
 have hn':fn.name≠ "runtime.NumGoroutine" :=by simpa using hn
 simp[callFunc,hf,hn',hb]
section
variable {A : Seat} {φ : Phi} {h : Heap} {w : World} {base : Nat}
theorem cellsAt_len'{h:Heap}{b o n:Nat}{cs:List Value}(hc:cellsAt h b o n=some cs):cs.length=n:=by
 unfold cellsAt at hc
 split at hc
 ·split at hc
  ·injection hc with hc;subst hc;simp;omega
  ·simp at hc
 ·simp at hc
theorem splice_at{a b c:List Value}{n:Nat}(hn:n=a.length):splice (a++b) n c=a++c++b.drop c.length:=by
 subst hn
 simp[splice,List.take_left']
theorem storeAt_last{h:Heap}{a b c:List Value}{n:Nat}(hn:n=a.length)(hl:c.length<=b.length):storeAt (h++[⟨a++b,true⟩]) h.length n c=some (h++[⟨a++c++b.drop c.length,true⟩]):=by
 unfold storeAt
 simp only[List.getElem?_append_right (Nat.le_refl _),Nat.sub_self,List.getElem?_cons_zero]
 rw[if_pos ⟨trivial,by simp;omega⟩,splice_at hn]
 simp
theorem shape_of{g ty:Nat}{cur:Array Value}{m:Nat×Nat}(hg:w.heap[g]?=some (.cells cur ty m)):w.shape? g=some (ty,cur.size):=by
 simp[World.shape?,hg]
theorem primInsert_ok{g ts ti e:Nat}{z:Nat}{zc:List Value}{ki:IntKind}(hu:A.P.underlying ts=some (.slice e))(hti:A.P.underlying ti=some (.int ki))(hz:sizeT A e=some z)(hc:zeroCellsT A e=some zc)(hcz:zc.length=z)(hby:(A.P.info? e).map (decide<|·.bytes<=4096)=some true)(hen:Enters A.P g)(W:InsWalk A.P g ts ti z):
  ∀base,PrimOk A base g ⟨3,.goto (2*z),[]⟩:=by
 intro base
 refine⟨primInsert z,?_,λ_ _ _ _ x=>primInsert_len x,?_⟩
 ·have h1:(2*z)%2=0:=by omega
  have h2:(2*z)/2=z:=by omega
  simp[primOf,h1,h2]
 intro args h v h' φ w us hlen hx H hb hφ hargs
 have hlen:args.length=3:=hlen
 have hul:=hargs.length
 refine⟨hen _ _ (by simp;omega),?_⟩
 unfold primInsert at hx
 split at hx
 rotate_left
 ·cases hx
 rename_i a n y i b m x h0
 match us,hargs with
 |[u1,u2,u3],⟨r1,r2,r3,_⟩=>
 have e2:=VR.int_inv r2
 subst e2
 cases hn:newCells z h (.slice (some b) m x)with
 |none=>simp[hn]at hx
 |some new=>
 simp only[hn]at hx
 split at hx
 ·cases hx
 rename_i hcond
 simp only[not_or,Int.not_lt,Int.not_le,Nat.not_lt,Decidable.not_not]at hcond
 obtain⟨hz2,rfl,hm0,hmax,hi0,hin,hab⟩:=hcond
 obtain⟨ii,rfl⟩:=Int.eq_ofNat_of_zero_le hi0
 have hin':ii<=n:=by omega
 obtain⟨i0,u0,hinf,hzero,hzrel⟩:=zeroCellsT_run (φ:=φ) hc
 obtain⟨i1,hi1,hisz⟩:=sizeT_info hz
 rw[hinf]at hi1;injection hi1 with hi1;subst hi1
 have hbytes:i0.bytes<=4096:=by simpa [hinf]using hby
 obtain⟨m',un,hm',hrel,hnl,hfirst⟩:=newCells_sim H (by omega) r3 hn
 obtain⟨hspV,XV,cv,rfl,hmv,_,h1v,-⟩:=VR.slice_inv r3
 have hmm:m'=m:=by
  simp only[Builtin.lenOf]at hm'
  simp at hm'
  exact hm'.symm
 subst hmm
 have hunl:un.length=m'*x:=by rw[<-hrel.length,hnl]
 have hmle:m'<=new.length:=by rw[hnl];exact Nat.le_mul_of_pos_right _ (by omega)
 have hsmall:n+m'<=1073741824:=by unfold maxSize at hmax;omega
 have hne:new≠[]:=by intro e;rw[e]at hmle;simp at hmle;omega
 have hdiv:new.length/x=m':=by rw[hnl];exact Nat.mul_div_cancel _ (by omega)
 obtain⟨hsp,X,c,rfl,hnc,hz0,h1,-⟩:=VR.slice_inv r1
 have hpos0:h.length≠0:=by have:=H.pos;omega
 by_cases hend:ii=n
 · -- at the end
  subst hend
  have key:aAppend x h (.slice (some b) m' x) (.slice (some a) ii y)=some (v,h')∧h.length<h'.length:=by
   split at hx
   ·rename_i hb0
    injection hx with hx;injection hx with e1 e2;subst e1;subst e2
    have:=hz0 hb0
    have hii:ii=0:=by omega
    refine⟨?_,by simp⟩
    simp only[aAppend,hn]
    rw[if_neg (by omega),if_neg hne,if_neg (by unfold maxSize at*;omega),if_pos hb0,hdiv]
   ·rename_i hb0
    split at hx
    ·rename_i k kb hk hkb
     split at hx
     ·rename_i hkr
      obtain⟨hkrw,_,rfl⟩:=hkr
      cases hco:cellsAt h a.block a.off (ii*y)with
      |none=>simp[hco]at hx
      |some old=>
      simp only[hco,Option.some.injEq,Prod.mk.injEq]at hx
      obtain⟨rfl,rfl⟩:=hx
      have hol:=(cellsAt_len' hco)
      refine⟨?_,by simp⟩
      simp only[aAppend,hn,hk]
      rw[if_neg (by omega),if_neg hne,if_neg (by unfold maxSize at*;omega),if_neg hb0,if_pos ⟨hkrw,trivial⟩,hco,hdiv]
      simp only[Int.toNat_natCast]
      rw[List.take_of_length_le (by omega),List.drop_eq_nil_of_le (by omega),List.append_nil]
     ·cases hx
    ·cases hx
  obtain⟨ha,hlt⟩:=key
  have hS:=λty=>op_append (ty:=ty) (t:=ts) (t1:=ts) H hb (λ_=>hφ _ (Nat.le_refl _) hlt) hu hz hc hcz hby (.inl ⟨e,hu⟩) r1 r3 ha
  obtain⟨u,w',φ',hrun,hv,hH,hE⟩:=hS 0
  refine Calls.mono (W.fin X XV ii c m' cv w w' u (by omega) hnc hsmall (λty=>?_)) ?_
  ·exact hrun
  ·rintro e' w''⟨rfl,rfl⟩
   exact⟨u,φ',rfl,hv,hH,hE⟩
 · -- further ahead
  have hlt:ii<n:=by omega
  have hb0:a.block≠0:=λe0=>by have:=hz0 e0;omega
  rw[if_neg hb0]at hx
  cases hk:h[a.block]? with
  |none=>simp[hk]at hx
  |some k=>
  cases hkb:h[b.block]? with
  |none=>simp[hk,hkb]at hx
  |some kb=>
  simp only[hk,hkb]at hx
  split at hx
  rotate_left
  ·cases hx
  rename_i hkr
  obtain⟨hkrw,hkbrw,rfl⟩:=hkr
  cases hco:cellsAt h a.block a.off (n*y)with
  |none=>simp[hco]at hx
  |some old=>
  simp only[hco,Option.some.injEq,Prod.mk.injEq,Int.toNat_natCast]at hx
  obtain⟨rfl,rfl⟩:=hx
  have hnone:φ h.length=none:=hφ _ (Nat.le_refl _) (by simp)
  obtain⟨lc,hl,hcl⟩:=h1 hb0
  rcases hcl with hc0|⟨rfl,hfit,hstr⟩
  ·omega
  clear h1 hz0
  have hbv0:b.block≠0:=by
   intro e0
   have hvz:=VR.slice_inv r3
   obtain⟨_,X2,c2,e2,hm2,hz2',_⟩:=hvz
   clear h1v
   injection e2 with _ _ e2
   have:=hz2' e0
   omega
  obtain⟨lv,hlv,hclv⟩:=h1v hbv0
  rcases hclv with hc0|⟨rfl,hfitv,hstrv⟩
  ·omega
  clear h1v
  obtain⟨hol,uo,huol,hor,hcell⟩:=cellsAt_sim H hl hco
  obtain⟨hbase,hinr,cur,ty',lo,hi',hg,hcs,hfz⟩:=H.row _ _ _ hl hk hkrw
  obtain⟨_,hinv,curv,tyv,lov,hiv,hgv,hcsv,hfzv⟩:=H.row _ _ _ hlv hkb hkbrw
  have hgne:lv.g≠lc.g:=λe0=>hab (H.one _ _ _ _ _ _ hlv hl hkb hk hkbrw hkrw e0)
  have hmulI:ii*y<=n*y:=Nat.mul_le_mul_right _ (by omega)
  have hmulC:n*y<=c*y:=Nat.mul_le_mul_right _ hnc
  have hsub1:(n-ii)*y=n*y-ii*y:=Nat.sub_mul _ _ _
  have haddIM:(ii+m')*y=ii*y+m'*y:=Nat.add_mul _ _ _
  have haddNM:(n+m')*y=n*y+m'*y:=Nat.add_mul _ _ _
  have hold':∀(q:Nat) (vv:Value),old[q]?=some vv->k.cells[a.off+q]?=some vv:=by
   intro q vv hv
   unfold cellsAt at hco
   simp only[hk]at hco
   split at hco
   ·injection hco with hco;subst hco
    have hql:q<n*y:=by have:=(List.getElem?_eq_some_iff.1 hv).1;simp at this;omega
    rw[List.getElem?_take_of_lt hql,List.getElem?_drop]at hv
    exact hv
   ·simp at hco
  obtain⟨ud,hud⟩:∃ud,ud=uo.drop (ii*y):=⟨_,rfl⟩
  have hudl:ud.length=(n-ii)*y:=by rw[hud];simp;omega
  have hdr:All2 (VR0 A φ) (old.drop (ii*y)) ud:=by rw[hud];exact hor.drop _
  have hcv:cellsAt h b.block b.off (m'*y)=some new:=by
   simp only[newCells]at hn
   rw[if_neg hm0]at hn
   exact hn
  clear hfirst hrel hunl un
  obtain⟨_,un,hunl,hrel,hcellv⟩:=cellsAt_sim H hlv hcv
  have hlen2:(h.set a.block ⟨[],false⟩).length=h.length:=by simp
  have hdl:(old.drop (ii*y)).length=(n-ii)*y:=by rw[hdr.length,hudl]
  by_cases hroom:n+m'<=c
  · -- in place
   obtain⟨p,hp⟩:∃p,p=lc.o+a.off+ii*y:=⟨_,rfl⟩
   have hmulR:(n+m')*y<=c*y:=Nat.mul_le_mul_right _ hroom
   obtain⟨q,hq⟩:∃q,q=lc.o+a.off+(ii+m')*y:=⟨_,rfl⟩
   have hqp:q=p+un.length:=by omega
   -- first copy
   have hst1:=run_storeCells_marks (P:=A.P) lc.g q ty' lo hi' ud 0 cur w.drew hg (by omega) (by rw[hcs];exact hfz.1) (list_all_one hdr)
   simp only[Nat.add_zero]at hst1
   obtain⟨row1,hrow1⟩:∃row1,row1=cur.toList.take q++ud++cur.toList.drop (q+ud.length):=⟨_,rfl⟩
   have hr1l:row1.length=cur.size:=by rw[hrow1];simp;omega
   rw[<-hrow1]at hst1
   have hc1:∀ty dc sc,(Builtin.copy_ #[ts,ts] ty #[.slice (some ⟨lc.g,lc.o+a.off+(ii+m')*y,none⟩) (n+m'-(ii+m')) dc,.slice (some ⟨lc.g,lc.o+a.off+ii*y,none⟩) (n+m'-ii) sc]).run A.P w.drew=.ok (goInt (Nat.min (n+m'-ii) (n+m'-(ii+m')))) (w.drew.setRow lc.g row1.toArray):=by
    intro ty dc sc
    have hmin:Nat.min (n+m'-ii) (n+m'-(ii+m'))=n-ii:=by
     have e5:n+m'-(ii+m')=n-ii:=by omega
     rw[e5];exact Nat.min_eq_right (by omega)
    rw[copy_run (us:=ud.toArray) hu (run_sizeOf hz _) (by simp[Builtin.lenOf];rfl) (by
     rw[hmin]
     have:=run_loadCells_at (A:=A) (w:=w.drew) (g:=lc.g) (o:=lc.o+a.off+ii*y) (us:=ud) (λt u hq'=>by
      rw[hud,List.getElem?_drop]at hq'
      have:=hcell _ u hq'
      rw[Nat.add_assoc];exact this)
     rw[hudl]at this
     simpa [Builtin.firstCells]using this)]
    rw[<-hq]
    simp[hst1]
   -- second copy
   have hg1:=setRow_heap w.drew lc.g cur row1.toArray ty' (lo,hi') hg
   have hst2:=run_storeCells_marks (P:=A.P) lc.g p ty' lo hi' un 0 row1.toArray (w.drew.setRow lc.g row1.toArray) hg1 (by simp[hr1l];omega) (λj hj=>hfz.1 j (by simpa [hr1l,hcs]using hj)) (list_all_one hrel)
   simp only[Nat.add_zero]at hst2
   obtain⟨w2,hw2⟩:∃w2,w2=(w.drew.setRow lc.g row1.toArray).setRow lc.g (row1.take p++un++row1.drop (p+un.length)).toArray:=⟨_,rfl⟩
   have hvcell:∀(t:Nat) (u:Value),un[t]?=some u->(w.drew.setRow lc.g row1.toArray).cell? ⟨lv.g,lv.o+b.off+t,none⟩=some u:=by
    intro t u ht
    rw[cell_of_heap (w:=w) (setRow_other w.drew lc.g lv.g _ hgne)]
    exact hcellv t u ht
   have hc2:∀ty dc,(Builtin.copy_ #[ts,ts] ty #[.slice (some ⟨lc.g,lc.o+a.off+ii*y,none⟩) (n+m'-ii) dc,.slice (some ⟨lv.g,lv.o+b.off,none⟩) m' cv]).run A.P (w.drew.setRow lc.g row1.toArray)=.ok (goInt (Nat.min m' (n+m'-ii))) w2:=by
    intro ty dc
    have hmin:Nat.min m' (n+m'-ii)=m':=Nat.min_eq_left (by omega)
    rw[copy_run (us:=un.toArray) hu (run_sizeOf hz _) (by simp[Builtin.lenOf];rfl) (by
     rw[hmin]
     have:=run_loadCells_at (A:=A) (w:=w.drew.setRow lc.g row1.toArray) (g:=lv.g) (o:=lv.o+b.off) (us:=un) hvcell
     rw[hunl]at this
     simpa [Builtin.firstCells]using this)]
    rw[<-hp]
    simp[hst2,hw2]
   have hwk:=W.room lc.g (lc.o+a.off) n c ii m' lv.g (lv.o+b.off) cv tyv ty' curv.size cur.size w _ w2 _ _ hlt (by omega) hnc hroom hsmall hgne (shape_of hgv) (shape_of hg) (by omega) (by
     have:=hfzv.1 (lv.o+b.off) (by have:m'*y<=cv*y:=Nat.mul_le_mul_right _ hmv;have:0<m'*y:=Nat.mul_pos (by omega) (by omega);omega)
     simp only[World.frozen?,hgv,Bool.and_eq_false_iff,decide_eq_false_iff_not]
     omega) (by
     simp only[World.frozen?,hgv,Bool.and_eq_false_iff,decide_eq_false_iff_not]
     by_cases hmark:lov<=lv.size∧lv.size<hiv
     ·have:=hstrv (hfzv.2 hmark);omega
     ·rw[hcsv];omega) hc1 hc2
   refine Calls.mono hwk ?_
   rintro e' w'⟨rfl,ew⟩
   subst ew
   have hall:All2 (VR0 A φ) (new++old.drop (ii*y)) (un++ud):=hrel.append hdr
   have hS:=adopt_sim (w':=w') (o:=a.off) (old:=old.take (ii*y)) (new:=new++old.drop (ii*y)) (us:=un++ud) H hl hk hkrw hnone (λt vv hv=>by
     have htl:t<ii*y:=by have:=(List.getElem?_eq_some_iff.1 hv).1;simp at this;omega
     rw[List.getElem?_take_of_lt htl]at hv
     exact hold' t vv hv) hall (by simp only[List.length_append,List.length_take,hnl,hdl];omega) (by rw[hw2];simp) (λg' hg'=>by rw[hw2,setRow_other _ _ _ _ hg',setRow_other _ _ _ _ hg'];rfl)
    (λcur2 t x' y' hc'=>by
     have hl1:(old.take (ii*y)).length=ii*y:=by simp;omega
     rw[hl1,hw2,<-hp]
     obtain⟨c1,f1,f2,f3⟩:=stored_row (w:=w.drew) (g:=lc.g) (p:=q) (us:=ud) hg (by omega) cur2 t x' y' hc'
     rw[<-hrow1]at f1
     obtain⟨c2,f4,f5,f6⟩:=stored_row (w:=w.drew.setRow lc.g row1.toArray) (g:=lc.g) (p:=p) (us:=un) hg1 (by simp[hr1l];omega) c1 t x' y' f1
     refine⟨c2,by simpa using f4,by omega,λs hs=>?_⟩
     have hc2s:cur2.size=cur.size:=by
      rw[hg]at hc'
      injection hc' with hc'
      injection hc' with hc' _ _
      rw[hc']
     rw[f6 s (by omega),f3 s hs]
     by_cases hA:p<=s∧s<p+un.length
     ·rw[if_pos hA,if_pos (by simp;omega),List.getElem?_append_left (by omega)]
     ·rw[if_neg hA]
      by_cases hB:q<=s∧s<q+ud.length
      ·rw[if_pos hB,if_pos (by simp;omega),List.getElem?_append_right (by omega)]
       congr 1;omega
      ·rw[if_neg hB,if_neg (by simp;omega)]) (by rw[hw2];rfl) (by rw[hw2];rfl) (by rw[hw2];rfl)
   refine⟨.slice (some ⟨lc.g,lc.o+a.off,none⟩) (n+m') c,φ.put h.length ⟨lc.g,lc.o+a.off,lc.size,lc.str⟩,rfl,⟨rfl,some ⟨lc.g,lc.o+a.off,none⟩,c,rfl,hroom,λe0=>absurd e0 hpos0,λ_=>⟨⟨lc.g,lc.o+a.off,lc.size,lc.str⟩,Phi.put_same _ _ _,.inr ⟨by simp,by simpa using hfit,hstr⟩⟩,⟨λe=>(by cases e),λe=>absurd e.1 hpos0⟩⟩,hS.1,hS.2⟩
  · -- a new row
   have hgr:c<n+m':=by omega
   have hge:=grownCap_ge w (n+m') c e
   obtain⟨G,hG⟩:∃G,G=grownCap w (n+m') c e:=⟨_,rfl⟩
   obtain⟨kk,hkk⟩:∃kk,kk=n+m'-ii:=⟨_,rfl⟩
   have hb48:(n+m')*i0.bytes<=140737488355328:=by
    have:=Nat.mul_le_mul hsmall hbytes
    omega
   have hold:(Builtin.firstCells i0.size ii (.slice (some ⟨lc.g,lc.o+a.off,none⟩) ii c)).run A.P w.drew=.ok (uo.take (ii*y)).toArray w.drew:=by
    rw[hisz]
    have:=run_loadCells_at (A:=A) (w:=w.drew) (g:=lc.g) (o:=lc.o+a.off) (us:=uo.take (ii*y)) (λt u ht=>by
     rw[List.getElem?_take_of_lt (by have:=(List.getElem?_eq_some_iff.1 ht).1;simp at this;omega)]at ht
     exact hcell t u ht)
    rw[show(uo.take (ii*y)).length=ii*y by simp;omega]at this
    simpa [Builtin.firstCells]using this
   have hap0:=λty=>Lib.run_append_grow_zeros w ts ti ty e i0 u0 .i64 ki hu hti hinf hzero (some ⟨lc.g,lc.o+a.off,none⟩) ii c (uo.take (ii*y)) hold kk (by omega) (by omega) (by omega) (by omega) (by
    have:kk*i0.bytes<=(n+m')*i0.bytes:=Nat.mul_le_mul_right _ (by omega)
    omega) (by rw[show ii+kk=n+m' by omega];exact growslice_fits hgr hb48)
   rw[show ii+kk=n+m' by omega,<-hG]at hap0
   obtain⟨row,hrow⟩:∃row:Array Value,row=(uo.take (ii*y)).toArray++Builtin.zeroCells u0.cells kk++Builtin.zeroCells u0.cells (G-(n+m')):=⟨_,rfl⟩
   rw[<-hrow]at hap0
   have hu0:u0.cells.size=y:=by have:=hzrel.length;simp at this;omega
   have haddk:ii*y+kk*y=(n+m')*y:=by rw[<-Nat.add_mul];congr 1;omega
   have haddG:(n+m')*y+(G-(n+m'))*y=G*y:=by rw[<-Nat.add_mul];congr 1;omega
   have hrowl:row.size=G*y:=by
    rw[hrow]
    simp only[Array.size_append,List.size_toArray,size_zeroCells,hu0,List.length_take,huol]
    omega
   have htk:(uo.take (ii*y)).length=ii*y:=by simp;omega
   have hzr:=zeroCells_rel (A:=A) (φ:=φ) hzrel kk (by omega)
   have hcsR:All2 (VR0 A φ) (old.take (ii*y)++reps kk zc) (uo.take (ii*y)++(Builtin.zeroCells u0.cells kk).toList):=(hor.take _).append hzr
   obtain⟨w1,hw1⟩:∃w1,w1=w.drew.alloc (.cells row e):=⟨_,rfl⟩
   have hS1:=alloc_sim (w':=w1) (cur:=row) (ty:=e) (lo:=0) (hi:=0) false (by omega) H hb hnone hcsR (λt v ht=>by
    have htl:t<(uo.take (ii*y)++(Builtin.zeroCells u0.cells kk).toList).length:=(List.getElem?_eq_some_iff.1 ht).1
    rw[hrow,Array.getElem?_append_left (by simpa using htl)]
    have e9:((uo.take (ii*y)).toArray++Builtin.zeroCells u0.cells kk).toList=uo.take (ii*y)++(Builtin.zeroCells u0.cells kk).toList:=by simp
    rw[<-Array.getElem?_toList,e9];exact ht) (by rw[hw1];simp) (λg' hg'=>by rw[hw1];exact heap_alloc_old w.drew _ g' hg') (by rw[hw1];exact heap_alloc_new w.drew _) (λt _=>by omega) (by rw[hw1];rfl) (by rw[hw1];rfl) (by rw[hw1];rfl)
   obtain⟨H1,E1⟩:=hS1
   have hlN:(φ.put h.length ⟨w.heap.size,0,row.size,false⟩) h.length=some ⟨w.heap.size,0,row.size,false⟩:=Phi.put_same _ _ _
   have hlC:(φ.put h.length ⟨w.heap.size,0,row.size,false⟩) a.block=some lc:=by rw[Phi.put_other _ _ (by have:=(List.getElem?_eq_some_iff.1 hk).1;omega)];exact hl
   have hsub:=Phi.put_sub (φ:=φ) (b:=h.length) ⟨w.heap.size,0,row.size,false⟩ hnone
   have hakl:(old.take (ii*y)).length=ii*y:=by simp;omega
   have hrl:(reps kk zc).length=kk*y:=by rw[reps_length,hcz]
   have hkm:m'*y<=kk*y:=Nat.mul_le_mul_right _ (by omega)
   have haddk2:kk*y=m'*y+(n-ii)*y:=by rw[<-Nat.add_mul];congr 1;omega
   -- the first copy
   have st1:=storeAt_last (h:=h) (a:=old.take (ii*y)) (b:=reps kk zc) (c:=new) (n:=ii*y) hakl.symm (by omega)
   obtain⟨w2,hr2,H2,E2⟩:=storeCells_sim H1 st1 hlN (hrel.mono λ_ _=>VR0.mono A hsub)
   have hr2':(storeCells ⟨w.heap.size,ii*y,none⟩ un).run A.P w1=.ok () w2:=by simpa using hr2
   have hc1:∀ty dc,(Builtin.copy_ #[ts,ts] ty #[.slice (some ⟨w.heap.size,ii*y,none⟩) (n+m'-ii) dc,.slice (some ⟨lv.g,lv.o+b.off,none⟩) m' cv]).run A.P w1=.ok (goInt (Nat.min m' (n+m'-ii))) w2:=by
    intro ty dc
    have hmin:Nat.min m' (n+m'-ii)=m':=Nat.min_eq_left (by omega)
    rw[copy_run (us:=un.toArray) hu (run_sizeOf hz _) (by simp[Builtin.lenOf];rfl) (by
     rw[hmin]
     have:=run_loadCells_at (A:=A) (w:=w1) (g:=lv.g) (o:=lv.o+b.off) (us:=un) (λt u ht=>by
      rw[cell_of_heap (w:=w) (by rw[hw1];exact heap_alloc_old w.drew _ lv.g (H.low _ _ hlv))]
      exact hcellv t u ht)
     rw[hunl]at this
     simpa [Builtin.firstCells]using this)]
    simp[hr2']
   -- the second copy
   have H2d:HeapR A (φ.put h.length ⟨w.heap.size,0,row.size,false⟩) (h++[⟨old.take (ii*y)++new++(reps kk zc).drop new.length,true⟩]) w2.drew base:=H2.same_world rfl
   have hcoN:cellsAt (h++[⟨old.take (ii*y)++new++(reps kk zc).drop new.length,true⟩]) a.block a.off (n*y)=some old:=by
    unfold cellsAt at hco ⊢
    rw[List.getElem?_append_left (List.getElem?_eq_some_iff.1 hk).1];exact hco
   obtain⟨_,uo2,huo2l,hor2,hcell2⟩:=cellsAt_sim H2d hlC hcoN
   obtain⟨ud2,hud2⟩:∃ud2,ud2=uo2.drop (ii*y):=⟨_,rfl⟩
   have hud2l:ud2.length=(n-ii)*y:=by rw[hud2];simp;omega
   have hdr2:All2 (VR0 A (φ.put h.length ⟨w.heap.size,0,row.size,false⟩)) (old.drop (ii*y)) ud2:=by rw[hud2];exact hor2.drop _
   have st2:=storeAt_last (h:=h) (a:=old.take (ii*y)++new) (b:=(reps kk zc).drop new.length) (c:=old.drop (ii*y)) (n:=(ii+m')*y) (by simp only[List.length_append,hakl,hnl];omega) (by simp only[List.length_drop,hrl,hnl,hol];omega)
   obtain⟨w3,hr3,H3,E3⟩:=storeCells_sim H2d st2 hlN hdr2
   have hr3':(storeCells ⟨w.heap.size,(ii+m')*y,none⟩ ud2).run A.P w2.drew=.ok () w3:=by simpa using hr3
   have hc2:∀ty dc sc,(Builtin.copy_ #[ts,ts] ty #[.slice (some ⟨w.heap.size,(ii+m')*y,none⟩) (n+m'-(ii+m')) dc,.slice (some ⟨lc.g,lc.o+a.off+ii*y,none⟩) (n-ii) sc]).run A.P w2.drew=.ok (goInt (Nat.min (n-ii) (n+m'-(ii+m')))) w3:=by
    intro ty dc sc
    have hmin:Nat.min (n-ii) (n+m'-(ii+m'))=n-ii:=Nat.min_eq_left (by omega)
    rw[copy_run (us:=ud2.toArray) hu (run_sizeOf hz _) (by simp[Builtin.lenOf];rfl) (by
     rw[hmin]
     have:=run_loadCells_at (A:=A) (w:=w2.drew) (g:=lc.g) (o:=lc.o+a.off+ii*y) (us:=ud2) (λt u hq'=>by
      rw[hud2,List.getElem?_drop]at hq'
      have:=hcell2 _ u hq'
      rw[Nat.add_assoc];exact this)
     rw[hud2l]at this
     simpa [Builtin.firstCells]using this)]
    simp[hr3']
   have hwk:=W.grow lc.g (lc.o+a.off) w.heap.size n c ii m' G _ cv w w1 w2 w3 _ _ hlt (by omega) hnc hgr hsmall (by omega) (λty=>by
    have:=hap0 ty
    rw[show((n:Int)+(m':Int)-(ii:Int))=(kk:Int)by omega,hw1]
    exact this) hc1 hc2
   refine Calls.mono hwk ?_
   rintro e' w'⟨rfl,ew⟩
   subst ew
   have efin:old.take (ii*y)++new++old.drop (ii*y)++((reps kk zc).drop new.length).drop (old.drop (ii*y)).length=old.take (ii*y)++(new++old.drop (ii*y)):=by
    have:((reps kk zc).drop new.length).drop (old.drop (ii*y)).length=[]:=List.drop_eq_nil_of_le (by simp only[List.length_drop,hrl,hnl,hol];omega)
    rw[this];simp
   rw[efin]at H3 E3
   have Hk:=kill_sim (b:=a.block) H3
   have hah:a.block<h.length:=(List.getElem?_eq_some_iff.1 hk).1
   have eheap:List.set (α:=Blk) (h++[⟨old.take (ii*y)++(new++old.drop (ii*y)),true⟩]) a.block ⟨[],false⟩=h.set a.block ⟨[],false⟩++[⟨old.take (ii*y)++(new++old.drop (ii*y)),true⟩]:=List.set_append_left _ _ hah
   rw[eheap]at Hk
   have Ek:Ext w.heap.size (φ.put h.length ⟨w.heap.size,0,row.size,false⟩) (h++[⟨old.take (ii*y)++(new++old.drop (ii*y)),true⟩]) w' (φ.put h.length ⟨w.heap.size,0,row.size,false⟩) (h.set a.block ⟨[],false⟩++[⟨old.take (ii*y)++(new++old.drop (ii*y)),true⟩]) w':=by
    rw[<-eheap];exact kill_ext
   have hs1:w.heap.size<=w1.heap.size:=E1.size
   have hs2:w1.heap.size<=w2.heap.size:=E2.size
   have E12:=Ext.trans (Nat.le_refl _) E1 (E2.weak hs1)
   have E3':Ext w.heap.size (φ.put h.length ⟨w.heap.size,0,row.size,false⟩) (h++[⟨old.take (ii*y)++new++(reps kk zc).drop new.length,true⟩]) w2 (φ.put h.length ⟨w.heap.size,0,row.size,false⟩) (h++[⟨old.take (ii*y)++(new++old.drop (ii*y)),true⟩]) w':=by
    have:=E3.weak (show w.heap.size<=w2.drew.heap.size by exact Nat.le_trans hs1 hs2)
    exact⟨this.sub,this.newd,this.same,this.len,this.mode,this.size,this.os,this.tape,this.output,this.frame,this.fresh⟩
   have E123:=Ext.trans (Nat.le_refl _) E12 E3'
   refine⟨.slice (some ⟨w.heap.size,0,none⟩) (n+m') G,φ.put h.length ⟨w.heap.size,0,row.size,false⟩,rfl,⟨rfl,some ⟨w.heap.size,0,none⟩,G,rfl,by omega,λe0=>absurd e0 hpos0,λ_=>⟨⟨w.heap.size,0,row.size,false⟩,Phi.put_same _ _ _,.inr ⟨rfl,?_,λe=>(by cases e)⟩⟩,⟨λe=>(by cases e),λe=>absurd e.1 hpos0⟩⟩,Hk,Ext.trans (Nat.le_refl _) E123 Ek⟩
   simp only[hrowl];omega
end
end Am

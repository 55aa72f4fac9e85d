/- The primitive slices.Insert. -/
import Derived.Test.YtpgioncclmancaaGreatPPrim
set_option linter.unusedVariables false
set_option linter.unusedSimpArgs false
set_option maxHeartbeats 4000000
namespace Am
open Go
structure Xv (P:Program) (gf:Nat) (ts ti:TypeId) (z:Nat):Prop where
 fin:∀(X V:Option Addr) (n c m vc:Nat) (w w1:World) (r:Value),0<m->n<=c->n+m<=1073741824->
  (∀ty,(Builtin.append_ #[ts,ts] ty #[.slice X n c,.slice V m vc]).run P w=.ok r w1)->
  Calls P gf #[.slice X n c,.int .i64 n,.slice V m vc] w λe w'=>e=.returned r∧w'=w1
 grow:∀(g o g1 n c i m G:Nat) (V:Option Addr) (vc:Nat) (w w1 w2 w3:World) (u1 u2:Value),i<n->0<m->n<=c->c<n+m->n+m<=1073741824->n+m<=G->
  (∀ty,(Builtin.append_ #[ts,ti] ty #[.slice (some ⟨g,o,none⟩) i c,.int .i64 ((n:Int)+(m:Int)-(i:Int))]).run P w=.ok (.slice (some ⟨g1,0,none⟩) (n+m) G) w1)->
  (∀ty dc,(Builtin.copy_ #[ts,ts] ty #[.slice (some ⟨g1,i*z,none⟩) (n+m-i) dc,.slice V m vc]).run P w1=.ok u1 w2)->
  (∀ty dc sc,(Builtin.copy_ #[ts,ts] ty #[.slice (some ⟨g1,(i+m)*z,none⟩) (n+m-(i+m)) dc,.slice (some ⟨g,o+i*z,none⟩) (n-i) sc]).run P w2.drew=.ok u2 w3)->
  Calls P gf #[.slice (some ⟨g,o,none⟩) n c,.int .i64 i,.slice V m vc] w λe w'=>e=.returned (.slice (some ⟨g1,0,none⟩) (n+m) G)∧w'=w3
 room:∀(g o n c i m gv ov:Nat) (vc tA tB kA kB:Nat) (w w1 w2:World) (u1 u2:Value),i<n->0<m->n<=c->n+m<=c->n+m<=1073741824->
  gv≠g->w.shape? gv=some (tA,kA)->w.shape? g=some (tB,kB)->kB≠0->w.frozen? ⟨gv,ov,none⟩=false->w.frozen? ⟨gv,kA,none⟩=false->
  (∀ty dc sc,(Builtin.copy_ #[ts,ts] ty #[.slice (some ⟨g,o+(i+m)*z,none⟩) (n+m-(i+m)) dc,.slice (some ⟨g,o+i*z,none⟩) (n+m-i) sc]).run P w.drew=.ok u1 w1)->
  (∀ty dc,(Builtin.copy_ #[ts,ts] ty #[.slice (some ⟨g,o+i*z,none⟩) (n+m-i) dc,.slice (some ⟨gv,ov,none⟩) m vc]).run P w1=.ok u2 w2)->
  Calls P gf #[.slice (some ⟨g,o,none⟩) n c,.int .i64 i,.slice (some ⟨gv,ov,none⟩) m vc] w λe w'=>e=.returned (.slice (some ⟨g,o,none⟩) (n+m) c)∧w'=w2
theorem enters_of{P:Program}{g:Nat}{fn:Func}(hf:P.funcs[g]?=some fn)(hn:(fn.name== "runtime.NumGoroutine")=false)(hb:fn.body.isSome=true):awr P g:=by
 intro us w hs;obtain⟨b,hb⟩:=jQ.1 hb;have vW:fn.name≠ "runtime.NumGoroutine" :=by simpa using hn
 simp[callFunc,hf,vW,hb]
section
variable {A : iG} {φ : dS} {h : a9} {w : World} {base : Nat}
theorem Ub{h:a9}{b o n:Nat}{cs:List Value}(a:aZ h b o n=some cs):cs.length=n:=by
 unfold aZ at a
 grind
theorem ag5{a b c:List Value}{n:Nat}(hn:n=a.length):iK (a++b) n c=a++c++b.drop c.length:=by subst hn;simp[iK,pr]
theorem KD{h:a9}{a b c:List Value}{n:Nat}(hn:n=a.length)(hl:c.length<=b.length):storeAt (h++[⟨a++b,true⟩]) h.length n c=some (h++[⟨a++c++b.drop c.length,true⟩]):=by unfold storeAt;simp only[aX (aa _),gN,gd];rw[if_pos ⟨trivial,by simp;omega⟩,ag5 hn];simp
theorem Wt{g ty:Nat}{cur:Array Value}{m:Nat×Nat}(a:w.heap[g]?=some (.cells cur ty m)):w.shape? g=some (ty,cur.size):=by simp[World.shape?,a]
theorem SQ{g ts ti e:Nat}{z:Nat}{zc:List Value}{ki:IntKind}(hu:A.P.underlying ts=some (.slice e))(hti:A.P.underlying ti=some (.int ki))(hz:fj A e=some z)(hc:nG A e=some zc)(EE:zc.length=z)(LF:(A.P.info? e).map (decide<|·.bytes<=4096)=some true)(JB:awr A.P g)(W:Xv A.P g ts ti z):
  ∀base,GA A base g ⟨3,.goto (2*z),[]⟩:=by
 intro base
 refine⟨sG z,?_,λ_ _ _ _ x=>G9 x,?_⟩
 ·have h1:(2*z)%2=0:=by omega
  have h2:(2*z)/2=z:=by omega
  simp[vM,h1,h2]
 intro args h v h' φ w us hlen hx H hb hφ qm
 have hlen:args.length=3:=hlen
 have OF:=qm.length
 refine⟨JB _ _ (by simp;omega),?_⟩
 unfold sG at hx
 split at hx
 rotate_left
 ·cases hx
 rename_i a n y i b m x h0
 match us,qm with
 |[u1,u2,u3],⟨r1,r2,r3,_⟩=>
 have e2:=VR.mV r2
 subst e2
 cases hn:cR z h (.slice (some b) m x)with
 |none=>simp[hn]at hx
 |some new=>
 simp only[hn]at hx
 split at hx
 ·cases hx
 rename_i mw
 simp only[not_or,Int.not_lt,Int.not_le,Nat.not_lt,Decidable.not_not]at mw
 obtain⟨DO,rfl,LN,DD,Ro,mN,BT⟩:=mw
 obtain⟨ii,rfl⟩:=bc Ro
 have MG:ii<=n:=by omega
 obtain⟨i0,u0,MH,hzero,K5⟩:=qG (φ:=φ) hc
 obtain⟨i1,Bh,MI⟩:=uJ hz
 rw[MH]at Bh;injection Bh with Bh;subst Bh
 have Oj:i0.bytes<=4096:=by simpa [MH]using LF
 obtain⟨m',un,vG,uQ,mh,EF⟩:=Bu H (by omega) r3 hn
 obtain⟨aL6,XV,cv,rfl,hmv,_,h1v,-⟩:=VR.oU r3
 have Vc:m'=m:=by
  simp only[Builtin.lenOf]at vG
  simp at vG
  exact vG.symm
 subst Vc
 have adA:un.length=m'*x:=by rw[<-uQ.length,mh]
 have ajf:m'<=new.length:=by rw[mh];exact fL _ (by omega)
 have ER:n+m'<=1073741824:=by unfold maxSize at DD;omega
 have cG:new≠[]:=by intro e;rw[e]at ajf;simp at ajf;omega
 have hdiv:new.length/x=m':=by rw[mh];exact gM _ (by omega)
 obtain⟨DM,X,c,rfl,rC,LP,h1,-⟩:=VR.oU r1
 have qU:h.length≠0:=by have:=H.pos;omega
 by_cases JC:ii=n
 · -- at the end
  subst JC
  have key:cu x h (.slice (some b) m' x) (.slice (some a) ii y)=some (v,h')∧h.length<h'.length:=by
   split at hx
   ·rename_i kf
    injection hx with hx;injection hx with e1 e2;subst e1;subst e2
    have:=LP kf
    have hii:ii=0:=by omega
    refine⟨?_,by simp⟩
    simp only[cu,hn]
    rw[if_neg (by omega),if_neg cG,if_neg (by unfold maxSize at*;omega),if_pos kf,hdiv]
   ·rename_i kf
    split at hx
    ·rename_i k kb hk C4
     split at hx
     ·rename_i Ou
      obtain⟨EI,_,rfl⟩:=Ou
      cases oA:aZ h a.block a.off (ii*y)with
      |none=>simp[oA]at hx
      |some old=>
      simp only[oA,aI,cF]at hx
      obtain⟨rfl,rfl⟩:=hx
      have GS:=(Ub oA)
      refine⟨?_,by simp⟩
      simp only[cu,hn,hk]
      rw[if_neg (by omega),if_neg cG,if_neg (by unfold maxSize at*;omega),if_neg kf,if_pos ⟨EI,trivial⟩,oA,hdiv]
      simp only[aM]
      rw[aY (by omega),dz (by omega),gH]
     ·cases hx
    ·cases hx
  obtain⟨ha,bB⟩:=key
  have hS:=λty=>R5 (ty:=ty) (t:=ts) (t1:=ts) H hb (λ_=>hφ _ (aa _) bB) hu hz hc EE LF (.inl ⟨e,hu⟩) r1 r3 ha
  obtain⟨u,w',φ',di,hv,hH,hE⟩:=hS 0
  refine Calls.mono (W.fin X XV ii c m' cv w w' u (by omega) rC ER (λty=>?_)) ?_
  ·exact di
  ·rintro e' w''⟨rfl,rfl⟩
   exact⟨u,φ',rfl,hv,hH,hE⟩
 · -- further ahead
  have bB:ii<n:=by omega
  have kf:a.block≠0:=λe0=>by have:=LP e0;omega
  rw[if_neg kf]at hx
  cases hk:h[a.block]? with
  |none=>simp[hk]at hx
  |some k=>
  cases C4:h[b.block]? with
  |none=>simp[hk,C4]at hx
  |some kb=>
  simp only[hk,C4]at hx
  split at hx
  rotate_left
  ·cases hx
  rename_i Ou
  obtain⟨EI,alE,rfl⟩:=Ou
  cases oA:aZ h a.block a.off (n*y)with
  |none=>simp[oA]at hx
  |some old=>
  simp only[oA,aI,cF,aM]at hx
  obtain⟨rfl,rfl⟩:=hx
  have Ab:φ h.length=none:=hφ _ (aa _) (by simp)
  obtain⟨lc,hl,iC⟩:=h1 kf
  rcases iC with BU|⟨rfl,xC,Gr⟩
  ·omega
  clear h1 LP
  have aEi:b.block≠0:=by
   intro e0
   have hvz:=VR.oU r3
   obtain⟨_,X2,c2,e2,hm2,aEU,_⟩:=hvz
   clear h1v
   injection e2 with _ _ e2
   have:=aEU e0
   omega
  obtain⟨lv,JG,aEl⟩:=h1v aEi
  rcases aEl with BU|⟨rfl,aLg,ax3⟩
  ·omega
  clear h1v
  obtain⟨GS,uo,Qh,za,db⟩:=sJ H hl oA
  obtain⟨K2,aLX,cur,Dn,lo,iY,hg,vC,EG⟩:=H.row _ _ _ hl hk EI
  obtain⟨_,hinv,aDR,tyv,lov,hiv,hgv,aEq,aqX⟩:=H.row _ _ _ JG C4 alE
  have aq0:lv.g≠lc.g:=λe0=>BT (H.one _ _ _ _ _ _ JG hl C4 hk alE EI e0)
  have axW:ii*y<=n*y:=bM _ (by omega)
  have axV:n*y<=c*y:=bM _ rC
  have ax4:(n-ii)*y=n*y-ii*y:=Nat.sub_mul _ _ _
  have aH8:(ii+m')*y=ii*y+m'*y:=cX _ _ _
  have aH9:(n+m')*y=n*y+m'*y:=cX _ _ _
  have adx:∀(q:Nat) (vv:Value),old[q]?=some vv->k.cells[a.off+q]?=some vv:=by
   intro q vv hv
   unfold aZ at oA
   simp only[hk]at oA
   split at oA
   ·injection oA with oA;subst oA
    have hql:q<n*y:=by have:=(au.1 hv).1;simp at this;omega
    rw[bO hql,dU]at hv
    exact hv
   ·simp at oA
  obtain⟨ud,Vk⟩:∃ud,ud=uo.drop (ii*y):=⟨_,rfl⟩
  have Qg:ud.length=(n-ii)*y:=by rw[Vk];simp;omega
  have Yc:cM (iS A φ) (old.drop (ii*y)) ud:=by rw[Vk];exact za.drop _
  have Ol:aZ h b.block b.off (m'*y)=some new:=by
   simp only[cR]at hn
   rw[if_neg LN]at hn
   exact hn
  clear EF uQ adA un
  obtain⟨_,un,adA,uQ,afu⟩:=sJ H JG Ol
  have Ox:(h.set a.block ⟨[],false⟩).length=h.length:=by simp
  have uV:(old.drop (ii*y)).length=(n-ii)*y:=by rw[Yc.length,Qg]
  by_cases xJ:n+m'<=c
  · -- in place
   obtain⟨p,hp⟩:∃p,p=lc.o+a.off+ii*y:=⟨_,rfl⟩
   have aLk:(n+m')*y<=c*y:=bM _ xJ
   obtain⟨q,hq⟩:∃q,q=lc.o+a.off+(ii+m')*y:=⟨_,rfl⟩
   have hqp:q=p+un.length:=by omega
   -- first copy
   have JL:=kG (P:=A.P) lc.g q Dn lo iY ud 0 cur w.drew hg (by omega) (by rw[vC];exact EG.1) (tq Yc)
   simp only[bA]at JL
   obtain⟨rF,HY⟩:∃rF,rF=cur.toList.take q++ud++cur.toList.drop (q+ud.length):=⟨_,rfl⟩
   have Qf:rF.length=cur.size:=by rw[HY];simp;omega
   rw[<-HY]at JL
   have uE:∀ty dc sc,(Builtin.copy_ #[ts,ts] ty #[.slice (some ⟨lc.g,lc.o+a.off+(ii+m')*y,none⟩) (n+m'-(ii+m')) dc,.slice (some ⟨lc.g,lc.o+a.off+ii*y,none⟩) (n+m'-ii) sc]).run A.P w.drew=.ok (goInt (Nat.min (n+m'-ii) (n+m'-(ii+m')))) (w.drew.setRow lc.g rF.toArray):=by
    intro ty dc sc
    have Gq:Nat.min (n+m'-ii) (n+m'-(ii+m'))=n-ii:=by
     have e5:n+m'-(ii+m')=n-ii:=by omega
     rw[e5];exact Nat.min_eq_right (by omega)
    rw[HM (us:=ud.toArray) hu (run_sizeOf hz _) (by simp[Builtin.lenOf];rfl) (by
     rw[Gq]
     have:=jX (A:=A) (w:=w.drew) (g:=lc.g) (o:=lc.o+a.off+ii*y) (us:=ud) (λt u C5=>by
      rw[Vk,dU]at C5
      have:=db _ u C5
      rw[dR];exact this)
     rw[Qg]at this
     simpa [Builtin.firstCells]using this)]
    rw[<-hq]
    simp[JL]
   -- second copy
   have U4:=setRow_heap w.drew lc.g cur rF.toArray Dn (lo,iY) hg
   have Vj:=kG (P:=A.P) lc.g p Dn lo iY un 0 rF.toArray (w.drew.setRow lc.g rF.toArray) U4 (by simp[Qf];omega) (λj hj=>EG.1 j (by simpa [Qf,vC]using hj)) (tq uQ)
   simp only[bA]at Vj
   obtain⟨w2,vZ⟩:∃w2,w2=(w.drew.setRow lc.g rF.toArray).setRow lc.g (rF.take p++un++rF.drop (p+un.length)).toArray:=⟨_,rfl⟩
   have arB:∀(t:Nat) (u:Value),un[t]?=some u->(w.drew.setRow lc.g rF.toArray).cell? ⟨lv.g,lv.o+b.off+t,none⟩=some u:=by
    intro t u ht
    rw[pK (w:=w) (setRow_other w.drew lc.g lv.g _ aq0)]
    exact afu t u ht
   have mA:∀ty dc,(Builtin.copy_ #[ts,ts] ty #[.slice (some ⟨lc.g,lc.o+a.off+ii*y,none⟩) (n+m'-ii) dc,.slice (some ⟨lv.g,lv.o+b.off,none⟩) m' cv]).run A.P (w.drew.setRow lc.g rF.toArray)=.ok (goInt (Nat.min m' (n+m'-ii))) w2:=by
    intro ty dc
    have Gq:Nat.min m' (n+m'-ii)=m':=ks (by omega)
    rw[HM (us:=un.toArray) hu (run_sizeOf hz _) (by simp[Builtin.lenOf];rfl) (by
     rw[Gq]
     have:=jX (A:=A) (w:=w.drew.setRow lc.g rF.toArray) (g:=lv.g) (o:=lv.o+b.off) (us:=un) arB
     rw[adA]at this
     simpa [Builtin.firstCells]using this)]
    rw[<-hp]
    simp[Vj,vZ]
   have JO:=W.room lc.g (lc.o+a.off) n c ii m' lv.g (lv.o+b.off) cv tyv Dn aDR.size cur.size w _ w2 _ _ bB (by omega) rC xJ ER aq0 (Wt hgv) (Wt hg) (by omega) (by
     have:=aqX.1 (lv.o+b.off) (by have:m'*y<=cv*y:=bM _ hmv;have:0<m'*y:=Nat.mul_pos (by omega) (by omega);omega)
     simp only[World.frozen?,hgv,jP,decide_eq_false_iff_not]
     omega) (by
     simp only[World.frozen?,hgv,jP,decide_eq_false_iff_not]
     by_cases axU:lov<=lv.size∧lv.size<hiv
     ·have:=ax3 (aqX.2 axU);omega
     ·rw[aEq];omega) uE mA
   refine Calls.mono JO ?_
   rintro e' w'⟨rfl,ew⟩
   subst ew
   have ia:cM (iS A φ) (new++old.drop (ii*y)) (un++ud):=uQ.append Yc
   have hS:=I5 (w':=w') (o:=a.off) (old:=old.take (ii*y)) (new:=new++old.drop (ii*y)) (us:=un++ud) H hl hk EI Ab (λt vv hv=>by
     have htl:t<ii*y:=by have:=(au.1 hv).1;simp at this;omega
     rw[bO htl]at hv
     exact adx t vv hv) ia (by simp only[af,bu,mh,uV];omega) (by rw[vZ];simp) (λg' vD=>by rw[vZ,setRow_other _ _ _ _ vD,setRow_other _ _ _ _ vD];rfl)
    (λZP t x' y' mS=>by
     have Ov:(old.take (ii*y)).length=ii*y:=by simp;omega
     rw[Ov,vZ,<-hp]
     obtain⟨c1,f1,f2,f3⟩:=yU (w:=w.drew) (g:=lc.g) (p:=q) (us:=ud) hg (by omega) ZP t x' y' mS
     rw[<-HY]at f1
     obtain⟨c2,f4,f5,f6⟩:=yU (w:=w.drew.setRow lc.g rF.toArray) (g:=lc.g) (p:=p) (us:=un) U4 (by simp[Qf];omega) c1 t x' y' f1
     refine⟨c2,by simpa using f4,by omega,λs hs=>?_⟩
     have aLQ:ZP.size=cur.size:=by
      rw[hg]at mS
      injection mS with mS
      injection mS with mS _ _
      rw[mS]
     rw[f6 s (by omega),f3 s hs]
     by_cases hA:p<=s∧s<p+un.length
     ·rw[if_pos hA,if_pos (by simp;omega),ai (by omega)]
     ·rw[if_neg hA]
      by_cases hB:q<=s∧s<q+ud.length
      ·rw[if_pos hB,if_pos (by simp;omega),aX (by omega)]
       congr 1;omega
      ·rw[if_neg hB,if_neg (by simp;omega)]) (by rw[vZ];rfl) (by rw[vZ];rfl) (by rw[vZ];rfl)
   refine⟨.slice (some ⟨lc.g,lc.o+a.off,none⟩) (n+m') c,φ.put h.length ⟨lc.g,lc.o+a.off,lc.size,lc.str⟩,rfl,⟨rfl,some ⟨lc.g,lc.o+a.off,none⟩,c,rfl,xJ,λe0=>absurd e0 qU,λ_=>⟨⟨lc.g,lc.o+a.off,lc.size,lc.str⟩,dS.jG _ _ _,.inr ⟨by simp,by simpa using xC,Gr⟩⟩,⟨λe=>(by cases e),λe=>absurd e.1 qU⟩⟩,hS.1,hS.2⟩
  · -- a new row
   have C3:c<n+m':=by omega
   have dG:=grownCap_ge w (n+m') c e
   obtain⟨G,hG⟩:∃G,G=grownCap w (n+m') c e:=⟨_,rfl⟩
   obtain⟨kk,Bj⟩:∃kk,kk=n+m'-ii:=⟨_,rfl⟩
   have aEf:(n+m')*i0.bytes<=140737488355328:=by
    have:=dh ER Oj
    omega
   have hold:(Builtin.firstCells i0.size ii (.slice (some ⟨lc.g,lc.o+a.off,none⟩) ii c)).run A.P w.drew=.ok (uo.take (ii*y)).toArray w.drew:=by
    rw[MI]
    have:=jX (A:=A) (w:=w.drew) (g:=lc.g) (o:=lc.o+a.off) (us:=uo.take (ii*y)) (λt u ht=>by
     rw[bO (by have:=(au.1 ht).1;simp at this;omega)]at ht
     exact db t u ht)
    rw[show(uo.take (ii*y)).length=ii*y by simp;omega]at this
    simpa [Builtin.firstCells]using this
   have aja:=λty=>Lib.run_append_grow_zeros w ts ti ty e i0 u0 .i64 ki hu hti MH hzero (some ⟨lc.g,lc.o+a.off,none⟩) ii c (uo.take (ii*y)) hold kk (by omega) (by omega) (by omega) (by omega) (by
    have:kk*i0.bytes<=(n+m')*i0.bytes:=bM _ (by omega)
    omega) (by rw[show ii+kk=n+m' by omega];exact growslice_fits C3 aEf)
   rw[show ii+kk=n+m' by omega,<-hG]at aja
   obtain⟨row,iJ⟩:∃row:Array Value,row=(uo.take (ii*y)).toArray++Builtin.zeroCells u0.cells kk++Builtin.zeroCells u0.cells (G-(n+m')):=⟨_,rfl⟩
   rw[<-iJ]at aja
   have hu0:u0.cells.size=y:=by have:=K5.length;simp at this;omega
   have aLf:ii*y+kk*y=(n+m')*y:=by rw[<-cX];congr 1;omega
   have aLe:(n+m')*y+(G-(n+m'))*y=G*y:=by rw[<-cX];congr 1;omega
   have ax1:row.size=G*y:=by
    rw[iJ]
    simp only[Array.size_append,List.size_toArray,size_zeroCells,hu0,bu,Qh]
    omega
   have htk:(uo.take (ii*y)).length=ii*y:=by simp;omega
   have RD:=IX (A:=A) (φ:=φ) K5 kk (by omega)
   have aEp:cM (iS A φ) (old.take (ii*y)++jN kk zc) (uo.take (ii*y)++(Builtin.zeroCells u0.cells kk).toList):=(za.take _).append RD
   obtain⟨w1,yk⟩:∃w1,w1=w.drew.alloc (.cells row e):=⟨_,rfl⟩
   have hS1:=CY (w':=w1) (cur:=row) (ty:=e) (lo:=0) (hi:=0) false (by omega) H hb Ab aEp (λt v ht=>by
    have htl:t<(uo.take (ii*y)++(Builtin.zeroCells u0.cells kk).toList).length:=(au.1 ht).1
    rw[iJ,iV (by simpa using htl)]
    have e9:((uo.take (ii*y)).toArray++Builtin.zeroCells u0.cells kk).toList=uo.take (ii*y)++(Builtin.zeroCells u0.cells kk).toList:=by simp
    rw[<-Array.getElem?_toList,e9];exact ht) (by rw[yk];simp) (λg' vD=>by rw[yk];exact heap_alloc_old w.drew _ g' vD) (by rw[yk];exact heap_alloc_new w.drew _) (λt _=>by omega) (by rw[yk];rfl) (by rw[yk];rfl) (by rw[yk];rfl)
   obtain⟨H1,E1⟩:=hS1
   have hlN:(φ.put h.length ⟨w.heap.size,0,row.size,false⟩) h.length=some ⟨w.heap.size,0,row.size,false⟩:=dS.jG _ _ _
   have hlC:(φ.put h.length ⟨w.heap.size,0,row.size,false⟩) a.block=some lc:=by rw[dS.kE _ _ (by have:=(au.1 hk).1;omega)];exact hl
   have zi:=dS.Qx (φ:=φ) (b:=h.length) ⟨w.heap.size,0,row.size,false⟩ Ab
   have aqE:(old.take (ii*y)).length=ii*y:=by simp;omega
   have hrl:(jN kk zc).length=kk*y:=by rw[xt,EE]
   have hkm:m'*y<=kk*y:=bM _ (by omega)
   have aIa:kk*y=m'*y+(n-ii)*y:=by rw[<-cX];congr 1;omega
   -- the first copy
   have Hj:=KD (h:=h) (a:=old.take (ii*y)) (b:=jN kk zc) (c:=new) (n:=ii*y) aqE.symm (by omega)
   obtain⟨w2,OC,H2,E2⟩:=yT H1 Hj hlN (uQ.mono λ_ _=>iS.mono A zi)
   have aEJ:(storeCells ⟨w.heap.size,ii*y,none⟩ un).run A.P w1=.ok () w2:=by simpa using OC
   have uE:∀ty dc,(Builtin.copy_ #[ts,ts] ty #[.slice (some ⟨w.heap.size,ii*y,none⟩) (n+m'-ii) dc,.slice (some ⟨lv.g,lv.o+b.off,none⟩) m' cv]).run A.P w1=.ok (goInt (Nat.min m' (n+m'-ii))) w2:=by
    intro ty dc
    have Gq:Nat.min m' (n+m'-ii)=m':=ks (by omega)
    rw[HM (us:=un.toArray) hu (run_sizeOf hz _) (by simp[Builtin.lenOf];rfl) (by
     rw[Gq]
     have:=jX (A:=A) (w:=w1) (g:=lv.g) (o:=lv.o+b.off) (us:=un) (λt u ht=>by
      rw[pK (w:=w) (by rw[yk];exact heap_alloc_old w.drew _ lv.g (H.low _ _ JG))]
      exact afu t u ht)
     rw[adA]at this
     simpa [Builtin.firstCells]using this)]
    simp[aEJ]
   -- the second copy
   have H2d:bG A (φ.put h.length ⟨w.heap.size,0,row.size,false⟩) (h++[⟨old.take (ii*y)++new++(jN kk zc).drop new.length,true⟩]) w2.drew base:=H2.Io rfl
   have aEn:aZ (h++[⟨old.take (ii*y)++new++(jN kk zc).drop new.length,true⟩]) a.block a.off (n*y)=some old:=by
    unfold aZ at oA ⊢
    rw[ai (au.1 hk).1];exact oA
   obtain⟨_,uo2,aLn,aEE,aqL⟩:=sJ H2d hlC aEn
   obtain⟨WD,ajh⟩:∃WD,WD=uo2.drop (ii*y):=⟨_,rfl⟩
   have ax5:WD.length=(n-ii)*y:=by rw[ajh];simp;omega
   have aEs:cM (iS A (φ.put h.length ⟨w.heap.size,0,row.size,false⟩)) (old.drop (ii*y)) WD:=by rw[ajh];exact aEE.drop _
   have KC:=KD (h:=h) (a:=old.take (ii*y)++new) (b:=(jN kk zc).drop new.length) (c:=old.drop (ii*y)) (n:=(ii+m')*y) (by simp only[af,aqE,mh];omega) (by simp only[gA,hrl,mh,GS];omega)
   obtain⟨w3,hr3,H3,E3⟩:=yT H2d KC hlN aEs
   have aEK:(storeCells ⟨w.heap.size,(ii+m')*y,none⟩ WD).run A.P w2.drew=.ok () w3:=by simpa using hr3
   have mA:∀ty dc sc,(Builtin.copy_ #[ts,ts] ty #[.slice (some ⟨w.heap.size,(ii+m')*y,none⟩) (n+m'-(ii+m')) dc,.slice (some ⟨lc.g,lc.o+a.off+ii*y,none⟩) (n-ii) sc]).run A.P w2.drew=.ok (goInt (Nat.min (n-ii) (n+m'-(ii+m')))) w3:=by
    intro ty dc sc
    have Gq:Nat.min (n-ii) (n+m'-(ii+m'))=n-ii:=ks (by omega)
    rw[HM (us:=WD.toArray) hu (run_sizeOf hz _) (by simp[Builtin.lenOf];rfl) (by
     rw[Gq]
     have:=jX (A:=A) (w:=w2.drew) (g:=lc.g) (o:=lc.o+a.off+ii*y) (us:=WD) (λt u C5=>by
      rw[ajh,dU]at C5
      have:=aqL _ u C5
      rw[dR];exact this)
     rw[ax5]at this
     simpa [Builtin.firstCells]using this)]
    simp[aEK]
   have JO:=W.grow lc.g (lc.o+a.off) w.heap.size n c ii m' G _ cv w w1 w2 w3 _ _ bB (by omega) rC C3 ER (by omega) (λty=>by
    have:=aja ty
    rw[show((n:Int)+(m':Int)-(ii:Int))=(kk:Int)by omega,yk]
    exact this) uE mA
   refine Calls.mono JO ?_
   rintro e' w'⟨rfl,ew⟩
   subst ew
   have aDY:old.take (ii*y)++new++old.drop (ii*y)++((jN kk zc).drop new.length).drop (old.drop (ii*y)).length=old.take (ii*y)++(new++old.drop (ii*y)):=by
    have:((jN kk zc).drop new.length).drop (old.drop (ii*y)).length=[]:=dz (by simp only[gA,hrl,mh,GS];omega)
    rw[this];simp
   rw[aDY]at H3 E3
   have Hk:=Vw (b:=a.block) H3
   have hah:a.block<h.length:=(au.1 hk).1
   have S6:List.set (α:=mm) (h++[⟨old.take (ii*y)++(new++old.drop (ii*y)),true⟩]) a.block ⟨[],false⟩=h.set a.block ⟨[],false⟩++[⟨old.take (ii*y)++(new++old.drop (ii*y)),true⟩]:=afp _ _ hah
   rw[S6]at Hk
   have Ek:Ext w.heap.size (φ.put h.length ⟨w.heap.size,0,row.size,false⟩) (h++[⟨old.take (ii*y)++(new++old.drop (ii*y)),true⟩]) w' (φ.put h.length ⟨w.heap.size,0,row.size,false⟩) (h.set a.block ⟨[],false⟩++[⟨old.take (ii*y)++(new++old.drop (ii*y)),true⟩]) w':=by
    rw[<-S6];exact Vv
   have Ry:w.heap.size<=w1.heap.size:=E1.size
   have hs2:w1.heap.size<=w2.heap.size:=E2.size
   have E12:=Ext.trans (aa _) E1 (E2.Nk Ry)
   have E3':Ext w.heap.size (φ.put h.length ⟨w.heap.size,0,row.size,false⟩) (h++[⟨old.take (ii*y)++new++(jN kk zc).drop new.length,true⟩]) w2 (φ.put h.length ⟨w.heap.size,0,row.size,false⟩) (h++[⟨old.take (ii*y)++(new++old.drop (ii*y)),true⟩]) w':=by
    have:=E3.Nk (show w.heap.size<=w2.drew.heap.size by exact a7 Ry hs2)
    exact⟨this.sub,this.DF,this.same,this.len,this.mode,this.size,this.os,this.tape,this.output,this.frame,this.fresh⟩
   have aBz:=Ext.trans (aa _) E12 E3'
   refine⟨.slice (some ⟨w.heap.size,0,none⟩) (n+m') G,φ.put h.length ⟨w.heap.size,0,row.size,false⟩,rfl,⟨rfl,some ⟨w.heap.size,0,none⟩,G,rfl,by omega,λe0=>absurd e0 qU,λ_=>⟨⟨w.heap.size,0,row.size,false⟩,dS.jG _ _ _,.inr ⟨rfl,?_,λe=>(by cases e)⟩⟩,⟨λe=>(by cases e),λe=>absurd e.1 qU⟩⟩,Hk,Ext.trans (aa _) aBz Ek⟩
   simp only[ax1];omega
end
end Am

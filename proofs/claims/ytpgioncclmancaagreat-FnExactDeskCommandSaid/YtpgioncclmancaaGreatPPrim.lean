/- The two primitives, slices.Insert and slices.Delete: what the library's own code does there, said by walks of a seat, is what 'Am' says. -/
import Derived.Test.YtpgioncclmancaaGreatPLink
import Derived.Lib.AppendZerosOnto
import Derived.Lib.Overlaps
set_option linter.unusedVariables false
set_option linter.unusedSimpArgs false
set_option maxHeartbeats 4000000
namespace Am
open Go
def Xt(P:Program)(gf:Nat)(ts:TypeId)(z:Nat):Prop:=∀(g o n c i j:Nat) (w w1 w2:World),i<j->j<=n->n<=c->
 (∀ty A,(n-j≠0->A=some ⟨g,o+j*z,none⟩)->(Builtin.append_ #[ts,ts] ty #[.slice (some ⟨g,o,none⟩) i c,.slice A (n-j) (c-j)]).run P w.drew=.ok (.slice (some ⟨g,o,none⟩) (i+(n-j)) c) w1)->
 (∀ty,(Builtin.clear_ #[ts] ty #[.slice (some ⟨g,o+(i+(n-j))*z,none⟩) (n-(i+(n-j))) (c-(i+(n-j)))]).run P w1=.ok (.tuple #[]) w2)->
 Calls P gf #[.slice (some ⟨g,o,none⟩) n c,.int .i64 i,.int .i64 j] w λe w'=>e=.returned (.slice (some ⟨g,o,none⟩) (i+(n-j)) c)∧w'=w2
def awr(P:Program)(gf:Nat):Prop:=∀(us:Array Value) (w:World),us.size=3->(callFunc gf us).run P w=.ok (.enter gf us) w
section
variable {A : iG} {φ : dS} {h : a9} {w : World} {base : Nat}
theorem HM{P:Program}{t t1 e ty:TypeId}{z m dl dc:Nat}{a:Addr}{b:Value}{us:Array Value}(hu:P.underlying t=some (.slice e))(d:(Go.sizeOf e).run P w=.ok z w)
  (hm:(Builtin.lenOf b).run P w=.ok m w) (c:(Builtin.firstCells z (Nat.min m dl) b).run P w=.ok us w):
  (Builtin.copy_ #[t,t1] ty #[.slice (some a) dl dc,b]).run P w=((storeCells a us.toList).run P w).andThen λ_ w'=>.ok (goInt (Nat.min m dl)) w':=by
 simp[Builtin.copy_,run_underlying hu,d,hm,c]
theorem aeM{P:Program}{t e ty:TypeId}{n c:Nat}{a:Addr}{b:Value}{i:TypeInfo}(hu:P.underlying t=some (.slice e))(hi:P.info? e=some i)(h0:i.zero=some b)(hn:n≠0):
  (Builtin.clear_ #[t] ty #[.slice (some a) n c]).run P w=((storeCells a (Builtin.zeroCells b.cells n).toList).run P w).andThen λ_ w'=>.ok (.tuple #[]) w':=by
 cases n with
 |zero=>exact absurd rfl hn
 |succ n=>simp[Builtin.clear_,run_underlying hu,zeroValue,typeInfo,hi,h0]
theorem ad4{b:Nat}{cs rest:List Value}(H:bG A φ h w base)(n:h[b]?=some ⟨cs++rest,true⟩):bG A φ (h.set b ⟨cs,true⟩) w base where
 pos:=by simpa using H.pos
 low:=H.low
 cells:=λc l k hl a i v j=>by
  rcases jR a with⟨rfl,rfl,_⟩|⟨_,e⟩
  ·exact H.cells _ l _ hl n i v (by
    simp only at j;simp only;rw[ai (au.1 j).1];exact j)
  ·exact H.cells c l k hl e i v j
 row:=λc l k hl a g=>by
  rcases jR a with⟨rfl,rfl,_⟩|⟨_,e⟩
  ·obtain⟨h1,u,x⟩:=H.row _ l _ hl n rfl;refine⟨h1,?_,x⟩;simp at u ⊢;omega
  ·exact H.row c l k hl e g
 one:=λc p l l' k k' hl E a e g D he=>by
  have f:∀(d:Nat) (y:mm),(h.set b ⟨cs,true⟩)[d]?=some y->y.rw=true->∃q,h[d]?=some q∧q.rw=true:=by
   intro d y z hy;rcases jR z with⟨rfl,rfl,_⟩|⟨_,s⟩
   ·exact⟨_,n,rfl⟩
   ·exact⟨y,s,hy⟩
  obtain⟨q,B,o⟩:=f c k a g;obtain⟨C,r,m⟩:=f p k' e D;exact H.one c p l l' q C hl E B r o m he
 old:=λc l k hl a g t=>by
  rcases jR a with⟨rfl,rfl,_⟩|⟨_,e⟩
  ·simp at g
  ·exact H.old c l k hl e g t
theorem Ext.last{lo:Nat}{a:dS}{c:a9}{x y:List Value}{w':World}(hl:c.length=h.length)(X:Ext lo φ h w a (c++[⟨x,true⟩]) w'):Ext lo φ h w a (c++[⟨y,true⟩]) w' where
 sub:=X.sub
 DF:=λb h1 d=>X.DF b h1 (by simpa using d)
 same:=λb e=>X.same b (by simpa using e)
 len:=by simp;omega
 mode:=λb k k' f g i=>by
  have j:=(au.1 f).1;rw[ai (by omega)]at g;exact X.mode b k k' f (by rw[ai (by omega)];exact g) i
 size:=X.size
 os:=X.os
 tape:=X.tape
 output:=X.output
 frame:=X.frame
 fresh:=λb l h1 d e=>X.fresh b l h1 (by simpa using d) e
theorem IX{zc:List Value}{a:Value}(b:cM (iS A φ) zc a.cells.toList)(n:Nat)(d:0<zc.length):cM (iS A φ) (jN n zc) (Builtin.zeroCells a.cells n).toList:=by
 have h1:=b.length;have c:a.cells.size=zc.length:=by simpa using h1.symm
 have:=M3 (n:=n) (m:=n*a.cells.size) b d (by rw[c];exact aa _);rw[aY (by simp[c])]at this;exact this
theorem aeb{g p q:Nat}{us vs:List Value}{a:Array Value}{c b e:Nat}(j:w.heap[g]?=some (.cells a c (b,e)))(n:q=p+us.length)(u:p+us.length+vs.length<=a.size):
  ∀cur ty lo hi,w.heap[g]?=some (.cells cur ty (lo,hi))->∃d:Array Value,((w.setRow g (a.toList.take p++us++a.toList.drop (p+us.length)).toArray).setRow g ((a.toList.take p++us++a.toList.drop (p+us.length)).take q++vs++(a.toList.take p++us++a.toList.drop (p+us.length)).drop (q+vs.length)).toArray).heap[g]?=some (.cells d ty (lo,hi))∧d.size=cur.size∧
   ∀i,i<cur.size->d[i]?=if p<=i∧i<p+(us++vs).length then(us++vs)[i-p]? else cur[i]?:=by
 intro cur ty lo hi r;obtain⟨c1,h1,s,k⟩:=yU j (by omega:p+us.length<=a.size) cur ty lo hi r;have o:=setRow_heap w g a (a.toList.take p++us++a.toList.drop (p+us.length)).toArray c (b,e) j;obtain⟨c2,l,t,m⟩:=yU (p:=q) (us:=vs) o (by simp;omega) c1 ty lo hi h1;refine⟨c2,by simpa using l,by omega,λi iY=>?_⟩;rw[m i (by omega),k i iY];subst n;by_cases f:p+us.length<=i∧i<p+us.length+vs.length
 ·rw[if_pos f,if_pos (by simp;omega),aX (by omega)]
  congr 1;omega
 ·rw[if_neg f];by_cases h:p<=i∧i<p+us.length
  ·rw[if_pos h,if_pos (by simp;omega),ai (by omega)]
  ·rw[if_neg h,if_neg (by simp;omega)]
theorem N6{P:Program}{z c:Nat}{X:Option Addr}:(Builtin.firstCells z 0 (.slice X 0 c)).run P w=.ok #[] w:=by cases X<;>simp[Builtin.firstCells,loadCells,loadCellsFrom]
theorem SO{g ts e:Nat}{z:Nat}{zc:List Value}(hu:A.P.underlying ts=some (.slice e))(hz:fj A e=some z)(hc:nG A e=some zc)(EE:zc.length=z)(JB:awr A.P g)(ax6:Xt A.P g ts z):
  ∀base,GA A base g ⟨3,.goto (2*z+1),[]⟩:=by
 intro base
 refine⟨wM z,?_,λ_ _ _ _ x=>G8 x,?_⟩
 ·have h1:(2*z+1)%2=1:=by omega
  have h2:(2*z+1)/2=z:=by omega
  simp[vM,h1,h2]
 intro args h v h' φ w us hlen hx H hb hφ qm
 have hlen:args.length=3:=hlen
 have OF:=qm.length
 refine⟨JB _ _ (by simp;omega),?_⟩
 unfold wM at hx
 split at hx
 rotate_left
 ·cases hx
 rename_i a n y i j h0
 match us,qm with
 |[u1,u2,u3],⟨r1,r2,r3,_⟩=>
 have e2:=VR.mV r2
 have e3:=VR.mV r3
 subst e2;subst e3
 split at hx
 ·cases hx
 rename_i mw
 simp only[not_or,Int.not_lt,Int.not_le,Nat.not_lt]at mw
 obtain⟨LP,kf,Ro,JE,hjn⟩:=mw
 cases hk:h[a.block]? with
 |none=>simp[hk]at hx
 |some k=>
 simp only[hk]at hx
 split at hx
 rotate_left
 ·cases hx
 rename_i hky
 obtain⟨EI,rfl⟩:=hky
 cases oA:aZ h a.block a.off (n*y)with
 |none=>simp[oA]at hx
 |some old=>
 simp only[oA,aI,cF]at hx
 obtain⟨rfl,rfl⟩:=hx
 obtain⟨ii,rfl⟩:=bc Ro
 obtain⟨jj,rfl⟩:=bc (show 0<=j by omega)
 simp only[aM]at*
 have aEw:ii<jj:=by omega
 have aq4:jj<=n:=by omega
 obtain⟨DM,X,c,rfl,rC,_,h1,-⟩:=VR.oU r1
 obtain⟨lc,hl,iC⟩:=h1 kf
 rcases iC with BU|⟨rfl,xC,Gr⟩
 ·omega
 clear h1
 obtain⟨i0,u0,MH,hzero,K5⟩:=qG (φ:=φ) hc
 obtain⟨i1,Bh,MI⟩:=uJ hz
 rw[MH]at Bh;injection Bh with Bh;subst Bh
 obtain⟨GS,uo,Qh,za,db⟩:=sJ H hl oA
 obtain⟨K2,mN,cur,Dn,lo,iY,hg,vC,EG⟩:=H.row _ _ _ hl hk EI
 have axW:ii*y<=jj*y:=bM _ (by omega)
 have aLj:jj*y<=n*y:=bM _ aq4
 have axV:n*y<=c*y:=bM _ rC
 have ax4:(n-jj)*y=n*y-jj*y:=Nat.sub_mul _ _ _
 have aLm:(jj-ii)*y=jj*y-ii*y:=Nat.sub_mul _ _ _
 have ai9:(ii+(n-jj))*y=ii*y+(n-jj)*y:=cX _ _ _
 -- what is moved
 obtain⟨ud,Vk⟩:∃ud,ud=uo.drop (jj*y):=⟨_,rfl⟩
 have Qg:ud.length=(n-jj)*y:=by rw[Vk];simp;omega
 have Yc:cM (iS A φ) (old.drop (jj*y)) ud:=by rw[Vk];exact za.drop _
 obtain⟨uz,huz⟩:∃uz,uz=(Builtin.zeroCells u0.cells (jj-ii)).toList:=⟨_,rfl⟩
 have RD:cM (iS A φ) (jN (jj-ii) zc) uz:=by rw[huz];exact IX K5 _ (by omega)
 have aL7:uz.length=(jj-ii)*y:=by rw[<-RD.length,xt,EE]
 obtain⟨p,hp⟩:∃p,p=lc.o+a.off+ii*y:=⟨_,rfl⟩
 -- the append
 have hf:∀B,(n-jj≠0->B=some ⟨lc.g,lc.o+a.off+jj*y,none⟩)->(Builtin.firstCells y (n-jj) (.slice B (n-jj) (c-jj))).run A.P w.drew=.ok ud.toArray w.drew:=by
  intro B hB
  by_cases h0:n-jj=0
  ·have:ud=[]:=dI (by rw[Qg,h0];simp)
   rw[this,h0]
   exact N6
  ·rw[hB h0]
   have:=jX (A:=A) (w:=w.drew) (g:=lc.g) (o:=lc.o+a.off+jj*y) (us:=ud) (λq u hq=>by
    rw[Vk,dU]at hq
    have:=db _ u hq
    rw[dR];exact this)
   rw[Qg]at this
   simpa [Builtin.firstCells]using this
 have JL:=kG (P:=A.P) lc.g (lc.o+a.off+ii*y) Dn lo iY ud 0 cur w.drew hg (by omega) (by rw[vC];exact EG.1) (tq Yc)
 simp only[bA]at JL
 rw[<-hp]at JL
 obtain⟨rF,HY⟩:∃rF,rF=cur.toList.take p++ud++cur.toList.drop (p+ud.length):=⟨_,rfl⟩
 have Qf:rF.length=cur.size:=by rw[HY];simp;omega
 rw[<-HY]at JL
 have LD:∀ty B,(n-jj≠0->B=some ⟨lc.g,lc.o+a.off+jj*y,none⟩)->(Builtin.append_ #[ts,ts] ty #[.slice (some ⟨lc.g,lc.o+a.off,none⟩) ii c,.slice B (n-jj) (c-jj)]).run A.P w.drew=.ok (.slice (some ⟨lc.g,lc.o+a.off,none⟩) (ii+(n-jj)) c) (w.drew.setRow lc.g rF.toArray):=by
  intro ty B hB
  rw[AV hu MH MI (.inl ⟨e,hu⟩) (m:=n-jj) (us:=ud.toArray) (by simp[Builtin.lenOf]) (hf B hB) (by omega)]
  simp[Addr.add_lit,<-hp,JL]
 -- the clearing
 have U4:=setRow_heap w.drew lc.g cur rF.toArray Dn (lo,iY) hg
 obtain⟨q,hq⟩:∃q,q=p+ud.length:=⟨_,rfl⟩
 have eq':lc.o+a.off+(ii+(n-jj))*y=q:=by rw[hq,hp,Qg];omega
 have Vj:=kG (P:=A.P) lc.g q Dn lo iY uz 0 rF.toArray (w.drew.setRow lc.g rF.toArray) U4 (by simp[Qf];omega) (λj hj=>EG.1 j (by simpa [Qf,vC]using hj)) (tq RD)
 simp only[bA]at Vj
 obtain⟨w2,vZ⟩:∃w2,w2=(w.drew.setRow lc.g rF.toArray).setRow lc.g (rF.take q++uz++rF.drop (q+uz.length)).toArray:=⟨_,rfl⟩
 have iC:∀ty,(Builtin.clear_ #[ts] ty #[.slice (some ⟨lc.g,lc.o+a.off+(ii+(n-jj))*y,none⟩) (n-(ii+(n-jj))) (c-(ii+(n-jj)))]).run A.P (w.drew.setRow lc.g rF.toArray)=.ok (.tuple #[]) w2:=by
  intro ty
  rw[aeM hu MH hzero (by omega),show n-(ii+(n-jj))=jj-ii by omega,eq',<-huz,Vj]
  simp[vZ]
 have JO:=ax6 lc.g (lc.o+a.off) n c ii jj w _ w2 aEw aq4 rC LD iC
 refine Calls.mono JO ?_
 rintro e' w'⟨rfl,ew⟩
 subst ew
 have Ab:φ h.length=none:=hφ _ (aa _) (by simp)
 have ia:cM (iS A φ) (old.drop (jj*y)++jN (jj-ii) zc) (ud++uz):=Yc.append RD
 have hS:=I5 (w':=w') (o:=a.off) (old:=old.take (ii*y)) (new:=old.drop (jj*y)++jN (jj-ii) zc) (us:=ud++uz) H hl hk EI Ab (λx vv hv=>by
   unfold aZ at oA
   simp only[hk]at oA
   split at oA
   ·injection oA with oA;subst oA
    have hxl:x<ii*y:=by have:=(au.1 hv).1;simp at this;omega
    rw[bO hxl,bO (by omega),dU]at hv
    exact hv
   ·simp at oA) ia (by simp[xt,EE];omega) (by rw[vZ];simp) (λg' vD=>by rw[vZ,setRow_other _ _ _ _ vD,setRow_other _ _ _ _ vD];rfl)
  (λZP t x y' mS=>by
   have Ov:(old.take (ii*y)).length=ii*y:=by simp;omega
   rw[Ov,vZ,<-hp]
   have:=aeb (w:=w.drew) (g:=lc.g) (p:=p) (q:=q) (us:=ud) (vs:=uz) hg hq (by omega) ZP t x y' mS
   rw[HY]
   exact this) (by rw[vZ];rfl) (by rw[vZ];rfl) (by rw[vZ];rfl)
 have Ox:(h.set a.block ⟨[],false⟩).length=h.length:=by simp
 have hS1:=ad4 (b:=h.length) (cs:=old.take (ii*y)++old.drop (jj*y)) (rest:=jN (jj-ii) zc) hS.1 (by rw[aX (by simp)];simp)
 have S6:List.set (α:=mm) (h.set a.block ⟨[],false⟩++[⟨old.take (ii*y)++(old.drop (jj*y)++jN (jj-ii) zc),true⟩]) h.length ⟨old.take (ii*y)++old.drop (jj*y),true⟩=h.set a.block ⟨[],false⟩++[⟨old.take (ii*y)++old.drop (jj*y),true⟩]:=by
  rw[m9 _ _ (by simp)]
  simp
 rw[S6]at hS1
 have qU:h.length≠0:=by have:=H.pos;omega
 refine⟨.slice (some ⟨lc.g,lc.o+a.off,none⟩) (ii+(n-jj)) c,φ.put h.length ⟨lc.g,lc.o+a.off,lc.size,lc.str⟩,rfl,⟨rfl,some ⟨lc.g,lc.o+a.off,none⟩,c,?_,?_,λe0=>absurd e0 qU,λ_=>⟨⟨lc.g,lc.o+a.off,lc.size,lc.str⟩,dS.jG _ _ _,.inr ⟨by simp,by simpa using xC,Gr⟩⟩,⟨λe=>(by cases e),λe=>absurd e.1 qU⟩⟩,hS1,Ext.last Ox hS.2⟩
 ·congr 1;omega
 ·omega
end
end Am

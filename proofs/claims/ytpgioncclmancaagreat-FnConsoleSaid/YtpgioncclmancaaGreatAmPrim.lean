/- The two primitives, slices.Insert and slices.Delete: what the library's own code does there, said by walks of a seat, is what 'Am' says. -/
import Derived.Test.YtpgioncclmancaaGreatAmLink
import Derived.Lib.AppendZerosOnto
import Derived.Lib.Overlaps
set_option linter.unusedVariables false
set_option linter.unusedSimpArgs false
set_option maxHeartbeats 4000000
namespace Am
open Go
/-- The walk of slices.Delete. -/
def DelWalk(P:Program)(gf:Nat)(ts:TypeId)(z:Nat):Prop:=∀(g o n c i j:Nat) (w w1 w2:World),i<j->j<=n->n<=c->
 (∀ty A,(n-j≠0->A=some ⟨g,o+j*z,none⟩)->(Builtin.append_ #[ts,ts] ty #[.slice (some ⟨g,o,none⟩) i c,.slice A (n-j) (c-j)]).run P w.drew=.ok (.slice (some ⟨g,o,none⟩) (i+(n-j)) c) w1)->
 (∀ty,(Builtin.clear_ #[ts] ty #[.slice (some ⟨g,o+(i+(n-j))*z,none⟩) (n-(i+(n-j))) (c-(i+(n-j)))]).run P w1=.ok (.tuple #[]) w2)->
 Calls P gf #[.slice (some ⟨g,o,none⟩) n c,.int .i64 i,.int .i64 j] w λe w'=>e=.returned (.slice (some ⟨g,o,none⟩) (i+(n-j)) c)∧w'=w2
/-- A call enters. -/
def Enters(P:Program)(gf:Nat):Prop:=∀(us:Array Value) (w:World),us.size=3->(callFunc gf us).run P w=.ok (.enter gf us) w
section
variable {A : Seat} {φ : Phi} {h : Heap} {w : World} {base : Nat}
theorem copy_run{P:Program}{t t1 e ty:TypeId}{z m dl dc:Nat}{a:Addr}{ux:Value}{us:Array Value}(hu:P.underlying t=some (.slice e))(hz:(Go.sizeOf e).run P w=.ok z w)
  (hm:(Builtin.lenOf ux).run P w=.ok m w) (hf:(Builtin.firstCells z (Nat.min m dl) ux).run P w=.ok us w):
  (Builtin.copy_ #[t,t1] ty #[.slice (some a) dl dc,ux]).run P w=((storeCells a us.toList).run P w).andThen λ_ w'=>.ok (goInt (Nat.min m dl)) w':=by
 simp[Builtin.copy_,run_underlying hu,hz,hm,hf]
theorem clear_run{P:Program}{t e ty:TypeId}{n c:Nat}{a:Addr}{u0:Value}{i:TypeInfo}(hu:P.underlying t=some (.slice e))(hi:P.info? e=some i)(h0:i.zero=some u0)(hn:n≠0):
  (Builtin.clear_ #[t] ty #[.slice (some a) n c]).run P w=((storeCells a (Builtin.zeroCells u0.cells n).toList).run P w).andThen λ_ w'=>.ok (.tuple #[]) w':=by
 cases n with
 |zero=>exact absurd rfl hn
 |succ n=>simp[Builtin.clear_,run_underlying hu,zeroValue,typeInfo,hi,h0]
/-- A block's cells may be forgotten from some place on. -/
theorem shrink_sim{b:Nat}{cs rest:List Value}(H:HeapR A φ h w base)(hb:h[b]?=some ⟨cs++rest,true⟩):HeapR A φ (h.set b ⟨cs,true⟩) w base where
 pos:=by simpa using H.pos
 low:=H.low
 cells:=λc l k hl hk i v hv=>by
  rcases get_set_cases hk with⟨rfl,rfl,_⟩|⟨_,hk'⟩
  ·exact H.cells _ l _ hl hb i v (by
    simp only at hv
    simp only
    rw[List.getElem?_append_left (List.getElem?_eq_some_iff.1 hv).1];exact hv)
  ·exact H.cells c l k hl hk' i v hv
 row:=λc l k hl hk hr=>by
  rcases get_set_cases hk with⟨rfl,rfl,_⟩|⟨_,hk'⟩
  ·obtain⟨h1,h2,h3⟩:=H.row _ l _ hl hb rfl
   refine⟨h1,?_,h3⟩
   simp at h2 ⊢;omega
  ·exact H.row c l k hl hk' hr
 one:=λc c' l l' k k' hl hl' hk hk' hr hr' he=>by
  have f:∀(d:Nat) (y:Blk),(h.set b ⟨cs,true⟩)[d]?=some y->y.rw=true->∃q,h[d]?=some q∧q.rw=true:=by
   intro d y hd hy
   rcases get_set_cases hd with⟨rfl,rfl,_⟩|⟨_,hd'⟩
   ·exact⟨_,hb,rfl⟩
   ·exact⟨y,hd',hy⟩
  obtain⟨q,hq,hqr⟩:=f c k hk hr
  obtain⟨q',hq',hqr'⟩:=f c' k' hk' hr'
  exact H.one c c' l l' q q' hl hl' hq hq' hqr hqr' he
 old:=λc l k hl hk hr hne=>by
  rcases get_set_cases hk with⟨rfl,rfl,_⟩|⟨_,hk'⟩
  ·simp at hr
  ·exact H.old c l k hl hk' hr hne
theorem Ext.last{lo:Nat}{φ':Phi}{h2:Heap}{x y:List Value}{w':World}(hl:h2.length=h.length)(X:Ext lo φ h w φ' (h2++[⟨x,true⟩]) w'):Ext lo φ h w φ' (h2++[⟨y,true⟩]) w' where
 sub:=X.sub
 newd:=λb h1 h3=>X.newd b h1 (by simpa using h3)
 same:=λb hb=>X.same b (by simpa using hb)
 len:=by simp;omega
 mode:=λb k k' hk hk' hr=>by
  have hlt:=(List.getElem?_eq_some_iff.1 hk).1
  rw[List.getElem?_append_left (by omega)]at hk'
  exact X.mode b k k' hk (by rw[List.getElem?_append_left (by omega)];exact hk') hr
 size:=X.size
 os:=X.os
 tape:=X.tape
 output:=X.output
 frame:=X.frame
 fresh:=λb l h1 h3 hb=>X.fresh b l h1 (by simpa using h3) hb
theorem zeroCells_rel{zc:List Value}{u0:Value}(hr:All2 (VR0 A φ) zc u0.cells.toList)(n:Nat)(hpos:0<zc.length):All2 (VR0 A φ) (reps n zc) (Builtin.zeroCells u0.cells n).toList:=by
 have h1:=hr.length
 have hs:u0.cells.size=zc.length:=by simpa using h1.symm
 have:=reps_rel (n:=n) (m:=n*u0.cells.size) hr hpos (by rw[hs];exact Nat.le_refl _)
 rw[List.take_of_length_le (by simp[hs])]at this
 exact this
/-- Two rows of stores, the second right behind the first. -/
theorem stored_two{g p q:Nat}{us vs:List Value}{cur0:Array Value}{ty0 lo0 hi0:Nat}(hg:w.heap[g]?=some (.cells cur0 ty0 (lo0,hi0)))(hq:q=p+us.length)(hfit:p+us.length+vs.length<=cur0.size):
  ∀cur ty lo hi,w.heap[g]?=some (.cells cur ty (lo,hi))->∃cur':Array Value,((w.setRow g (cur0.toList.take p++us++cur0.toList.drop (p+us.length)).toArray).setRow g ((cur0.toList.take p++us++cur0.toList.drop (p+us.length)).take q++vs++(cur0.toList.take p++us++cur0.toList.drop (p+us.length)).drop (q+vs.length)).toArray).heap[g]?=some (.cells cur' ty (lo,hi))∧cur'.size=cur.size∧
   ∀i,i<cur.size->cur'[i]?=if p<=i∧i<p+(us++vs).length then(us++vs)[i-p]? else cur[i]?:=by
 intro cur ty lo hi hg'
 obtain⟨c1,h1,h2,h3⟩:=stored_row hg (by omega:p+us.length<=cur0.size) cur ty lo hi hg'
 have hsame:=setRow_heap w g cur0 (cur0.toList.take p++us++cur0.toList.drop (p+us.length)).toArray ty0 (lo0,hi0) hg
 obtain⟨c2,h4,h5,h6⟩:=stored_row (p:=q) (us:=vs) hsame (by simp;omega) c1 ty lo hi h1
 refine⟨c2,by simpa using h4,by omega,λi hi'=>?_⟩
 rw[h6 i (by omega),h3 i hi']
 subst hq
 by_cases hA:p+us.length<=i∧i<p+us.length+vs.length
 ·rw[if_pos hA,if_pos (by simp;omega),List.getElem?_append_right (by omega)]
  congr 1;omega
 ·rw[if_neg hA]
  by_cases hB:p<=i∧i<p+us.length
  ·rw[if_pos hB,if_pos (by simp;omega),List.getElem?_append_left (by omega)]
  ·rw[if_neg hB,if_neg (by simp;omega)]
theorem firstCells_none{P:Program}{z c:Nat}{X:Option Addr}:(Builtin.firstCells z 0 (.slice X 0 c)).run P w=.ok #[] w:=by
 cases X<;>simp[Builtin.firstCells,loadCells,loadCellsFrom]
theorem primDelete_ok{g ts e:Nat}{z:Nat}{zc:List Value}(hu:A.P.underlying ts=some (.slice e))(hz:sizeT A e=some z)(hc:zeroCellsT A e=some zc)(hcz:zc.length=z)(hen:Enters A.P g)(hwalk:DelWalk A.P g ts z):
  ∀base,PrimOk A base g ⟨3,.goto (2*z+1),[]⟩:=by
 intro base
 refine⟨primDelete z,?_,λ_ _ _ _ x=>primDelete_len x,?_⟩
 ·have h1:(2*z+1)%2=1:=by omega
  have h2:(2*z+1)/2=z:=by omega
  simp[primOf,h1,h2]
 intro args h v h' φ w us hlen hx H hb hφ hargs
 have hlen:args.length=3:=hlen
 have hul:=hargs.length
 refine⟨hen _ _ (by simp;omega),?_⟩
 unfold primDelete at hx
 split at hx
 rotate_left
 ·cases hx
 rename_i a n y i j h0
 match us,hargs with
 |[u1,u2,u3],⟨r1,r2,r3,_⟩=>
 have e2:=VR.int_inv r2
 have e3:=VR.int_inv r3
 subst e2;subst e3
 split at hx
 ·cases hx
 rename_i hcond
 simp only[not_or,Int.not_lt,Int.not_le,Nat.not_lt]at hcond
 obtain⟨hz0,hb0,hi0,hij,hjn⟩:=hcond
 cases hk:h[a.block]? with
 |none=>simp[hk]at hx
 |some k=>
 simp only[hk]at hx
 split at hx
 rotate_left
 ·cases hx
 rename_i hky
 obtain⟨hkrw,rfl⟩:=hky
 cases hco:cellsAt h a.block a.off (n*y)with
 |none=>simp[hco]at hx
 |some old=>
 simp only[hco,Option.some.injEq,Prod.mk.injEq]at hx
 obtain⟨rfl,rfl⟩:=hx
 obtain⟨ii,rfl⟩:=Int.eq_ofNat_of_zero_le hi0
 obtain⟨jj,rfl⟩:=Int.eq_ofNat_of_zero_le (show 0<=j by omega)
 simp only[Int.toNat_natCast]at*
 have hij':ii<jj:=by omega
 have hjn':jj<=n:=by omega
 obtain⟨hsp,X,c,rfl,hnc,_,h1,-⟩:=VR.slice_inv r1
 obtain⟨lc,hl,hcl⟩:=h1 hb0
 rcases hcl with hc0|⟨rfl,hfit,hstr⟩
 ·omega
 clear h1
 obtain⟨i0,u0,hinf,hzero,hzrel⟩:=zeroCellsT_run (φ:=φ) hc
 obtain⟨i1,hi1,hisz⟩:=sizeT_info hz
 rw[hinf]at hi1;injection hi1 with hi1;subst hi1
 obtain⟨hol,uo,huol,hor,hcell⟩:=cellsAt_sim H hl hco
 obtain⟨hbase,hin,cur,ty',lo,hi',hg,hcs,hfz⟩:=H.row _ _ _ hl hk hkrw
 have hmulI:ii*y<=jj*y:=Nat.mul_le_mul_right _ (by omega)
 have hmulJ:jj*y<=n*y:=Nat.mul_le_mul_right _ hjn'
 have hmulC:n*y<=c*y:=Nat.mul_le_mul_right _ hnc
 have hsub1:(n-jj)*y=n*y-jj*y:=Nat.sub_mul _ _ _
 have hsub2:(jj-ii)*y=jj*y-ii*y:=Nat.sub_mul _ _ _
 have hadd:(ii+(n-jj))*y=ii*y+(n-jj)*y:=Nat.add_mul _ _ _
 -- what is moved
 obtain⟨ud,hud⟩:∃ud,ud=uo.drop (jj*y):=⟨_,rfl⟩
 have hudl:ud.length=(n-jj)*y:=by rw[hud];simp;omega
 have hdr:All2 (VR0 A φ) (old.drop (jj*y)) ud:=by rw[hud];exact hor.drop _
 obtain⟨uz,huz⟩:∃uz,uz=(Builtin.zeroCells u0.cells (jj-ii)).toList:=⟨_,rfl⟩
 have hzr:All2 (VR0 A φ) (reps (jj-ii) zc) uz:=by rw[huz];exact zeroCells_rel hzrel _ (by omega)
 have huzl:uz.length=(jj-ii)*y:=by rw[<-hzr.length,reps_length,hcz]
 obtain⟨p,hp⟩:∃p,p=lc.o+a.off+ii*y:=⟨_,rfl⟩
 -- the append
 have hf:∀B,(n-jj≠0->B=some ⟨lc.g,lc.o+a.off+jj*y,none⟩)->(Builtin.firstCells y (n-jj) (.slice B (n-jj) (c-jj))).run A.P w.drew=.ok ud.toArray w.drew:=by
  intro B hB
  by_cases h0:n-jj=0
  ·have:ud=[]:=List.eq_nil_of_length_eq_zero (by rw[hudl,h0];simp)
   rw[this,h0]
   exact firstCells_none
  ·rw[hB h0]
   have:=run_loadCells_at (A:=A) (w:=w.drew) (g:=lc.g) (o:=lc.o+a.off+jj*y) (us:=ud) (λq u hq=>by
    rw[hud,List.getElem?_drop]at hq
    have:=hcell _ u hq
    rw[Nat.add_assoc];exact this)
   rw[hudl]at this
   simpa [Builtin.firstCells]using this
 have hst1:=run_storeCells_marks (P:=A.P) lc.g (lc.o+a.off+ii*y) ty' lo hi' ud 0 cur w.drew hg (by omega) (by rw[hcs];exact hfz.1) (list_all_one hdr)
 simp only[Nat.add_zero]at hst1
 rw[<-hp]at hst1
 obtain⟨row1,hrow1⟩:∃row1,row1=cur.toList.take p++ud++cur.toList.drop (p+ud.length):=⟨_,rfl⟩
 have hr1l:row1.length=cur.size:=by rw[hrow1];simp;omega
 rw[<-hrow1]at hst1
 have hap:∀ty B,(n-jj≠0->B=some ⟨lc.g,lc.o+a.off+jj*y,none⟩)->(Builtin.append_ #[ts,ts] ty #[.slice (some ⟨lc.g,lc.o+a.off,none⟩) ii c,.slice B (n-jj) (c-jj)]).run A.P w.drew=.ok (.slice (some ⟨lc.g,lc.o+a.off,none⟩) (ii+(n-jj)) c) (w.drew.setRow lc.g row1.toArray):=by
  intro ty B hB
  rw[append_room_run hu hinf hisz (.inl ⟨e,hu⟩) (m:=n-jj) (us:=ud.toArray) (by simp[Builtin.lenOf]) (hf B hB) (by omega)]
  simp[Addr.add_lit,<-hp,hst1]
 -- the clearing
 have hg1:=setRow_heap w.drew lc.g cur row1.toArray ty' (lo,hi') hg
 obtain⟨q,hq⟩:∃q,q=p+ud.length:=⟨_,rfl⟩
 have eq':lc.o+a.off+(ii+(n-jj))*y=q:=by rw[hq,hp,hudl];omega
 have hst2:=run_storeCells_marks (P:=A.P) lc.g q ty' lo hi' uz 0 row1.toArray (w.drew.setRow lc.g row1.toArray) hg1 (by simp[hr1l];omega) (λj hj=>hfz.1 j (by simpa [hr1l,hcs]using hj)) (list_all_one hzr)
 simp only[Nat.add_zero]at hst2
 obtain⟨w2,hw2⟩:∃w2,w2=(w.drew.setRow lc.g row1.toArray).setRow lc.g (row1.take q++uz++row1.drop (q+uz.length)).toArray:=⟨_,rfl⟩
 have hcl:∀ty,(Builtin.clear_ #[ts] ty #[.slice (some ⟨lc.g,lc.o+a.off+(ii+(n-jj))*y,none⟩) (n-(ii+(n-jj))) (c-(ii+(n-jj)))]).run A.P (w.drew.setRow lc.g row1.toArray)=.ok (.tuple #[]) w2:=by
  intro ty
  rw[clear_run hu hinf hzero (by omega),show n-(ii+(n-jj))=jj-ii by omega,eq',<-huz,hst2]
  simp[hw2]
 have hwk:=hwalk lc.g (lc.o+a.off) n c ii jj w _ w2 hij' hjn' hnc hap hcl
 refine Calls.mono hwk ?_
 rintro e' w'⟨rfl,ew⟩
 subst ew
 have hnone:φ h.length=none:=hφ _ (Nat.le_refl _) (by simp)
 have hall:All2 (VR0 A φ) (old.drop (jj*y)++reps (jj-ii) zc) (ud++uz):=hdr.append hzr
 have hS:=adopt_sim (w':=w') (o:=a.off) (old:=old.take (ii*y)) (new:=old.drop (jj*y)++reps (jj-ii) zc) (us:=ud++uz) H hl hk hkrw hnone (λx vv hv=>by
   unfold cellsAt at hco
   simp only[hk]at hco
   split at hco
   ·injection hco with hco;subst hco
    have hxl:x<ii*y:=by have:=(List.getElem?_eq_some_iff.1 hv).1;simp at this;omega
    rw[List.getElem?_take_of_lt hxl,List.getElem?_take_of_lt (by omega),List.getElem?_drop]at hv
    exact hv
   ·simp at hco) hall (by simp[reps_length,hcz];omega) (by rw[hw2];simp) (λg' hg'=>by rw[hw2,setRow_other _ _ _ _ hg',setRow_other _ _ _ _ hg'];rfl)
  (λcur2 t x y' hc'=>by
   have hl1:(old.take (ii*y)).length=ii*y:=by simp;omega
   rw[hl1,hw2,<-hp]
   have:=stored_two (w:=w.drew) (g:=lc.g) (p:=p) (q:=q) (us:=ud) (vs:=uz) hg hq (by omega) cur2 t x y' hc'
   rw[hrow1]
   exact this) (by rw[hw2];rfl) (by rw[hw2];rfl) (by rw[hw2];rfl)
 have hlen2:(h.set a.block ⟨[],false⟩).length=h.length:=by simp
 have hS1:=shrink_sim (b:=h.length) (cs:=old.take (ii*y)++old.drop (jj*y)) (rest:=reps (jj-ii) zc) hS.1 (by rw[List.getElem?_append_right (by simp)];simp)
 have eheap:List.set (α:=Blk) (h.set a.block ⟨[],false⟩++[⟨old.take (ii*y)++(old.drop (jj*y)++reps (jj-ii) zc),true⟩]) h.length ⟨old.take (ii*y)++old.drop (jj*y),true⟩=h.set a.block ⟨[],false⟩++[⟨old.take (ii*y)++old.drop (jj*y),true⟩]:=by
  rw[List.set_append_right _ _ (by simp)]
  simp
 rw[eheap]at hS1
 have hpos0:h.length≠0:=by have:=H.pos;omega
 refine⟨.slice (some ⟨lc.g,lc.o+a.off,none⟩) (ii+(n-jj)) c,φ.put h.length ⟨lc.g,lc.o+a.off,lc.size,lc.str⟩,rfl,⟨rfl,some ⟨lc.g,lc.o+a.off,none⟩,c,?_,?_,λe0=>absurd e0 hpos0,λ_=>⟨⟨lc.g,lc.o+a.off,lc.size,lc.str⟩,Phi.put_same _ _ _,.inr ⟨by simp,by simpa using hfit,hstr⟩⟩,⟨λe=>(by cases e),λe=>absurd e.1 hpos0⟩⟩,hS1,Ext.last hlen2 hS.2⟩
 ·congr 1;omega
 ·omega
end
end Am

/- The plain operations, one by one: where 'Am' comes to a value, so does the model. -/
import Derived.Test.YtpgioncclmancaaGreatAmMem
set_option linter.unusedVariables false
set_option linter.unusedSimpArgs false
namespace Am
open Go
section
variable {A : Seat} {φ : Phi} {h : Heap} {w : World} {base : Nat}
/-- The model's operation comes to a value that stands to v, in memory that stands to h'. -/
def SimV(A:Seat)(φ:Phi)(h:Heap)(w:World)(base:Nat)(v:Value)(h':Heap)(s:Sem Value):Prop:=
 ∃u w' φ',s.run A.P w=.ok u w'∧VR A φ' v u∧HeapR A φ' h' w' base∧Ext w.heap.size φ h w φ' h' w'
theorem SimV.pure{v u:Value}{s:Sem Value}(H:HeapR A φ h w base)(hr:s.run A.P w=.ok u w)(hv:VR A φ v u):SimV A φ h w base v h s:=
 ⟨u,w,φ,hr,hv,H,Ext.refl _ _ _ _⟩
/-! ### constants, sizes -/
theorem cvScalar_rel{v x:Value}(hc:cvScalar v=some x):VR0 A φ x v:=by
 unfold cvScalar at hc
 split at hc<;>first|(injection hc with hc;subst hc;exact rfl)|skip
 ·injection hc with hc;subst hc
  exact⟨rfl,none,0,rfl,Nat.le_refl _,λ_=>rfl,λh0=>absurd rfl h0,⟨λ_=>⟨rfl,rfl⟩,λ_=>rfl⟩⟩
 ·simp at hc
theorem cvAll_rel:∀{l:List Value} {xs:List Value},cvAll l=some xs->All2 (VR0 A φ) xs l
 |[],xs,hc=>by simp[cvAll]at hc;subst hc;exact trivial
 |v::r,xs,hc=>by
  unfold cvAll at hc
  split at hc
  ·rename_i x ys h1 h2
   injection hc with hc;subst hc
   exact⟨cvScalar_rel h1,cvAll_rel h2⟩
  ·simp at hc
theorem cv_rel{v x:Value}(hc:cv v=some x):VR A φ x v:=by
 unfold cv at hc
 split at hc
 ·rename_i cs
  cases hl:cvAll cs.toList with
  |none=>simp[hl]at hc
  |some l=>
   simp[hl]at hc;subst hc
   exact⟨cs,rfl,by simpa using cvAll_rel hl⟩
 ·exact VR.of0 (cvScalar_rel hc)
theorem cvScalar_one{v x:Value}(hc:cvScalar v=some x):v.cells=#[v]:=by
 unfold cvScalar at hc
 split at hc<;>first|rfl|simp at hc
theorem sizeT_info{t:TypeId}{n:Nat}(hs:sizeT A t=some n):∃i,A.P.info? t=some i∧i.size=n:=by
 unfold sizeT at hs
 split at hs
 ·rename_i i d h1 h2;injection hs with hs;exact⟨i,h1,hs⟩
 ·simp at hs
theorem sizeT_known{t:TypeId}{n:Nat}(hs:sizeT A t=some n):∃d,A.P.underlying t=some d:=by
 unfold sizeT at hs
 split at hs
 ·rename_i i d h1 h2;exact⟨d,h2⟩
 ·simp at hs
theorem run_sizeOf{t:TypeId}{n:Nat}(hs:sizeT A t=some n)(w:World):(Go.sizeOf t).run A.P w=.ok n w:=by
 obtain⟨i,hi,rfl⟩:=sizeT_info hs
 simp[Go.sizeOf,typeInfo,hi]
theorem zeroT_run{t:TypeId}{z:Value}(hz:zeroT A t=some z)(w:World):∃u,(zeroValue t).run A.P w=.ok u w∧VR A φ z u:=by
 unfold zeroT at hz
 cases hi:A.P.info? t with
 |none=>simp[hi]at hz
 |some i=>
  cases h0:i.zero with
  |none=>simp[hi,h0]at hz
  |some u=>simp[hi,h0]at hz;exact⟨u,by simp[zeroValue,typeInfo,hi,h0],cv_rel hz⟩
theorem zeroCellsT_run{t:TypeId}{z:List Value}(hz:zeroCellsT A t=some z):∃i u,A.P.info? t=some i∧i.zero=some u∧All2 (VR0 A φ) z u.cells.toList:=by
 unfold zeroCellsT at hz
 cases hi:A.P.info? t with
 |none=>simp[hi]at hz
 |some i=>
  cases h0:i.zero with
  |none=>simp[hi,h0]at hz
  |some u=>
   simp only[hi,h0,Option.bind_some]at hz
   refine⟨i,u,rfl,h0,?_⟩
   cases hc:cv u with
   |none=>simp[hc]at hz
   |some x=>
    rw[hc]at hz
    unfold cv at hc
    split at hc
    ·rename_i cs
     cases hl:cvAll cs.toList with
     |none=>simp[hl]at hc
     |some l=>
      simp[hl]at hc;subst hc
      simp at hz;subst hz
      simpa [Value.cells]using cvAll_rel hl
    ·have hx:[x]=z:=by
      have:=VR0.scalar (cvScalar_rel (A:=A) (φ:=φ) hc)
      cases x<;>simp[Am.scalar]at this<;>simpa using hz
     subst hx
     rw[cvScalar_one hc]
     exact⟨cvScalar_rel hc,trivial⟩
theorem aggT_run{t:TypeId}{d:TypeDesc}(hu:A.P.underlying t=some d)(w:World):(isAgg t).run A.P w=.ok (aggT A t) w:=by
 unfold isAgg aggT
 simp only[Sem.run_bind,run_underlying hu,Result.andThen_ok,hu]
 cases d<;>rfl
theorem addr_add(g o n:Nat):(⟨g,o,none⟩:Addr).add n=⟨g,o+n,none⟩:=Addr.add_lit g o n
/-! ### rows of cells -/
theorem run_loadCells_at{g o:Nat}{us:List Value}(hc:∀(j:Nat) (u:Value),us[j]?=some u->w.cell? ⟨g,o+j,none⟩=some u):(loadCells ⟨g,o,none⟩ us.length).run A.P w=.ok us.toArray w:=
 run_loadCells_list (P:=A.P) w ⟨g,o,none⟩ us λj u hu=>by rw[addr_add];exact hc j u hu
theorem run_storeCells_marks{P:Program}(g o:Nat)(t lo hi:Nat):∀(vs:List Value) (i:Nat) (cur:Array Value) (w:World),w.heap[g]?=some (.cells cur t (lo,hi))->o+i+vs.length<=cur.size->
  (∀j,j<cur.size->¬(lo<=j∧j<hi))->(∀v∈vs,v.oneCell'=true)->
  (storeCells ⟨g,o,none⟩ vs i).run P w=.ok () (w.setRow g (cur.toList.take (o+i)++vs++cur.toList.drop (o+i+vs.length)).toArray)
 |[],i,cur,w,hg,_,_,_=>by
  simp only[storeCells,List.append_nil,List.length_nil,Nat.add_zero,List.take_append_drop,Array.toArray_toList]
  rw[setRow_self w g cur t (lo,hi) hg]
  rfl
 |v::rest,i,cur,w,hg,hl,hf,h1=>by
  have hi':o+i<cur.size:=by simp at hl;omega
  have hadd:(⟨g,o,none⟩:Addr).add i=⟨g,o+i,none⟩:=addr_add g o i
  have hcell:w.cell? ⟨g,o+i,none⟩=some cur[o+i]:=by simp[World.cell?,hg,hi']
  have hfro:w.frozen? ⟨g,o+i,none⟩=false:=by
   have:=hf (o+i) hi'
   simp only[World.frozen?,hg,Bool.and_eq_false_iff,decide_eq_false_iff_not]
   omega
  have hst:(store ((⟨g,o,none⟩:Addr).add i) v).run P w=.ok () (w.setRow g (cur.setIfInBounds (o+i) v)):=by
   rw[hadd,run_store P w _ v _ (h1 v (by simp)),hcell]
   simp[hfro,setCell_eq_setRow w g (o+i) cur t (lo,hi) v hg]
  have ih:=run_storeCells_marks (P:=P) g o t lo hi rest (i+1) (cur.setIfInBounds (o+i) v) (w.setRow g (cur.setIfInBounds (o+i) v)) (setRow_heap w g cur _ t _ hg) (by simp at hl ⊢;omega) (by simpa using hf) (λx hx=>h1 x (by simp[hx]))
  simp only[storeCells,Sem.run_bind,hst,Result.andThen_ok,ih,setRow_setRow]
  congr 3
  simp only[Array.toList_setIfInBounds]
  have:=list_seg_step cur.toList (o+i) v rest (by simp at hl ⊢;omega)
  simpa [Nat.add_assoc]using this
theorem splice_get{cur us:List Value}{p:Nat}(hfit:p+us.length<=cur.length)(i:Nat)(hi:i<cur.length):
  (cur.take p++us++cur.drop (p+us.length))[i]?=if p<=i∧i<p+us.length then us[i-p]? else cur[i]?:=by
 rw[List.append_assoc]
 by_cases h1:i<p
 ·rw[if_neg (by omega),List.getElem?_append_left (by simp;omega),List.getElem?_take_of_lt h1]
 ·rw[List.getElem?_append_right (by simp;omega)]
  rw[List.length_take,show min p cur.length=p by omega]
  by_cases h2:i<p+us.length
  ·rw[if_pos (by omega),List.getElem?_append_left (by omega)]
  ·rw[if_neg (by omega),List.getElem?_append_right (by omega),List.getElem?_drop,show p+us.length+(i-p-us.length)=i by omega]
/-- What a row of stores does to the model's memory, in the words of 'store_sim' and 'adopt_sim'. -/
theorem stored_row{g p:Nat}{us:List Value}{cur0:Array Value}{ty0 lo0 hi0:Nat}(hg:w.heap[g]?=some (.cells cur0 ty0 (lo0,hi0)))(hfit:p+us.length<=cur0.size):
  ∀cur ty lo hi,w.heap[g]?=some (.cells cur ty (lo,hi))->∃cur',(w.setRow g (cur0.toList.take p++us++cur0.toList.drop (p+us.length)).toArray).heap[g]?=some (.cells cur' ty (lo,hi))∧cur'.size=cur.size∧
   ∀i,i<cur.size->cur'[i]?=if p<=i∧i<p+us.length then us[i-p]? else cur[i]?:=by
 intro cur ty lo hi hg'
 rw[hg]at hg'
 injection hg' with hg'
 injection hg' with e1 e2 e3
 subst e1;subst e2
 injection e3 with e3 e4
 subst e3;subst e4
 refine⟨_,setRow_heap w g cur0 _ ty0 _ hg,?_,?_⟩
 ·simp;omega
 ·intro i hi
  have:=splice_get (cur:=cur0.toList) (us:=us) (p:=p) (by simpa using hfit) i (by simpa using hi)
  simpa using this
theorem list_all_one{xs us:List Value}(hr:All2 (VR0 A φ) xs us):∀u∈us,u.oneCell'=true:=by
 intro u hu
 obtain⟨i,hi⟩:=List.getElem?_of_mem hu
 obtain⟨x,_,h0⟩:=hr.get' i u hi
 exact h0.one
/-- STORING CELLS. -/
theorem storeCells_sim{h':Heap}{b o:Nat}{l:Loc}{xs us:List Value}(H:HeapR A φ h w base)(hst:storeAt h b o xs=some h')(hl:φ b=some l)(hxs:All2 (VR0 A φ) xs us):
  ∃w',(storeCells ⟨l.g,l.o+o,none⟩ us).run A.P w=.ok () w'∧HeapR A φ h' w' base∧Ext w.heap.size φ h w φ h' w':=by
 have hst':=hst
 unfold storeAt at hst
 cases hk:h[b]? with
 |none=>simp[hk]at hst
 |some k=>
  simp only[hk]at hst
  split at hst
  ·rename_i hc
   obtain⟨hrw,hfit⟩:=hc
   obtain⟨hbase,hin,cur,ty,lo,hi,hg,hcs,hfz⟩:=H.row b l k hl hk hrw
   have hlen:=hxs.length
   have hrun:=run_storeCells_marks (P:=A.P) l.g (l.o+o) ty lo hi us 0 cur w hg (by omega) (by rw[hcs];exact hfz.1) (list_all_one hxs)
   simp only[Nat.add_zero]at hrun
   have hS:=store_sim (w':=w.setRow l.g (cur.toList.take (l.o+o)++us++cur.toList.drop (l.o+o+us.length)).toArray) H hst' hl hxs (by simp)
    (λg hg'=>setRow_other w l.g g _ hg') (λc t x y hc'=>stored_row (p:=l.o+o) hg (by omega) c t x y hc') rfl rfl rfl
   exact⟨_,hrun,hS⟩
  ·simp at hst
theorem loadVar_sim{t:TypeId}{n b o:Nat}{l:Loc}{v:Value}(H:HeapR A φ h w base)(hs:sizeT A t=some n)(hl:φ b=some l)
  (hv:aLoad (if aggT A t then n+1 else 0) h (pt b o)=some v):∃u,(loadVar t ⟨l.g,l.o+o,none⟩).run A.P w=.ok u w∧VR A φ v u:=by
 obtain⟨d,hu⟩:=sizeT_known hs
 unfold loadVar
 simp only[Sem.run_bind,aggT_run hu,Result.andThen_ok]
 cases ha:aggT A t with
 |false=>
  simp only[ha,Bool.false_eq_true,if_false,aLoad,if_true]at hv ⊢
  obtain⟨u,hc,hr⟩:=cell_sim H hl hv
  exact⟨u,by simp[hc],VR.of0 hr⟩
 |true=>
  simp only[ha,if_true,aLoad]at hv ⊢
  rw[if_neg (by omega)]at hv
  cases hc:cellsAt h b o n with
  |none=>simp[hc]at hv
  |some cs=>
   simp[hc]at hv;subst hv
   obtain⟨hlen,us,hul,hr,hcell⟩:=cellsAt_sim H hl hc
   refine⟨.agg us.toArray,?_,us.toArray,rfl,by simpa using hr⟩
   simp only[Sem.run_bind,run_sizeOf hs,Result.andThen_ok]
   have:=run_loadCells_at (A:=A) (w:=w) (g:=l.g) (o:=l.o+o) (us:=us) hcell
   rw[hul]at this
   simp[this]
theorem storeVar_sim{t:TypeId}{n b o:Nat}{l:Loc}{x u:Value}{cs:List Value}{h':Heap}(H:HeapR A φ h w base)(hs:sizeT A t=some n)(hl:φ b=some l)
  (hc:cellsOf x=some cs) (hn:cs.length=n) (hst:storeAt h b o cs=some h') (hx:VR A φ x u):
  ∃w',(storeVar t ⟨l.g,l.o+o,none⟩ u).run A.P w=.ok () w'∧HeapR A φ h' w' base∧Ext w.heap.size φ h w φ h' w':=by
 have hr:=cellsOf_rel hc hx
 obtain⟨w',hrun,hH,hE⟩:=storeCells_sim H hst hl hr
 refine⟨w',?_,hH,hE⟩
 have hsz:u.cells.size=n:=by rw[<-hn,hr.length];simp
 simp[storeVar,run_sizeOf hs,hsz,hrun]
/-- A NEW ROW of cells, all of them said. -/
theorem newRow_sim{e:TypeId}{cs:List Value}{us:Array Value}(H:HeapR A φ h w base)(hb:base<=w.heap.size)(hφ:φ h.length=none)(hcs:All2 (VR0 A φ) cs us.toList):
  (newRow e us).run A.P w=.ok ⟨w.heap.size,0,none⟩ (w.alloc (.cells us e))∧HeapR A (φ.put h.length ⟨w.heap.size,0,us.size,false⟩) (h++[⟨cs,true⟩]) (w.alloc (.cells us e)) base∧
   Ext w.heap.size φ h w (φ.put h.length ⟨w.heap.size,0,us.size,false⟩) (h++[⟨cs,true⟩]) (w.alloc (.cells us e)):=by
 refine⟨by simp[newRow],?_⟩
 exact alloc_sim (ty:=e) (lo:=0) (hi:=0) false (by omega) H hb hφ hcs (λi v hv=>by simpa using hv) (by simp) (λg hg=>heap_alloc_old w _ g hg) (heap_alloc_new w _) (λi _=>by omega) rfl rfl rfl
end
end Am

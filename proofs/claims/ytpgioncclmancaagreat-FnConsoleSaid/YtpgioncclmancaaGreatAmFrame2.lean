/- Operations on boxes of the frame's own; calls; the step. -/
import Derived.Test.YtpgioncclmancaaGreatAmFrame
set_option linter.unusedVariables false
set_option linter.unusedSimpArgs false
namespace Am
open Go
/-- What a call does, if 'call' says what 'Am' gets from it. -/
def CallOk(A:Seat)(base:Nat)(call:Caller):Prop:=∀f args h v h' g φ w us,call f args h=some (v,h')->nFn A g=some f->HeapR A φ h w base->base<=w.heap.size->
 (∀b,h.length<=b->b<h'.length->φ b=none)->All2 (VR A φ) args us->
 (callFunc g us.toArray).run A.P w=.ok (.enter g us.toArray) w∧
  Calls A.P g us.toArray w λe w'=>∃u φ',e=.returned u∧VR A φ' v u∧HeapR A φ' h' w' base∧Ext w.heap.size φ h w φ' h' w'
section
variable {A : Seat} {φ : Phi} {h : Heap} {w : World} {base lo : Nat} {loc pb : List Nat} {env : List (Nat × Nat)} {s : Nat -> Value} {a : Act}
theorem nOperand_rel(S:SR A pb env φ s a.tmps w lo){x y:Operand}(hn:nOperand A loc pb env x=some y):VR A φ (evs s y) (a.eval x):=by
 unfold nOperand at hn
 cases x with
 |tmp t=>
  simp only at hn
  split at hn
  ·simp at hn
  ·rename_i hc
   simp only[Bool.or_eq_true,not_or,Bool.not_eq_true,Option.isSome_eq_false_iff,Option.isNone_iff_eq_none]at hc
   have:=S.plain t hc.1 hc.2
   injection hn with hn
   subst hn
   split<;>exact this
 |const v=>
  simp only at hn
  cases hc:cv v with
  |none=>simp[hc]at hn
  |some x=>simp[hc]at hn;subst hn;exact cv_rel hc
 |func g=>
  simp only at hn
  cases hc:nFn A g with
  |none=>simp[hc]at hn
  |some f=>simp[hc]at hn;subst hn;exact⟨g,#[],#[],rfl,hc,trivial,trivial⟩
 |global g=>simp at hn
theorem nPriv_rel(S:SR A pb env φ s a.tmps w lo){x y:Operand}{t:Nat}{n:Int}(hn:nPriv pb env x=some (t,y))(hv:numV (evs s y)=some n):
  pb.contains t=true∧s t≠poison∧∃(off:Nat) (g:Nat),n=off∧a.eval x=.pointer (some ⟨g,off,none⟩)∧a.tmps.getD t undef=.pointer (some ⟨g,0,none⟩):=by
 unfold nPriv at hn
 cases x with
 |tmp i=>
  simp only at hn
  split at hn
  ·rename_i hc
   injection hn with hn;injection hn with e1 e2;subst e1;subst e2
   have hp:s i≠poison:=by intro e;simp[evs,e,numV]at hv
   obtain⟨cs,g,cur,ty,e1,e2,_⟩:=S.box i hc hp
   simp only[evs,e1,numV,Option.some.injEq]at hv
   exact⟨hc,hp,0,g,by simp[<-hv],e2,e2⟩
  ·cases hb:boxOf env i with
   |none=>simp[hb]at hn
   |some b=>
    simp[hb]at hn
    obtain⟨rfl,rfl⟩:=hn
    have hp:s i≠poison:=by intro e;simp[evs,e,numV]at hv
    obtain⟨k1,k2,off,g,k3,k4,k5⟩:=S.into i b hb hp
    simp only[evs,k3,numV,Option.some.injEq]at hv
    exact⟨k1,k2,off,g,hv.symm,k4,k5⟩
 |_=>simp at hn
/-- Loading from a box. -/
theorem load_priv{t:TypeId}{n g off:Nat}{cs cur:Array Value}{ty:Nat}{v:Value}(hs:sizeT A t=some n)(hrow:w.heap[g]?=some (.cells cur ty (0,0)))(hc:All2 (VR0 A φ) cs.toList cur.toList)
  (hv:aField (if aggT A t then n+1 else 0) off (.agg cs)=some v):∃u,(loadVar t ⟨g,off,none⟩).run A.P w=.ok u w∧VR A φ v u:=by
 obtain⟨d,hu⟩:=sizeT_known hs
 have hcell:∀(i:Nat) (u:Value),cur[i]?=some u->w.cell? ⟨g,i,none⟩=some u:=λi u hi=>by simp[World.cell?,hrow,hi]
 unfold loadVar
 simp only[Sem.run_bind,aggT_run hu,Result.andThen_ok]
 cases ha:aggT A t with
 |false=>
  simp only[ha,Bool.false_eq_true,if_false,aField,if_true]at hv ⊢
  obtain⟨u,h1,h2⟩:=hc.get off v (by simpa using hv)
  exact⟨u,by simp[hcell off u (by simpa using h1)],VR.of0 h2⟩
 |true=>
  simp only[ha,if_true,aField]at hv ⊢
  rw[if_neg (by omega)]at hv
  split at hv
  ·rename_i hfit
   injection hv with hv;subst hv
   have hl:=hc.length
   simp only[Array.length_toList]at hl
   have hul:((cur.toList.drop off).take n).length=n:=by simp;omega
   have hr:=(hc.drop off).take n
   refine⟨.agg ((cur.toList.drop off).take n).toArray,?_,((cur.toList.drop off).take n).toArray,rfl,by simpa using hr⟩
   simp only[Sem.run_bind,run_sizeOf hs,Result.andThen_ok]
   have:=run_loadCells_at (A:=A) (w:=w) (g:=g) (o:=off) (us:=(cur.toList.drop off).take n) (λj u hj=>by
    have hj':j<n:=by have:=(List.getElem?_eq_some_iff.1 hj).1;omega
    rw[List.getElem?_take_of_lt hj',List.getElem?_drop]at hj
    exact hcell (off+j) u (by simpa using hj))
   rw[hul]at this
   simp[this]
  ·simp at hv
/-- A store into a box. -/
theorem store_priv{t:TypeId}{n g off ty:Nat}{cur:Array Value}{u:Value}(hs:sizeT A t=some n)(hrow:w.heap[g]?=some (.cells cur ty (0,0)))(hfit:off+n<=cur.size)(hlen:u.cells.size=n)
  (hone:∀v∈u.cells.toList,v.oneCell'=true):(storeVar t ⟨g,off,none⟩ u).run A.P w=.ok () (w.setRow g (splice cur.toList off u.cells.toList).toArray):=by
 have:=run_storeCells_marks (P:=A.P) g off ty 0 0 u.cells.toList 0 cur w hrow (by simp;omega) (λj hj=>by omega) hone
 simp only[Nat.add_zero]at this
 simp[storeVar,run_sizeOf hs,hlen,this,splice]
/-- The box's new content. -/
theorem SR.store{tm:Array Value}{t g off:Nat}{cs cur:Array Value}{ty:Nat}{xs us:List Value}(S:SR A pb env φ s tm w lo)(hw:EnvWf pb env)(hpb:pb.contains t=true)(he:s t=.agg cs)(hg:tm.getD t undef=.pointer (some ⟨g,0,none⟩))
  (hrow:w.heap[g]?=some (.cells cur ty (0,0))) (hc:All2 (VR0 A φ) cs.toList cur.toList) (hx:All2 (VR0 A φ) xs us) (hlo:lo<=g) (hφ:∀b l,φ b=some l->l.g≠g):
  SR A pb env φ (upd s t (.agg (splice cs.toList off xs).toArray)) tm (w.setRow g (splice cur.toList off us).toArray) lo:=by
 have hp:s t≠poison:=by rw[he];simp
 have hgl:g<w.heap.size:=(Array.getElem?_eq_some_iff.1 hrow).1
 refine⟨λi h1 h2=>?_,λb hb hpb'=>?_,λb b' g' hb hb' hp1 hp2 e1 e2=>?_,λd b hb hp'=>?_⟩
 ·have n:i≠t:=λe=>by subst e;rw[hpb]at h1;cases h1
  rw[upd_apply,if_neg n]
  exact S.plain i h1 h2
 ·by_cases n:b=t
  ·subst n
   refine⟨(splice cs.toList off xs).toArray,g,(splice cur.toList off us).toArray,ty,by simp[upd],hg,hlo,?_,by simpa using splice_rel hc hx,hφ⟩
   exact setRow_heap w g cur _ ty (0,0) hrow
  ·rw[upd_apply,if_neg n]at hpb'
   obtain⟨cs',g',cur',ty',e1,e2,e3,e4,e5,e6⟩:=S.box b hb hpb'
   have hgg:g'≠g:=λe=>by subst e;exact n (S.apart b t g' hb hpb hpb' hp e2 hg)
   exact⟨cs',g',cur',ty',by rw[upd_apply,if_neg n];exact e1,e2,e3,by rw[setRow_other w g g' _ hgg];exact e4,e5,e6⟩
 ·have q:∀b,upd s t (.agg (splice cs.toList off xs).toArray) b≠poison->s b≠poison:=by
   intro b hb
   by_cases n:b=t
   ·subst n;exact hp
   ·rw[upd_apply,if_neg n]at hb;exact hb
  exact S.apart b b' g' hb hb' (q b hp1) (q b' hp2) e1 e2
 ·have n:d≠t:=λe=>by subst e;have:=(hw d b hb).2;rw[hpb]at this;cases this
  rw[upd_apply,if_neg n]at hp'
  obtain⟨k1,k2,off',g',k3,k4,k5⟩:=S.into d b hb hp'
  refine⟨k1,?_,off',g',by rw[upd_apply,if_neg n];exact k3,k4,k5⟩
  by_cases n':b=t
  ·subst n';simp[upd]
  ·rw[upd_apply,if_neg n'];exact k2
end
end Am

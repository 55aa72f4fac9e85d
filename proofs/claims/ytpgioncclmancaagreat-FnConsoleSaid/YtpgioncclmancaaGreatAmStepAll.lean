/- THE STEP: an operation that 'Am' performs, the model performs. -/
import Derived.Test.YtpgioncclmancaaGreatAmFrame2
set_option linter.unusedVariables false
set_option linter.unusedSimpArgs false
namespace Am
open Go
section
variable {A : Seat} {φ : Phi} {h h' : Heap} {w : World} {base lo : Nat} {loc pb : List Nat} {env : List (Nat × Nat)} {s : Nat -> Value} {a : Act}
/-- What is there behind an operation. -/
def Behind(A:Seat)(pb:List Nat)(env:List (Nat×Nat))(φ:Phi)(s':Nat->Value)(h:Heap)(w:World)(h':Heap)(base lo:Nat)(fr:Bool)(n:Nat)(tm':Array Value)(w':World):Prop:=
 tm'.size=n∧∃φ',SR A pb env φ' s' tm' w' lo∧HeapR A φ' h' w' base∧Ext lo φ h w φ' h' w'∧(fr=true∨Ext w.heap.size φ h w φ' h' w')
/-- The operation runs through, without a call. -/
def Through(A:Seat)(pb:List Nat)(env:List (Nat×Nat))(φ:Phi)(s':Nat->Value)(h:Heap)(w:World)(h':Heap)(base lo:Nat)(fr:Bool)(a:Act)(o:Oper):Prop:=
 ∃r w',(execOp a.eval o).run A.P w=.ok r w'∧((∃u,r=Next.value u∧Behind A pb env φ s' h w h' base lo fr a.tmps.size (a.put o.dst u).tmps w')∨(r=Next.skip∧Behind A pb env φ s' h w h' base lo fr a.tmps.size (a.put o.dst undef).tmps w'))
theorem put_size(a:Act)(d:Option Tmp)(u:Value):(a.put d u).tmps.size=a.tmps.size:=by cases d<;>simp[Act.put]
/-- A value comes into the slot. -/
theorem SR.putO{tm:Array Value}{d:Option Nat}{v u:Value}(S:SR A pb env φ s a.tmps w lo)(hd:∀i,d=some i->i<a.tmps.size∧pb.contains i=false∧boxOf env i=none)(hv:VR A φ v u):
  SR A pb env φ (updO s d v) (a.put d u).tmps w lo:=by
 cases d with
 |none=>exact S
 |some i=>obtain⟨h1,h2,h3⟩:=hd i rfl;exact S.put h1 h2 h3 hv
theorem through_plain{o:Oper}{p:Op}{v:Value}(hE:EqOk A)(S:SR A pb env φ s a.tmps w lo)(H:HeapR A φ h w base)(hb:base<=lo)(hlo:lo<=w.heap.size)(hφ:∀b,h.length<=b->b<h'.length->φ b=none)
  (hn:nOp A loc pb env o.op=some p) (hc:∀f args ts,o.op≠.call {callee:=.value f,args:=args,argTypes:=ts}) (hd:∀i,o.dst=some i->i<a.tmps.size∧pb.contains i=false∧boxOf env i=none)
  (ha:aOp (evs s) h p=some (v,h')) (fr:Bool):Through A pb env φ (updO s o.dst v) h w h' base lo fr a o:=by
 obtain⟨dst,op,ty,pos,after,guard⟩:=o
 obtain⟨r,w',φ',hrun,hr,hH,hX⟩:=plain_op (dst:=dst) (ty:=ty) (pos:=pos) (after:=after) (guard:=guard) hE H (Nat.le_trans hb hlo) (λhl=>hφ _ (Nat.le_refl _) hl) (ρa:=evs s) (λ_=>rfl) (λ_=>rfl)
  (λx y hxy=>nOperand_rel S hxy) hc hn ha
 have S':=S.move hX H.low
 refine⟨r,w',hrun,?_⟩
 rcases hr with⟨u,rfl,hv⟩|⟨rfl,rfl⟩
 ·exact .inl ⟨u,rfl,put_size _ _ _,φ',SR.putO (tm:=a.tmps) S' hd hv,hH,hX.weak hlo,.inr hX⟩
 ·exact .inr ⟨rfl,put_size _ _ _,φ',SR.putO (tm:=a.tmps) S' hd VR.poison,hH,hX.weak hlo,.inr hX⟩
theorem newVar_run{e:TypeId}{u:Value}(w:World):(newVar e u).run A.P w=.ok ⟨w.heap.size,0,none⟩ (w.alloc (.cells u.cells e)):=by
 simp[newVar,newRow]
theorem through_priv{o:Oper}{d:Option Nat}{p:Op}{v:Value}(hw:EnvWf pb env)(S:SR A pb env φ s a.tmps w lo)(H:HeapR A φ h w base)(hb:base<=lo)(hlo:lo<=w.heap.size)
  (hn:nPrivOp A loc pb env o.dst o.op=some (d,p)) (hside:∀i,o.dst=some i->∀e,boxOf env e=some i->s e=poison) (hd:∀i,o.dst=some i->i<a.tmps.size)
  (ha:aOp (evs s) h p=some (v,h')):Through A pb env φ (updO s d v) h w h' base lo (slotOnly p) a o:=by
 obtain⟨dst,op,ty,pos,after,guard⟩:=o
 simp only at hn hside hd
 unfold nPrivOp at hn
 cases op with
 |alloc e=>
  simp only at hn
  split at hn
  ·rename_i t
   split at hn
   ·rename_i hpb
    cases hz:zeroCellsT A e with
    |none=>simp[hz]at hn
    |some z=>
     simp only[hz,Option.bind_some]at hn
     split at hn
     ·injection hn with hn;injection hn with e1 e2;subst e1;subst e2
      simp only[aOp,evs,Option.some.injEq,Prod.mk.injEq]at ha
      obtain⟨rfl,rfl⟩:=ha
      obtain⟨i,u,hi,h0,hr⟩:=zeroCellsT_run (φ:=φ) hz
      obtain⟨hH,hX⟩:=alloc_priv (.cells u.cells e) H
      refine⟨.value (.pointer (some ⟨w.heap.size,0,none⟩)),w.alloc (.cells u.cells e),?_,.inl ⟨_,rfl,put_size _ _ _,φ,?_,hH,hX.weak hlo,.inl rfl⟩⟩
      ·simp[execOp,Instr.alloc,zeroValue,typeInfo,hi,h0,newVar_run]
      ·exact S.make (hd t rfl) hpb (hside t rfl) hw H.low hlo (by simpa using hr)
     ·simp at hn
   ·simp at hn
  ·simp at hn
 |box e x=>
  simp only at hn
  split at hn
  ·rename_i t n y h1 h2
   split at hn
   ·rename_i hpb
    injection hn with hn;injection hn with e1 e2;subst e1;subst e2
    simp only[aOp]at ha
    obtain⟨hv,he⟩:=with_inv ha
    subst he
    have hr:=nOperand_rel S h2
    unfold aWrap at hv
    split at hv
    ·rename_i cs hcs
     split at hv
     ·rename_i hlen
      injection hv with hv;subst hv
      have hc:=cellsOf_rel hcs hr
      obtain⟨hH,hX⟩:=alloc_priv (.cells (a.eval x).cells e) H
      refine⟨.value (.pointer (some ⟨w.heap.size,0,none⟩)),w.alloc (.cells (a.eval x).cells e),?_,.inl ⟨_,rfl,put_size _ _ _,φ,?_,hH,hX.weak hlo,.inl rfl⟩⟩
      ·simp[execOp,Instr.box,newVar_run]
      ·exact S.make (hd t rfl) hpb (hside t rfl) hw H.low hlo (by simpa using hc)
     ·simp at hv
    ·simp at hv
   ·simp at hn
  ·simp at hn
 |fieldAddr t x f=>
  simp only at hn
  split at hn
  ·rename_i dd t' y fs h1 h2
   split at hn
   ·rename_i fd h3
    split at hn
    ·rename_i m h4
     split at hn
     ·rename_i hbx
      injection hn with hn;injection hn with e1 e2;subst e1;subst e2
      simp only[aOp]at ha
      obtain⟨hv,he⟩:=with_inv ha
      subst he
      simp only[Nat.one_ne_zero,if_false,fieldNumV]at hv
      cases hnum:numV (evs s y)with
      |none=>simp[hnum]at hv
      |some n=>
       simp[hnum]at hv;subst hv
       obtain⟨k1,k2,off,g,rfl,k3,k4⟩:=nPriv_rel S h1 hnum
       refine⟨.value (.pointer (some ⟨g,off+fd.offset,none⟩)),w,?_,.inl ⟨_,rfl,put_size _ _ _,φ,?_,H,Ext.refl _ _ _ _,.inl rfl⟩⟩
       ·simp only[execOp,Instr.fieldAt,Sem.run_bind,run_underlying h2,Result.andThen_ok,h3,k3,Instr.sureAddr,fieldPlace,run_sizeOf h4]
        simp[Addr.add_lit]
       ·have:=S.point (off:=off+fd.offset) (hd dd rfl) hw hbx k2 k4
        simpa [Act.put,updO]using this
     ·simp at hn
    ·simp at hn
   ·simp at hn
  ·simp at hn
 |indexAddr t x i=>
  simp only at hn
  split at hn
  ·rename_i dd t' y nn e i' h1 h2 h3
   cases hs:sizeT A e with
   |none=>simp[hs]at hn
   |some z=>
    simp only[hs,Option.bind_some]at hn
    split at hn
    ·rename_i hbx
     cases hc:arrCode nn z with
     |none=>simp[hc]at hn
     |some c=>
      simp only[hc,Option.map_some]at hn
      injection hn with hn;injection hn with e1 e2;subst e1;subst e2
      simp only[aOp]at ha
      obtain⟨hv,he⟩:=with_inv ha
      subst he
      obtain⟨_,hz,q1,q2,q3⟩:=arrCode_eq hc
      have hri:=nOperand_rel S h3
      simp only[if_true]at hv
      unfold indexNumV at hv
      split at hv
      ·rename_i k j hj
       rw[hj]at hri
       have ei:=VR.int_inv hri
       split at hv
       ·rename_i hin
        cases hnum:numV (evs s y)with
        |none=>simp[hnum]at hv
        |some n=>
         simp[hnum]at hv;subst hv
         obtain⟨k1,k2,off,g,rfl,k3,k4⟩:=nPriv_rel S h1 hnum
         rw[q1]at hin
         refine⟨.value (.pointer (some ⟨g,off+j.toNat*z,none⟩)),w,?_,.inl ⟨_,rfl,put_size _ _ _,φ,?_,H,Ext.refl _ _ _ _,.inl rfl⟩⟩
         ·simp only[execOp,Instr.indexAt,Sem.run_bind,k3,ei,asIntOf,Sem.run_pure,run_underlying h2,Result.andThen_ok,Instr.sureAddr]
          simp[hin.2.1,hin.2.2,run_sizeOf hs,Addr.add_lit,run_underlying h2]
         ·have:=S.point (off:=off+j.toNat*z) (hd dd rfl) hw hbx k2 k4
          have ej:(j.toNat:Int)=j:=by omega
          have ec:(c:Int)%1000=z:=by omega
          simpa [Act.put,updO,ej,ec]using this
       ·simp at hv
      ·simp at hv
    ·simp at hn
  ·simp at hn
 |load t x=>
  simp only at hn
  split at hn
  ·rename_i dd t' y n h1 h2
   split at hn
   ·simp at hn
   ·rename_i hpl
    simp only[Bool.or_eq_true,not_or,Bool.not_eq_true,Option.isSome_eq_false_iff,Option.isNone_iff_eq_none]at hpl
    injection hn with hn;injection hn with e1 e2;subst e1;subst e2
    simp only[aOp]at ha
    obtain⟨hv,he⟩:=with_inv ha
    subst he
    simp only[Bool.false_eq_true,if_false]at hv
    unfold aGet at hv
    cases hnum:numV (evs s y)with
    |none=>simp[hnum]at hv
    |some m=>
     simp only[hnum]at hv
     obtain⟨k1,k2,off,g,rfl,k3,k4⟩:=nPriv_rel S h1 hnum
     obtain⟨cs,g',cur,ty',b1,b2,b3,b4,b5,b6⟩:=S.box t' k1 k2
     rw[k4]at b2
     injection b2 with b2;injection b2 with b2;injection b2 with b2;subst b2
     rw[if_pos (by omega)]at hv
     have e3:evs s (.tmp t')=.agg cs:=b1
     rw[e3]at hv
     have e4:((off:Int)).toNat=off:=by omega
     rw[e4]at hv
     obtain⟨u,hrun,hu⟩:=load_priv h2 b4 b5 hv
     refine⟨.value u,w,?_,.inl ⟨_,rfl,put_size _ _ _,φ,?_,H,Ext.refl _ _ _ _,.inl rfl⟩⟩
     ·simp[execOp,Instr.loadAt,Instr.sureAddr,k3,hrun]
     ·exact S.put (hd dd rfl) hpl.1 hpl.2 hu
  ·simp at hn
 |store t x v'=>
  simp only at hn
  split at hn
  ·rename_i t' y n z h1 h2 h3
   injection hn with hn;injection hn with e1 e2;subst e1;subst e2
   simp only[aOp]at ha
   obtain⟨hv,he⟩:=with_inv ha
   subst he
   have hr:=nOperand_rel S h3
   unfold aPut at hv
   split at hv
   ·rename_i cs o xs hcs hnum hxs
    obtain⟨k1,k2,off,g,rfl,k3,k4⟩:=nPriv_rel S h1 hnum
    obtain⟨cs',g',cur,ty',b1,b2,b3,b4,b5,b6⟩:=S.box t' k1 k2
    rw[k4]at b2
    injection b2 with b2;injection b2 with b2;injection b2 with b2;subst b2
    have e3:evs s (.tmp t')=.agg cs':=b1
    rw[e3]at hcs
    injection hcs with hcs;subst hcs
    split at hv
    ·rename_i hcond
     injection hv with hv;subst hv
     have hx:=cellsOf_rel hxs hr
     have hl:=b5.length
     simp only[Array.length_toList]at hl
     have hxl:=hx.length
     have hlen:(a.eval v').cells.size=n:=by simp at hxl;omega
     have e4:((off:Int)).toNat=off:=by omega
     rw[e4]at hcond
     have hst:=store_priv (A:=A) (off:=off) h2 b4 (by omega) hlen (list_all_one hx)
     have hH:HeapR A φ h (w.setRow g (splice cur.toList off (a.eval v').cells.toList).toArray) base:=H.others (by simp[World.setRow]) λb l hb=>setRow_other w g _ _ (b6 b l hb)
     have hX:Ext lo φ h w φ h (w.setRow g (splice cur.toList off (a.eval v').cells.toList).toArray):=Ext.others (by simp[World.setRow]) (λg' hg'=>setRow_other w g g' _ (by omega)) rfl rfl rfl
     refine⟨.skip,_,?_,.inr ⟨rfl,put_size _ _ _,φ,?_,hH,hX,.inl rfl⟩⟩
     ·simp[execOp,Instr.storeAt,Instr.sureAddr,k3,hst]
     ·have:=S.store (off:=off) hw k1 b1 k4 b4 b5 hx b3 b6
      simpa [e4,updO,Act.put]using this
    ·simp at hv
   ·simp at hv
  ·simp at hn
 |_=>simp at hn
theorem nOp_callOf{o p:Op}(hc:∀f args ts,o≠.call {callee:=.value f,args:=args,argTypes:=ts})(hn:nOp A loc pb env o=some p)(ρ:Operand->Value):callOf ρ p=none:=by
 cases o with
 |call c=>
  obtain⟨callee,args,ts⟩:=c
  cases callee with
  |value f=>exact absurd rfl (hc f args ts)
  |invoke r m=>simp[nOp]at hn
  |builtin b=>
   simp only[nOp]at hn
   repeat' split at hn
   all_goals first
    |(simp at hn;done)
    |(injection hn with hn;subst hn;rfl)
 |makeFunc f first caps=>
  cases f<;>simp only[nOp]at hn
  all_goals (repeat' split at hn)
  all_goals first
   |(simp at hn;done)
   |(injection hn with hn;subst hn;rfl)
 |_=>
  simp only[nOp]at hn
  all_goals (repeat' split at hn)
  all_goals first
   |(simp at hn;done)
   |(injection hn with hn;subst hn;rfl)
   |(simp only[Option.map_eq_some_iff,Option.bind_eq_some_iff]at hn;obtain⟨_,_,rfl⟩:=hn;rfl)
   |(simp only[Option.map_eq_some_iff,Option.bind_eq_some_iff]at hn;obtain⟨_,_,_,_,rfl⟩:=hn;rfl)
   |(simp only[Option.map_eq_some_iff,Option.bind_eq_some_iff]at hn;obtain⟨_,_,hn⟩:=hn;(repeat' split at hn)<;>first|(simp at hn;done)|(injection hn with hn;subst hn;rfl)|(simp only[Option.map_eq_some_iff,Option.bind_eq_some_iff]at hn;obtain⟨_,_,rfl⟩:=hn;rfl))
/-- A call. -/
theorem call_step{o:Oper}{p:Op}{v:Value}{call:Caller}{f:Nat}{args:List Value}{fr:Bool}{K:Act->World->Prop}{Q:Exit->Act->World->Prop}(hC:CallOk A base call)(S:SR A pb env φ s a.tmps w lo)(H:HeapR A φ h w base)(hb:base<=lo)(hlo:lo<=w.heap.size)
  (hφ:∀b,h.length<=b->b<h'.length->φ b=none) (hn:nOp A loc pb env o.op=some p) (hd:∀i,o.dst=some i->i<a.tmps.size∧pb.contains i=false∧boxOf env i=none)
  (hf:callOf (evs s) p=some (f,args)) (ha:call f args h=some (v,h'))
  (hK:∀tm' w',Behind A pb env φ (updO s o.dst v) h w h' base lo fr a.tmps.size tm' w'->K ⟨tm',a.defers⟩ w'):o.wp A.P a w K Q:=by
 obtain⟨dst,op,ty,pos,after,guard⟩:=o
 simp only at hn hd hK
 have key:∃fo argso ts fo' l,op=.call {callee:=.value fo,args:=argso,argTypes:=ts}∧nOperand A loc pb env fo=some fo'∧nOperands A loc pb env argso.toList=some l∧p=.call {callee:=.value fo',args:=l.toArray,argTypes:=#[]}:=by
  by_cases hcv:∃fo argso ts,op=.call {callee:=.value fo,args:=argso,argTypes:=ts}
  ·obtain⟨fo,argso,ts,rfl⟩:=hcv
   simp only[nOp]at hn
   split at hn
   ·rename_i fo' l h1 h2
    injection hn with hn
    exact⟨fo,argso,ts,fo',l,rfl,h1,h2,hn.symm⟩
   ·simp at hn
  ·rw[nOp_callOf (λf args ts e=>hcv ⟨f,args,ts,e⟩) hn]at hf
   simp at hf
 obtain⟨fo,argso,ts,fo',l,rfl,h1,h2,rfl⟩:=key
 simp only[callOf]at hf
 split at hf
 ·rename_i g0 first caps hv
  injection hf with hf;injection hf with e1 e2;subst e1;subst e2
  have hr:=nOperand_rel S h1
  rw[hv]at hr
  obtain⟨g,us,vs,hg,hgf,hfirst,hcaps⟩:=VR.func_inv hr
  have hargs:=nOperands_rel (ρa:=evs s) (ρm:=a.eval) (λx y hxy=>nOperand_rel S hxy) h2
  have hall:All2 (VR A φ) (first.toList++(l.toArray.toList.map (evs s)++caps.toList)) (us.toList++(argso.toList.map a.eval++vs.toList)):=by
   refine All2.append (hfirst.mono λx u hx=>?_) (All2.append (by simpa using hargs) (hcaps.mono λx u hx=>?_))
   ·cases x<;>first|exact hx.elim|skip
    obtain⟨ws,rfl,hw⟩:=hx
    exact⟨ws,rfl,hw.mono λy z hy=>by cases y<;>first|exact hy|exact hy.elim⟩
   ·cases x<;>first|exact hx|exact hx.elim
  obtain⟨hrun,hcall⟩:=hC _ _ _ _ _ g φ w _ ha hgf H (Nat.le_trans hb hlo) hφ hall
  have hx:(execOp a.eval {dst:=dst,op:=.call {callee:=.value fo,args:=argso,argTypes:=ts},type:=ty,pos:=pos,after:=after,guard:=guard}).run A.P w=.ok (.enter g (us.toList++(argso.toList.map a.eval++vs.toList)).toArray) w:=by
   have e:us++argso.map a.eval++vs=(us.toList++(argso.toList.map a.eval++vs.toList)).toArray:=by apply Array.ext';simp
   simp only[execOp,resolve,Sem.run_bind,hg,Deferred.ofValue,Sem.run_pure,Result.andThen_ok,invoke]
   simp only[e]
   exact hrun
  unfold Oper.wp
  rw[hx,Oper.upon_enter]
  refine Calls.mono hcall ?_
  rintro e w'⟨u,φ',rfl,hu,hH,hX⟩
  have:=SR.putO (tm:=a.tmps) (S.move hX H.low) hd hu
  have hres:=hK (a.put dst u).tmps w' ⟨put_size _ _ _,φ',this,hH,hX.weak hlo,.inr hX⟩
  have:(⟨(a.put dst u).tmps,a.defers⟩:Act)=a.put dst u:=by cases dst<;>rfl
  rw[this]at hres
  exact hres
 ·simp at hf
theorem nPrivOp_callOf{dst d:Option Nat}{o p:Op}(hn:nPrivOp A loc pb env dst o=some (d,p))(ρ:Operand->Value):callOf ρ p=none:=by
 cases o<;>simp only[nPrivOp]at hn
 all_goals (repeat' split at hn)
 all_goals first
  |(simp at hn;done)
  |(injection hn with hn;injection hn with e1 e2;subst e2;rfl)
  |(simp only[Option.bind_eq_some_iff]at hn;obtain⟨_,_,hn⟩:=hn;(repeat' split at hn)<;>first|(simp at hn;done)|(injection hn with hn;injection hn with e1 e2;subst e2;rfl)|(simp only[Option.map_eq_some_iff]at hn;obtain⟨_,_,hn⟩:=hn;injection hn with e1 e2;subst e2;rfl))
theorem Through.wp{fr:Bool}{o:Oper}{s':Nat->Value}{K:Act->World->Prop}{Q:Exit->Act->World->Prop}(x:Through A pb env φ s' h w h' base lo fr a o)
  (hK:∀tm' w',Behind A pb env φ s' h w h' base lo fr a.tmps.size tm' w'->K ⟨tm',a.defers⟩ w'):o.wp A.P a w K Q:=by
 have hput:∀u,(⟨(a.put o.dst u).tmps,a.defers⟩:Act)=a.put o.dst u:=λu=>by cases o.dst<;>rfl
 obtain⟨r,w',hrun,hr⟩:=x
 unfold Oper.wp
 rw[hrun]
 rcases hr with⟨u,rfl,hB⟩|⟨rfl,hB⟩
 ·rw[Oper.upon_value,<-hput];exact hK _ _ hB
 ·rw[Oper.upon_skip,<-hput];exact hK _ _ hB
theorem guard_rel{ops:Array Oper}{g g':Option (Nat×Bool)}{b:Bool}(S:SR A pb env φ s a.tmps w lo)(hg:nGuard loc ops g=some g')(hs:wantS s g'=some b)(o:Oper)(ho:o.guard=g):Region.wanted o (yielded ops a.tmps)=b:=by
 unfold Region.wanted
 rw[ho]
 cases g with
 |none=>
  simp only[nGuard,Option.some.injEq]at hg
  subst hg
  simpa [wantS]using hs
 |some jw=>
  obtain⟨j,want⟩:=jw
  simp only[nGuard]at hg
  cases hd:(ops[j]?).bind (·.dst)with
  |none=>simp[hd]at hg
  |some d=>
   simp only[hd]at hg
   injection hg with hg;subst hg
   have e:∀d:Nat,(4*d+(if own loc d then 1 else 0))/4=d:=by intro d;split<;>omega
   simp only[wantS,e d]at hs
   split at hs
   ·rename_i c hc
    injection hs with hs;subst hs
    have hpb:pb.contains d=false:=by
     cases hp:pb.contains d with
     |false=>rfl
     |true=>
      obtain⟨cs,_,_,_,e1,_⟩:=S.box d hp (by rw[hc];simp)
      rw[hc]at e1;cases e1
    have hbx:boxOf env d=none:=by
     cases hb:boxOf env d with
     |none=>rfl
     |some x=>
      obtain⟨_,_,_,_,e1,_⟩:=S.into d x hb (by rw[hc];simp)
      rw[hc]at e1;cases e1
    have:=S.plain d hpb hbx
    rw[hc]at this
    have:=VR.bool_inv this
    have h2:a.tmps[d]?=some (.bool c):=by
     rw[Array.getD_eq_getD_getElem?]at this
     cases h3:a.tmps[d]? with
     |none=>rw[h3]at this;simp[undef]at this
     |some x=>rw[h3]at this;simpa using this
    simp only[yielded,hd,Option.bind_some,h2]
    cases c<;>cases want<;>rfl
   ·rename_i xs hc
    injection hs with hs;subst hs
    have hpb:pb.contains d=false:=by
     cases hp:pb.contains d with
     |false=>rfl
     |true=>
      obtain⟨cs,_,_,_,e1,_⟩:=S.box d hp (by rw[hc];simp)
      rw[hc]at e1;cases e1
    have hbx:boxOf env d=none:=by
     cases hb:boxOf env d with
     |none=>rfl
     |some x=>
      obtain⟨_,_,_,_,e1,_⟩:=S.into d x hb (by rw[hc];simp)
      rw[hc]at e1;cases e1
    have:=S.plain d hpb hbx
    rw[hc]at this
    obtain⟨vs,h1,_⟩:=this
    have h2:yielded ops a.tmps j=none:=by
     unfold yielded
     rw[hd]
     cases h3:a.tmps[d]? with
     |none=>simp[h3]
     |some x=>
      rw[Array.getD_eq_getD_getElem?,h3]at h1
      simp at h1;subst h1
      simp[h3]
    simp only[h2]
    cases want<;>rfl
   ·simp at hs
theorem mark_want{ops:Array Oper}{g g':Option (Nat×Bool)}{d:Nat}(hg:nGuard loc ops g=some g'):wantS s (markG pb env ops d g')=wantS s g':=by
 cases g' with
 |none=>rfl
 |some iw=>
  obtain⟨i,w⟩:=iw
  have hi:(i+2)/4=i/4:=by
   cases g with
   |none=>simp[nGuard]at hg
   |some jw=>
    obtain⟨j,want⟩:=jw
    simp only[nGuard]at hg
    split at hg
    ·injection hg with hg;injection hg with hg;injection hg with hg _
     subst hg
     split<;>omega
    ·cases hg
  simp only[markG]
  split
  ·simp only[wantS,hi]
  ·rfl
theorem mark_skip{ops:Array Oper}{g g':Option (Nat×Bool)}{d:Nat}(hg:nGuard loc ops g=some g'):skipV (markG pb env ops d g')=poison∨skipV (markG pb env ops d g')=.tuple #[]∧pb.contains d=false∧boxOf env d=none:=by
 cases g' with
 |none=>exact .inl rfl
 |some iw=>
  obtain⟨i,w⟩:=iw
  simp only[markG]
  split
  ·rename_i hc
   simp only[Bool.and_eq_true,Bool.not_eq_true',Option.isNone_iff_eq_none]at hc
   simp only[skipV]
   split
   ·exact .inr ⟨rfl,hc.2.1,hc.2.2⟩
   ·exact .inl rfl
  ·left
   simp only[skipV]
   rw[if_neg]
   cases g with
   |none=>simp[nGuard]at hg
   |some jw=>
    obtain⟨j,want⟩:=jw
    simp only[nGuard]at hg
    split at hg
    ·injection hg with hg;injection hg with hg;injection hg with hg _
     subst hg
     split<;>omega
    ·cases hg
/-- THE STEP. -/
theorem step_oper{ops:Array Oper}{i:Nat}{o p p0:Oper}{v:Value}{qz:Heap->Heap->Bool}{call:Caller}{K:Act->World->Prop}{Q:Exit->Act->World->Prop}(hE:EqOk A)(hC:CallOk A base call)(hw:EnvWf pb env)
  (S:SR A pb env φ s a.tmps w lo) (H:HeapR A φ h w base) (hb:base<=lo) (hlo:lo<=w.heap.size) (hφ:∀b,h.length<=b->b<h'.length->φ b=none)
  (hi:ops[i]?=some o) (hn:nOper A loc pb env ops o=some p0) (e1:p.dst=p0.dst) (e2:p.op=p0.op) (e3:p.guard=p0.guard)
  (hside:∀i,o.dst=some i->∀e,boxOf env e=some i->s e=poison) (hd:∀i,o.dst=some i->i<a.tmps.size) (hr:runS qz call s h p=some (v,h'))
  (hK:∀tm' w',Behind A pb env φ (updO s p.dst v) h w h' base lo (slotOnly p.op) a.tmps.size tm' w'->K ⟨tm',a.defers⟩ w'):wpOp A.P ops Q i K a w:=by
 unfold wpOp
 rw[hi]
 simp only
 unfold nOper at hn
 cases hg:nGuard loc ops o.guard with
 |none=>simp[hg]at hn
 |some g=>
  simp only[hg]at hn
  have hmk:wantS s p.guard=wantS s g∧∀d,p.dst=some d->(skipV p.guard=poison∨skipV p.guard=.tuple #[]∧pb.contains d=false∧boxOf env d=none):=by
   rw[e3,e1]
   split at hn
   ·split at hn
    ·simp at hn
    ·split at hn
     ·injection hn with hn;subst hn
      exact⟨mark_want hg,λd hd=>by simp only[op,Option.some.injEq]at hd ⊢;subst hd;exact mark_skip hg⟩
     ·simp at hn
   ·split at hn
    ·split at hn
     ·split at hn
      ·simp at hn
      ·injection hn with hn;subst hn
       exact⟨mark_want hg,λd hd=>by simp only[op,Option.some.injEq]at hd ⊢;subst hd;exact mark_skip hg⟩
     ·injection hn with hn;subst hn
      exact⟨rfl,λd hd=>by simp[opn]at hd⟩
    ·simp at hn
  obtain⟨hpg,hmk⟩:=hmk
  unfold runS at hr
  rw[hpg]at hr
  cases hwt:wantS s g with
  |none=>simp[hwt]at hr
  |some b=>
   have hwanted:=guard_rel (a:=a) S hg hwt o rfl
   rw[hwanted]
   have hput:∀u,(⟨(a.put o.dst u).tmps,a.defers⟩:Act)=a.put o.dst u:=λu=>by cases o.dst<;>rfl
   cases b with
   |false=>
    simp only[hwt,Option.some.injEq,Prod.mk.injEq]at hr
    obtain⟨rfl,rfl⟩:=hr
    simp only[Bool.false_eq_true,if_false]
    have hdst:p.dst=o.dst:=by
     rw[e1]
     split at hn
     ·split at hn
      ·simp at hn
      ·rename_i hcond
       have hsome:g.isSome=true:=by cases g with|none=>simp[wantS]at hwt|some _=>rfl
       simp only[hsome,Bool.true_and,bne_iff_ne,ne_eq,Decidable.not_not]at hcond
       split at hn
       ·injection hn with hn;subst hn;exact hcond
       ·simp at hn
     ·split at hn
      ·split at hn
       ·rename_i hod
        split at hn
        ·simp at hn
        ·injection hn with hn;subst hn;exact hod.symm
       ·rename_i hod
        injection hn with hn;subst hn;exact hod.symm
      ·simp at hn
    rw[hdst]at hK hmk
    have hSd:SR A pb env φ (updO s o.dst (skipV p.guard)) (a.put o.dst undef).tmps w lo:=by
     cases hod:o.dst with
     |none=>exact S
     |some d=>
      rcases hmk d hod with q|⟨q,q1,q2⟩
      ·rw[q];exact S.drop (hd d hod) (hside d hod) hw undef
      ·rw[q];exact S.put (hd d hod) q1 q2 ⟨#[],rfl,trivial⟩
    have:=hK _ w ⟨put_size a o.dst undef,φ,hSd,H,Ext.refl _ _ _ _,.inr (Ext.refl _ _ _ _)⟩
    rw[hput]at this
    exact this
   |true=>
    simp only[hwt]at hr
    simp only[if_true]
    refine .inl ?_
    have hr':(match callOf (evs s) p.op with|some (f,args)=>call f args h|none=>aOp (evs s) h p.op)=some (v,h'):=by
     unfold quietly at hr
     split at hr
     ·rename_i v1 h1 heq
      split at hr
      ·exact Eq.trans heq hr
      ·simp at hr
     ·simp at hr
    rw[e2]at hr' hK
    rw[e1]at hK
    split at hn
    ·rename_i d q hpo
     split at hn
     ·simp at hn
     ·split at hn
      ·rename_i d'
       injection hn with hn;subst hn
       simp only[op]at hr' hK
       rw[nPrivOp_callOf hpo]at hr'
       exact(through_priv (base:=base) hw S H hb hlo hpo hside hd hr').wp hK
      ·simp at hn
    ·split at hn
     ·rename_i q hno
      have hd':∀i,o.dst=some i->i<a.tmps.size∧pb.contains i=false∧boxOf env i=none:=by
       intro i hoi
       rw[hoi]at hn
       simp only at hn
       split at hn
       ·simp at hn
       ·rename_i hcond
        simp only[Bool.or_eq_true,not_or,Bool.not_eq_true,Option.isSome_eq_false_iff,Option.isNone_iff_eq_none]at hcond
        exact⟨hd i hoi,hcond.1,hcond.2⟩
      have hq:p0.op=q∧p0.dst=o.dst:=by
       split at hn
       ·rename_i hod
        split at hn
        ·simp at hn
        ·injection hn with hn;subst hn;exact⟨rfl,hod.symm⟩
       ·rename_i hod
        injection hn with hn;subst hn;exact⟨rfl,hod.symm⟩
      rw[hq.1]at hr' hK
      rw[hq.2]at hK
      cases hcf:callOf (evs s) q with
      |some fa=>
       obtain⟨f,args⟩:=fa
       simp only[hcf]at hr'
       exact call_step hC S H hb hlo hφ hno hd' hcf hr' hK
      |none=>
       simp only[hcf]at hr'
       by_cases hcv:∃fo argso ts,o.op=.call {callee:=.value fo,args:=argso,argTypes:=ts}
       ·obtain⟨fo,argso,ts,hop⟩:=hcv
        rw[hop]at hno
        simp only[nOp]at hno
        split at hno
        ·injection hno with hno;subst hno
         simp[aOp]at hr'
        ·simp at hno
       ·exact(through_plain hE S H hb hlo hφ hno (λf args ts e=>hcv ⟨f,args,ts,e⟩) hd' hr' _).wp hK
     ·simp at hn
end
end Am

/- The slots of a frame: what they hold in 'Am' and in the model; one operation with its slot. -/
import Derived.Test.YtpgioncclmancaaGreatAmStep
set_option linter.unusedVariables false
set_option linter.unusedSimpArgs false
namespace Am
open Go
/-- All slots at once. -/
def comb(loc:List Nat)(σ τ:Nat->Value):Nat->Value:=λi=>if own loc i then τ i else σ i
def evs(s:Nat->Value):Operand->Value
 |.tmp i=>s i
 |.global i=>s i
 |.const v=>v
 |.func f=>.func (.func f) #[] #[]
def updO(s:Nat->Value)(d:Option Nat)(v:Value):Nat->Value:=match d with
 |some i=>upd s i v
 |none=>s
def wantS(s:Nat->Value):Option (Nat×Bool)->Option Bool
 |none=>some true
 |some (i,b)=>match s (i/4)with
  |.bool c=>some (c==b)
  |.tuple _=>some false
  |_=>none
section
variable (qz : Heap -> Heap -> Bool) (call : Caller)
noncomputable def quietly(q:Nat)(ρ:Operand->Value)(h:Heap):Option (Value×Heap)->Option (Value×Heap)
 |some (v,h')=>if okQ qz q ρ h h'=true then some (v,h')else none
 |none=>none
noncomputable def runS(s:Nat->Value)(h:Heap)(p:Oper):Option (Value×Heap):=match wantS s p.guard with
 |none=>none
 |some false=>some (skipV p.guard,h)
 |some true=>quietly qz p.type (evs s) h (match callOf (evs s) p.op with
  |some (f,args)=>call f args h
  |none=>aOp (evs s) h p.op)
noncomputable def runAll:List Oper->(Nat->Value)->Heap->Option ((Nat->Value)×Heap)
 |[],s,h=>some (s,h)
 |p::r,s,h=>match runS qz call s h p with
  |some (v,h')=>runAll r (updO s p.dst v) h'
  |none=>none
end
/-! ### only the operands count -/
section congr
variable {ρ ρ' : Operand -> Value} {h : Heap}
theorem map_snd{ps:List (Nat×Operand)}(hp:∀x∈ps.map (·.2),ρ x=ρ' x):(ps.map λp=>(p.1,ρ p.2))=ps.map λp=>(p.1,ρ' p.2):=
 List.map_congr_left λp hm=>by rw[hp p.2 (List.mem_map.2 ⟨p,hm,rfl⟩)]
theorem callOf_congr{o:Op}(hx:∀x∈o.operands,ρ x=ρ' x):callOf ρ o=callOf ρ' o:=by
 cases o with
 |call c=>
  obtain⟨callee,args,ts⟩:=c
  cases callee with
  |value f=>
   have hf:ρ f=ρ' f:=hx f (by simp[Op.operands,Call.operands])
   have ha:args.toList.map ρ=args.toList.map ρ':=List.map_congr_left λx hm=>hx x (by simp[Op.operands,Call.operands];exact .inr (by simpa using hm))
   simp only[callOf,hf,ha]
  |_=>rfl
 |_=>rfl
theorem aOp_congr{o:Op}(hx:∀x∈o.operands,ρ x=ρ' x):aOp ρ h o=aOp ρ' h o:=by
 cases o with
 |call c=>
  obtain⟨callee,args,ts⟩:=c
  cases callee with
  |builtin b=>
   have ha:args.toList.map ρ=args.toList.map ρ':=List.map_congr_left λx hm=>hx x (by simp[Op.operands,Call.operands];simpa using hm)
   simp only[aOp,ha]
  |_=>rfl
 |makeFunc f first caps=>
  cases f with
  |func g=>
   have ha:caps.toList.map ρ=caps.toList.map ρ':=List.map_congr_left λx hm=>hx x (by simp[Op.operands];exact .inr (by simpa using hm))
   have hb:first.toList.map ρ=first.toList.map ρ':=List.map_congr_left λx hm=>hx x (by simp[Op.operands];exact .inl (by simpa using hm))
   simp only[aOp,ha,hb]
  |_=>rfl
 |build t ps=>
  simp only[aOp]
  rw[map_snd (ρ:=ρ) (ρ':=ρ') λx hm=>hx x (by simp only[Op.operands];simpa using hm)]
 |buildSlice t n ps=>
  simp only[aOp]
  rw[map_snd (ρ:=ρ) (ρ':=ρ') λx hm=>hx x (by simp only[Op.operands];simpa using hm)]
 |slice t x lo hi mx=>
  simp only[Op.operands]at hx
  cases lo<;>cases hi<;>cases mx<;>simp_all [aOp]
 |_=>simp only[Op.operands]at hx<;>first|rfl|(simp_all [aOp];done)
end congr
/-- An operation of which nothing is asked about the blocks. -/
def bare(p:Oper):Oper:={p with type:=0}
theorem runS_bare{qz:Heap->Heap->Bool}{call:Caller}{s:Nat->Value}{h:Heap}{p:Oper}{r:Value×Heap}(hr:runS qz call s h p=some r):runS qz call s h (bare p)=some r:=by
 unfold runS at hr ⊢
 show(match wantS s p.guard with|none=>none|some false=>some (skipV p.guard,h)|some true=>_)=some r
 split at hr
 ·cases hr
 ·exact hr
 ·show quietly qz 0 (evs s) h (match callOf (evs s) p.op with|some (f,args)=>call f args h|none=>aOp (evs s) h p.op)=some r
  unfold quietly at hr ⊢
  split at hr
  ·split at hr
   ·rw[if_pos (by simp[okQ,isQuiet,sideOf])];exact hr
   ·cases hr
  ·cases hr
theorem runS_congr{qz:Heap->Heap->Bool}{call:Caller}{s s':Nat->Value}{h:Heap}{p:Oper}(h0:sideOf p.type=none)(hs:∀t∈readsN p,s t=s' t):runS qz call s h p=runS qz call s' h p:=by
 have hw:wantS s p.guard=wantS s' p.guard:=by
  cases hg:p.guard with
  |none=>rfl
  |some gw=>
   obtain⟨g,b⟩:=gw
   simp only[wantS]
   rw[hs (g/4) (by simp[readsN,hg])]
 have hx:∀x∈p.op.operands,evs s x=evs s' x:=by
  intro x hx
  have hx':x∈p.op.operands.toList:=by simpa using hx
  cases x with
  |tmp t=>exact hs t (List.mem_append_left _ (List.mem_filterMap.2 ⟨.tmp t,hx',rfl⟩))
  |global t=>exact hs t (List.mem_append_left _ (List.mem_filterMap.2 ⟨.global t,hx',rfl⟩))
  |_=>rfl
 have hq:∀h h',okQ qz p.type (evs s) h h'=okQ qz p.type (evs s') h h':=by
  intro h h'
  unfold okQ
  rw[h0]
 have hqq:∀r,quietly qz p.type (evs s) h r=quietly qz p.type (evs s') h r:=by
  intro r
  cases r with
  |none=>rfl
  |some vh=>simp only[quietly,hq]
 unfold runS
 rw[hw,callOf_congr hx,aOp_congr hx,hqq]
section step
variable {qz : Heap -> Heap -> Bool} {call : Caller} {loc : List Nat}
theorem ev_evs{σ τ:Nat->Value}{p:Oper}(hw:wfOper loc p=true):∀x∈p.op.operands,ev σ τ x=evs (comb loc σ τ) x:=by
 intro x hx
 simp only[wfOper,Bool.and_eq_true,List.all_eq_true]at hw
 have:=hw.1.1.1 x (by simpa using hx)
 cases x with
 |tmp t=>simp at this;simp[ev,evs,comb,this]
 |global t=>simp only at this;simp[ev,evs,comb,this]
 |_=>rfl
theorem comb_put{σ τ:Nat->Value}{d:Nat}{v:Value}{q:Nat}{h h':Heap}(hq:(isOwn q==own loc d)=true)(s:St)(hs:s=St.put ⟨σ,τ,h⟩ q (some d) v h'):comb loc s.σ s.τ=upd (comb loc σ τ) d v:=by
 subst hs
 have hq':isOwn q=own loc d:=by simpa using hq
 funext i
 unfold comb
 simp only[St.put,upd,hq']
 by_cases hid:i=d
 ·subst hid
  cases ho:own loc i<;>simp[ho,upd]
 ·cases ho:own loc i<;>cases hd:own loc d<;>simp[hid,upd]
theorem stepA_runS{σ τ:Nat->Value}{h:Heap}{p:Oper}{st:St}(hw:wfOper loc p=true)(hs:stepA qz call p ⟨σ,τ,h⟩=some st):
  ∃v,runS qz call (comb loc σ τ) h p=some (v,st.h)∧comb loc st.σ st.τ=updO (comb loc σ τ) p.dst v:=by
 have hop:=ev_evs (σ:=σ) (τ:=τ) hw
 have hw':=hw
 simp only[wfOper,Bool.and_eq_true]at hw'
 have hwant:wantedA ⟨σ,τ,h⟩ p.guard=wantS (comb loc σ τ) p.guard:=by
  cases hg:p.guard with
  |none=>rfl
  |some gw=>
   obtain⟨g,b⟩:=gw
   have h2:=hw'.1.1.2
   simp only[hg]at h2
   have h2':(g%2==1)=own loc (g/4):=by simpa using h2
   simp only[wantedA,wantS]
   by_cases hgm:g%2=1
   ·have:own loc (g/4)=true:=by rw[<-h2'];simp[hgm]
    simp[hgm,ev,comb,this]
    rfl
   ·have:own loc (g/4)=false:=by rw[<-h2'];simp[hgm]
    simp[hgm,ev,comb,this]
    rfl
 have hput:∀v h',comb loc (St.put ⟨σ,τ,h⟩ p.type p.dst v h').σ (St.put ⟨σ,τ,h⟩ p.type p.dst v h').τ=updO (comb loc σ τ) p.dst v:=by
  intro v h'
  cases hd:p.dst with
  |none=>rfl
  |some d=>
   have h3:=hw'.1.2
   simp only[hd]at h3
   exact comb_put (h:=h) (h':=h') h3 _ (by cases ho:isOwn p.type<;>simp[St.put,ho])
 have hph:∀v h',(St.put ⟨σ,τ,h⟩ p.type p.dst v h').h=h':=by
  intro v h'
  cases hd:p.dst with
  |none=>rfl
  |some d=>cases ho:isOwn p.type<;>simp[St.put,ho]
 have hokq:∀h',okQ qz p.type (ev σ τ) h h'=okQ qz p.type (evs (comb loc σ τ)) h h':=by
  intro h'
  unfold okQ
  cases hd:sideOf p.type with
  |none=>rfl
  |some x=>
   have h4:=hw'.2
   simp only[hd]at h4
   have:ev σ τ x=evs (comb loc σ τ) x:=by
    cases x with
    |tmp t=>simp at h4;simp[ev,evs,comb,h4]
    |global t=>simp only at h4;simp[ev,evs,comb,h4]
    |_=>rfl
   simp only[this]
 unfold stepA at hs
 simp only[hokq]at hs
 rw[hwant]at hs
 unfold runS
 cases hg:wantS (comb loc σ τ) p.guard with
 |none=>simp[hg]at hs
 |some b=>
  cases b with
  |false=>
   simp only[hg,Option.some.injEq]at hs
   subst hs
   exact⟨skipV p.guard,by simp only[hph],hput _ _⟩
  |true=>
   simp only[hg]at hs ⊢
   rw[callOf_congr hop]at hs
   cases hc:callOf (evs (comb loc σ τ)) p.op with
   |some fa=>
    obtain⟨f,args⟩:=fa
    simp only[hc]at hs ⊢
    cases hr:call f args h with
    |none=>simp[hr]at hs
    |some r=>
     obtain⟨v,h'⟩:=r
     simp only[hr]at hs
     split at hs
     ·rename_i hq
      injection hs with hs
      subst hs
      exact⟨v,by simp only[quietly,hph];rw[if_pos hq],hput _ _⟩
     ·simp at hs
   |none=>
    simp only[hc]at hs ⊢
    rw[aOp_congr hop]at hs
    cases hr:aOp (evs (comb loc σ τ)) h p.op with
    |none=>simp[hr]at hs
    |some r=>
     obtain⟨v,h'⟩:=r
     simp only[hr]at hs
     split at hs
     ·rename_i hq
      injection hs with hs
      subst hs
      exact⟨v,by simp only[quietly,hph];rw[if_pos hq],hput _ _⟩
     ·simp at hs
theorem execOps_runAll:∀{l:List Oper} {σ τ:Nat->Value} {h:Heap} {st:St},l.all (wfOper loc)=true->execOps qz call l ⟨σ,τ,h⟩=some st->runAll qz call l (comb loc σ τ) h=some (comb loc st.σ st.τ,st.h)
 |[],σ,τ,h,st,_,hs=>by simp only[execOps,Option.some.injEq]at hs;subst hs;rfl
 |p::r,σ,τ,h,st,hw,hs=>by
  simp only[List.all_cons,Bool.and_eq_true]at hw
  simp only[execOps]at hs
  cases h1:stepA qz call p ⟨σ,τ,h⟩with
  |none=>simp[h1]at hs
  |some s1=>
   simp only[h1]at hs
   obtain⟨v,hv,hc⟩:=stepA_runS hw.1 h1
   simp only[runAll,hv]
   rw[<-hc]
   exact execOps_runAll (σ:=s1.σ) (τ:=s1.τ) hw.2 hs
end step
end Am

/- From code to functions: what a call gets in 'Am', it gets in the model. -/
import Derived.Test.YtpgioncclmancaaGreatAmSim
import Derived.Laws.Sem
set_option linter.unusedVariables false
set_option linter.unusedSimpArgs false
namespace Am
open Go
section
variable {A : Seat} {loc pb : List Nat} {base lo : Nat}
theorem VR.solid{φ:Phi}{x u:Value}(hs:solid x=true)(h:VR A φ x u):VR1 A φ x u:=by
 cases x<;>first|exact h|simp[Am.solid,scalar]at hs
theorem resOne_rel{φ:Phi}{σ:Nat->Value}{h:Heap}{tm:Array Value}{w:World}{rv:ResultVar}{p:Nat×Nat}{v:Value}(S:SR A pb [] φ (comb loc σ nothing) tm w lo)(H:HeapR A φ h w base)(hpb:∀a,pb.contains a=true->own loc a=false)
  (hn:nRes A loc pb [rv]=some [p]) (hr:resOne σ h p=some v):
  ∃u,((match rv with|.tmp t=>pure (tm.getD t undef)|.cell a t=>do loadVar t (<-asAddr (tm.getD a undef))):Sem Value).run A.P w=.ok u w∧VR A φ v u:=by
 cases rv with
 |tmp t=>
  simp only[nRes]at hn
  split at hn
  ·simp at hn
  ·rename_i hc
   simp only[Bool.or_eq_true,not_or,Bool.not_eq_true]at hc
   simp at hn;subst hn
   simp only[resOne,if_true,Option.some.injEq]at hr
   subst hr
   have:=S.plain t hc.2 rfl
   rw[comb_kept hc.1]at this
   exact⟨tm.getD t undef,rfl,this⟩
 |cell a t=>
  simp only[nRes]at hn
  split at hn
  ·simp at hn
  ·rename_i ho
   have ho:own loc a=false:=by simpa using ho
   split at hn
   ·rename_i n hs
    split at hn
    ·rename_i hn1
     simp only[nRes,Option.map_some,Option.some.injEq,List.cons.injEq,and_true]at hn;subst hn
     unfold resOne at hr
     by_cases hp:pb.contains a=true
     ·simp only[hp,if_true]at hr
      rw[if_neg (by omega),if_pos (by omega)]at hr
      have e1:1000000+(if aggT A t=true then n+1 else 0)-1000000=(if aggT A t=true then n+1 else 0):=by omega
      rw[e1]at hr
      have hne:comb loc σ nothing a≠poison:=by
       rw[comb_kept ho]
       intro e;rw[e]at hr;simp[aField]at hr
      obtain⟨cs,g,cur,ty,b1,b2,b3,b4,b5,b6⟩:=S.box a hp hne
      rw[comb_kept ho]at b1
      rw[b1]at hr
      obtain⟨u,hrun,hu⟩:=load_priv hs b4 b5 hr
      exact⟨u,by simp[b2,asAddr,hrun],hu⟩
     ·have hp':pb.contains a=false:=by simpa using hp
      simp only[hp',Bool.false_eq_true,if_false]at hr
      have hlt:(if aggT A t=true then n+1 else 0)<1001:=by split<;>omega
      rw[if_neg (by omega),if_neg (by omega)]at hr
      have hpl:=S.plain a hp' rfl
      rw[comb_kept ho]at hpl
      split at hr
      ·rename_i ad hσ
       rw[hσ]at hpl
       obtain⟨hsp,l,hl,hu⟩:=VR.pointer_inv hpl
       have hv:aLoad (if aggT A t then n+1 else 0) h (pt ad.block ad.off)=some v:=by
        unfold aLoad
        by_cases hag:aggT A t=true
        ·simp only[hag,if_true]at hr ⊢
         rw[if_neg (by omega)]at hr ⊢
         have e2:1+(n+1)-2=n+1-1:=by omega
         rw[e2]at hr
         exact hr
        ·simp only[hag,Bool.false_eq_true,if_false,if_true]at hr ⊢
         simpa using hr
       obtain⟨u,hrun,hu'⟩:=loadVar_sim H hs hl hv
       exact⟨u,by simp[hu,asAddr,hrun],hu'⟩
      ·simp at hr
    ·simp at hn
   ·simp at hn
def resVal(tm:Array Value):ResultVar->Sem Value
 |.tmp t=>pure (tm.getD t undef)
 |.cell a t=>do loadVar t (<-asAddr (tm.getD a undef))
theorem resAll_rel{φ:Phi}{σ:Nat->Value}{h:Heap}{tm:Array Value}{w:World}(S:SR A pb [] φ (comb loc σ nothing) tm w lo)(H:HeapR A φ h w base)(hpb:∀a,pb.contains a=true->own loc a=false):
  ∀{rvs:List ResultVar} {ps:List (Nat×Nat)} {vs:List Value},nRes A loc pb rvs=some ps->resAll σ h ps=some vs->∃us,(rvs.mapM (resVal tm)).run A.P w=.ok us w∧All2 (VR A φ) vs us
 |[],ps,vs,hn,hr=>by
  simp[nRes]at hn;subst hn
  simp[resAll]at hr;subst hr
  exact⟨[],by simp,trivial⟩
 |rv::r,ps,vs,hn,hr=>by
  have key:∃p ps',ps=p::ps'∧nRes A loc pb [rv]=some [p]∧nRes A loc pb r=some ps':=by
   cases rv with
   |tmp t=>
    simp only[nRes]at hn
    split at hn
    ·simp at hn
    ·rename_i hc
     simp only[Option.map_eq_some_iff]at hn
     obtain⟨ps',h1,rfl⟩:=hn
     exact⟨_,ps',rfl,by simp only[nRes];rw[if_neg hc];rfl,h1⟩
   |cell a t=>
    simp only[nRes]at hn
    split at hn
    ·simp at hn
    ·rename_i hc
     split at hn
     ·rename_i n hs
      split at hn
      ·rename_i hlt
       simp only[Option.map_eq_some_iff]at hn
       obtain⟨ps',h1,rfl⟩:=hn
       exact⟨_,ps',rfl,by simp only[nRes];rw[if_neg hc];simp only[hs];rw[if_pos hlt];rfl,h1⟩
      ·simp at hn
     ·simp at hn
  obtain⟨p,ps',rfl,h1,h2⟩:=key
  simp only[resAll]at hr
  split at hr
  ·rename_i v vs' hv hvs
   injection hr with hr;subst hr
   obtain⟨u,hu,hur⟩:=resOne_rel S H hpb h1 hv
   obtain⟨us,hus,husr⟩:=resAll_rel S H hpb h2 hvs
   refine⟨u::us,?_,hur,husr⟩
   have hu':(resVal tm rv).run A.P w=.ok u w:=by cases rv<;>exact hu
   simp[List.mapM_cons,hu',hus]
  ·simp at hr
theorem results_rel{φ:Phi}{σ:Nat->Value}{h:Heap}{tm:Array Value}{w:World}{F:Func}{ps:List (Nat×Nat)}{v:Value}(S:SR A pb [] φ (comb loc σ nothing) tm w lo)(H:HeapR A φ h w base)(hpb:∀a,pb.contains a=true->own loc a=false)
  (hn:nRes A loc pb F.results.toList=some ps) (hr:resOf σ h ps=some v):∃u,(results F tm).run A.P w=.ok u w∧VR A φ v u:=by
 unfold resOf at hr
 have key:∀vs,resAll σ h ps=some vs->∃us,(results F tm).run A.P w=.ok (if h:us.toArray.size=1 then us.toArray[0]else .tuple us.toArray) w∧All2 (VR A φ) vs us:=by
  intro vs hvs
  obtain⟨us,h1,h2⟩:=resAll_rel S H hpb hn hvs
  refine⟨us,?_,h2⟩
  have e:results F tm=(F.results.mapM (resVal tm) >>= λvs=>pure (if h:vs.size=1 then vs[0]else .tuple vs)):=by
   unfold results
   congr 1
  rw[e,Array.mapM_eq_mapM_toList]
  simp only[Sem.run_bind,h1,Sem.run_pure,Result.andThen_ok,map_eq_pure_bind]
 split at hr
 ·rename_i v' hvs
  injection hr with hr;subst hr
  obtain⟨us,h1,h2⟩:=key _ hvs
  obtain⟨u,rfl,hu⟩:=one_of h2
  exact⟨u,by simpa using h1,hu⟩
 ·rename_i vs hne hvs
  split at hr
  ·rename_i hall
   injection hr with hr;subst hr
   obtain⟨us,h1,h2⟩:=key _ hvs
   have hl:=h2.length
   have hsz:us.toArray.size≠1:=by
    intro e
    have:vs.length=1:=by rw[hl];simpa using e
    obtain⟨x,hx⟩:=List.length_eq_one_iff.1 this
    subst hx
    exact hne x rfl
   refine⟨.tuple us.toArray,?_,us.toArray,rfl,?_⟩
   ·rw[h1,dif_neg hsz]
   ·refine All2.of_get (by simpa using hl) λi a b ha hb=>?_
    obtain⟨c,hc,hr⟩:=h2.get i a ha
    rw[show us.toArray.toList=us from rfl,hc]at hb;injection hb with hb;subst hb
    exact VR.solid (List.all_eq_true.1 hall a (List.mem_of_getElem? ha)) hr
  ·simp at hr
 ·simp at hr
end
/-- A function that is not taken from its text, but shown to do what a primitive of 'Am' does. -/
def PrimOk(A:Seat)(base:Nat)(g:Nat)(F:AFun):Prop:=∃p,primOf F.code=some p∧(∀args h v h',p args h=some (v,h')->h.length<=h'.length)∧∀(args:List Value) (h:Heap) (v:Value) (h':Heap) (φ:Phi) (w:World) (us:List Value),args.length=F.ar->p args h=some (v,h')->
 HeapR A φ h w base->base<=w.heap.size->(∀b,h.length<=b->b<h'.length->φ b=none)->All2 (VR A φ) args us->
 (callFunc g us.toArray).run A.P w=.ok (.enter g us.toArray) w∧
  Calls A.P g us.toArray w λe w'=>∃u φ',e=.returned u∧VR A φ' v u∧HeapR A φ' h' w' base∧Ext w.heap.size φ h w φ' h' w'
theorem primInsert_len{z:Nat}{args:List Value}{h h':Heap}{v:Value}(x:primInsert z args h=some (v,h')):h.length<=h'.length:=by
 unfold primInsert at x
 split at x
 ·split at x
  ·split at x
   ·cases x
   ·split at x
    ·injection x with x;injection x with _ x;subst x;simp
    ·split at x
     ·split at x
      ·split at x
       ·injection x with x;injection x with _ x;subst x;simp
       ·cases x
      ·cases x
     ·cases x
  ·cases x
 ·cases x
theorem primDelete_len{z:Nat}{args:List Value}{h h':Heap}{v:Value}(x:primDelete z args h=some (v,h')):h.length<=h'.length:=by
 unfold primDelete at x
 split at x
 ·split at x
  ·cases x
  ·split at x
   ·split at x
    ·split at x
     ·injection x with x;injection x with _ x;subst x;simp
     ·cases x
    ·cases x
   ·cases x
 ·cases x
theorem primOf_len{c:Code}{p:List Value->Heap->Option (Value×Heap)}(hp:primOf c=some p){args:List Value}{h h':Heap}{v:Value}(x:p args h=some (v,h')):h.length<=h'.length:=by
 unfold primOf at hp
 split at hp
 ·split at hp
  ·injection hp with hp;subst hp;exact primInsert_len x
  ·injection hp with hp;subst hp;exact primDelete_len x
 ·cases hp
theorem nCode_no_prim{A:Seat}{loc pb:List Nat}{c c':Code}(h:nCode A loc pb c=some c'):primOf c'=none:=by
 cases hp:primOf c' with
 |none=>rfl
 |some p=>
  exfalso
  unfold primOf at hp
  split at hp
  ·rename_i k
   cases c<;>simp only[nCode]at h<;>(try cases h)
   all_goals (first|(simp only[Option.map_eq_some_iff]at h;obtain⟨_,_,h⟩:=h;cases h)|(split at h<;>cases h))
  ·cases hp
theorem nFun_no_prim{A:Seat}{loc pb:List Nat}{fn:Func}{F:AFun}(h:nFun A loc pb fn=some F):primOf F.code=none:=by
 unfold nFun at h
 split at h
 ·split at h
  ·rename_i hc _
   split at h
   ·injection h with h;subst h
    exact nCode_no_prim hc
   ·simp at h
  ·simp at h
 ·simp at h
/-- The functions that 'Γ' names are the program's. -/
def Link(A:Seat)(base:Nat)(Γ:Nat->Option AFun):Prop:=∀f F g,Γ f=some F->nFn A g=some f->(∃fn loc pb,A.P.funcs[g]?=some fn∧nFun A loc pb fn=some F)∨PrimOk A base g F
section
variable {A : Seat} {base : Nat} {Γ : Nat -> Option AFun}
theorem callN_len:∀n,CallLen (callN qzP Γ n)
 |0=>λf a h v h' hx=>by simp[callN]at hx
 |n+1=>λf a h v h' hx=>by
  simp only[callN]at hx
  split at hx
  ·simp at hx
  ·split at hx
   ·rename_i hpr
    split at hx
    ·exact primOf_len hpr hx
    ·simp at hx
   ·split at hx
    ·split at hx
     ·rename_i r hr
      split at hx
      ·simp only[Option.map_eq_some_iff]at hx
       obtain⟨u,_,hx⟩:=hx
       injection hx with _ hx;subst hx
       exact exec_len (callN_len n) _ _ _ _ hr
      ·simp at hx
     ·simp at hx
    ·simp at hx
theorem fun_sim{n:Nat}{call:Caller}{loc pb:List Nat}{fn:Func}{F:AFun}{g:Nat}{args:List Value}{h:Heap}{r:Out}{v:Value}{φ:Phi}{w:World}{us:List Value}(hmix:A.P.follows .mixedOrders=true)(hE:EqOk A)(hC:CallOk A base call)(hL:CallLen call)
  (hf:A.P.funcs[g]?=some fn) (hn:nFun A loc pb fn=some F) (hlen:args.length=F.ar) (hx:exec qzP call n F.code (init args) h=some r) (he:r.e<=1) (hv:resOf r.σ r.h F.res=some v)
  (H:HeapR A φ h w base) (hb:base<=w.heap.size) (hφ:∀b,h.length<=b->b<r.h.length->φ b=none) (hargs:All2 (VR A φ) args us):
  (callFunc g us.toArray).run A.P w=.ok (.enter g us.toArray) w∧Calls A.P g us.toArray w λe w'=>∃u φ',e=.returned u∧VR A φ' v u∧HeapR A φ' r.h w' base∧Ext w.heap.size φ h w φ' r.h w':=by
 unfold nFun at hn
 split at hn
 ·rename_i c hbody
  split at hn
  ·rename_i c' ps hc hps
   split at hn
   ·rename_i hchk
    injection hn with hn;subst hn
    simp only[Bool.and_eq_true,List.all_eq_true,bne_iff_ne,ne_eq,hbody,Option.map_some,Option.getD_some]at hchk
    obtain⟨⟨⟨hk1,hk2⟩,hk3⟩,hk4⟩:=hchk
    have hpb:∀a,pb.contains a=true->own loc a=false:=λa ha=>by
     have:=hk2 a (by simpa using ha)
     simpa using this
    have hal:=hargs.length
    constructor
    ·have hnr:(fn.name== "runtime.NumGoroutine")=false:=by simpa using hk3
     simp[callFunc,hf,show fn.name≠ "runtime.NumGoroutine" from hk3,hbody]
    ·refine calls_of_wp hf hbody ?_
     have hsz:(us.toArray++Array.replicate (fn.ntmps-us.toArray.size) undef).size=(us.toArray++Array.replicate (fn.ntmps-us.toArray.size) undef).size:=rfl
     have hm:fn.ntmps<=(us.toArray++Array.replicate (fn.ntmps-us.toArray.size) undef).size:=by simp;omega
     have hdst:∀(m:Nat) (c:Code),fn.ntmps<=m->dstOk fn.ntmps c=true->dstOk m c=true:=by
      intro m c hm
      induction c with
      |region id ops draw=>
       intro hd
       simp only[dstOk,List.all_eq_true]at hd ⊢
       intro o ho
       have:=hd o ho
       split at this
       ·simp only[decide_eq_true_eq]at this ⊢;exact Nat.lt_of_lt_of_le this hm
       ·rfl
      |seq a b iha ihb=>intro hd;simp only[dstOk,Bool.and_eq_true]at hd ⊢;exact⟨iha hd.1,ihb hd.2⟩
      |cond x a b iha ihb=>intro hd;simp only[dstOk,Bool.and_eq_true]at hd ⊢;exact⟨iha hd.1,ihb hd.2⟩
      |block id c ih=>intro hd;simp only[dstOk]at hd ⊢;exact ih hd
      |loop c ih=>intro hd;simp only[dstOk]at hd ⊢;exact ih hd
      |_=>intro _;rfl
     have hlow:∀i,i<args.length->own loc i=false∧pb.contains i=false:=by
      intro i hi
      have:=hk1 i (List.mem_range.2 (by have hlen':args.length=fn.params.size+fn.nfree:=hlen;omega))
      simpa using this
     have S0:SR A pb [] φ (comb loc (init args) nothing) (us.toArray++Array.replicate (fn.ntmps-us.toArray.size) undef) w w.heap.size:=by
      have hpz:∀i,args.length<=i->comb loc (init args) nothing i=poison:=by
       intro i hi
       cases ho:own loc i with
       |true=>exact comb_nothing ho
       |false=>
        rw[comb_kept ho]
        simp[init,List.getElem?_eq_none hi]
      refine⟨λt h1 _=>?_,λa ha hp=>?_,λa a' g ha _ hp=>?_,λd a hd=>by simp[boxOf]at hd⟩
      ·by_cases ht:t<args.length
       ·rw[comb_kept (hlow t ht).1]
        have hx:=List.getElem?_eq_getElem ht
        obtain⟨u,hu,hr⟩:=hargs.get t _ hx
        have hi:init args t=args[t]:=by simp[init,hx]
        have ht':t<us.length:=by omega
        have hu':(us.toArray++Array.replicate (fn.ntmps-us.toArray.size) undef).getD t undef=u:=by
         rw[Array.getD_eq_getD_getElem?,Array.getElem?_append_left (by simpa using ht')]
         simp[hu]
        rw[hi,hu']
        exact hr
       ·rw[hpz t (by omega)];exact VR.poison
      ·exfalso
       by_cases ht:a<args.length
       ·rw[(hlow a ht).2]at ha;cases ha
       ·exact hp (hpz a (by omega))
      ·exfalso
       by_cases ht:a<args.length
       ·rw[(hlow a ht).2]at ha;cases ha
       ·exact hp (hpz a (by omega))
     have hsim:=code_sim (lo:=w.heap.size) (m:=(us.toArray++Array.replicate (fn.ntmps-us.toArray.size) undef).size) hmix hE hC hL hpb hb c c' hc (hdst _ c hm hk4) (init args) h r hx _ [] w φ (Nat.le_refl _) rfl S0 H hφ
     refine wp_mono hsim λe a w' hdone=>?_
     obtain⟨hend,hds,_,φ',S',H',X'⟩:=hdone
     obtain⟨u,hu,hur⟩:=results_rel S' H' hpb hps hv
     cases e with
     |normal=>exact⟨hds,u,hu,u,φ',rfl,hur,H',X'⟩
     |ret=>exact⟨hds,u,hu,u,φ',rfl,hur,H',X'⟩
     |exit id=>simp only[ends]at hend;omega
     |_=>exact hend.elim
   ·simp at hn
  ·simp at hn
 ·simp at hn
/-- THE SIMULATION. -/
theorem callN_ok(hmix:A.P.follows .mixedOrders=true)(hE:EqOk A)(hlink:Link A base Γ):∀n,CallOk A base (callN qzP Γ n)
 |0=>λf args h v h' g φ w us hx=>by simp[callN]at hx
 |n+1=>λf args h v h' g φ w us hx hg H hb hφ hargs=>by
  simp only[callN]at hx
  split at hx
  ·simp at hx
  ·rename_i F hF
   split at hx
   ·rename_i p hpr
    split at hx
    ·rename_i hlen
     rcases hlink f F g hF hg with⟨fn,loc,pb,hfn,hnf⟩|⟨q,hq,_,hprim⟩
     ·rw[nFun_no_prim hnf]at hpr;cases hpr
     ·rw[hpr]at hq;injection hq with hq;subst hq
      exact hprim args h v h' φ w us hlen hx H hb hφ hargs
    ·simp at hx
   ·rename_i hpr
    split at hx
    ·rename_i hlen
     split at hx
     ·rename_i r hr
      split at hx
      ·rename_i he
       simp only[Option.map_eq_some_iff]at hx
       obtain⟨u,hu,hx⟩:=hx
       injection hx with e1 e2;subst e1;subst e2
       rcases hlink f F g hF hg with⟨fn,loc,pb,hfn,hnf⟩|⟨q,hq,_⟩
       ·exact fun_sim hmix hE (callN_ok hmix hE hlink n) (callN_len n) hfn hnf hlen hr he hu H hb hφ hargs
       ·rw[hpr]at hq;cases hq
      ·simp at hx
     ·simp at hx
    ·simp at hx
theorem ACall_sim{f g:Nat}{args us:List Value}{h:Heap}{R:Value->Heap->Prop}{φ:Phi}{w:World}(hmix:A.P.follows .mixedOrders=true)(hE:EqOk A)(hlink:Link A base Γ)(hg:nFn A g=some f)(x:ACall Γ f args h R)(H:HeapR A φ h w base)(hb:base<=w.heap.size)
  (hφ:∀b,h.length<=b->φ b=none) (hargs:All2 (VR A φ) args us):
  Calls A.P g us.toArray w λe w'=>∃u φ' v h',R v h'∧e=.returned u∧VR A φ' v u∧HeapR A φ' h' w' base∧Ext w.heap.size φ h w φ' h' w':=by
 obtain⟨n,v,h',hc,hR⟩:=x
 refine Calls.mono (callN_ok hmix hE hlink n f args h v h' g φ w us hc hg H hb (λb h1 _=>hφ b h1) hargs).2 ?_
 rintro e w'⟨u,φ',h1,h2,h3,h4⟩
 exact⟨u,φ',v,h',hR,h1,h2,h3,h4⟩
end
end Am

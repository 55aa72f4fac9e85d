/- A region whose order is open: what stands before what; what 'Am' leaves does not hang on when an operation runs. -/
import Derived.Test.YtpgioncclmancaaGreatAmStepAll
set_option linter.unusedVariables false
set_option linter.unusedSimpArgs false
namespace Am
open Go
section before
def befStep(acc:Array Nat)(o:Oper):Nat:=o.after.foldl (λs e=>if Region.binds .any e then s ||| 2^e.on ||| acc.getD e.on 0 else s) 0
def befL(l:List Oper):Array Nat:=l.foldl (λacc o=>acc.push (befStep acc o)) #[]
theorem before_befL(ops:Array Oper):Region.before ops=befL ops.toList:=by
 unfold Region.before befL
 rw[<-Array.foldl_toList]
 rfl
theorem befL_append(l:List Oper)(o:Oper):befL (l++[o])=(befL l).push (befStep (befL l) o):=by simp[befL]
theorem befL_size:∀l:List Oper,(befL l).size=l.length:=by
 intro l
 generalize hn:l.length=n
 induction n generalizing l with
 |zero=>have:l=[]:=List.eq_nil_of_length_eq_zero hn;subst this;rfl
 |succ n ih=>
  obtain⟨l',o,rfl⟩:∃l' o,l=l'++[o]:=⟨l.dropLast,l.getLast (by intro e;subst e;simp at hn),(List.dropLast_concat_getLast _).symm⟩
  simp at hn
  rw[befL_append];simp[ih l' hn,hn]
theorem push_lt{a:Array Nat}{x j:Nat}(h:j<a.size):(a.push x).getD j 0=a.getD j 0:=by
 rw[Array.getD_eq_getD_getElem?,Array.getD_eq_getD_getElem?,Array.getElem?_push,if_neg (by omega)]
theorem push_eq{a:Array Nat}{x j:Nat}(h:a.size=j):(a.push x).getD j 0=x:=by
 rw[Array.getD_eq_getD_getElem?,Array.getElem?_push,if_pos (by omega)];rfl
theorem befL_take:∀(l:List Oper) (m j:Nat),j<m->m<=l.length->(befL l).getD j 0=(befL (l.take m)).getD j 0:=by
 intro l
 generalize hn:l.length=n
 induction n generalizing l with
 |zero=>intro m j h1 h2;omega
 |succ n ih=>
  intro m j h1 h2
  obtain⟨l',o,rfl⟩:∃l' o,l=l'++[o]:=⟨l.dropLast,l.getLast (by intro e;subst e;simp at hn),(List.dropLast_concat_getLast _).symm⟩
  simp at hn
  by_cases hm:m=n+1
  ·rw[List.take_of_length_le (by simp;omega)]
  ·rw[List.take_append_of_le_length (by omega),<-ih l' hn m j h1 (by omega),befL_append]
   exact push_lt (by rw[befL_size];omega)
theorem befStep_bit{acc:Array Nat}{o:Oper}{i:Nat}(h:(befStep acc o).testBit i=true):∃e∈o.after,Region.binds .any e=true∧(e.on=i∨(acc.getD e.on 0).testBit i=true):=by
 unfold befStep at h
 rw[<-Array.foldl_toList]at h
 have key:∀(l:List Edge) (s:Nat),(l.foldl (λs e=>if Region.binds .any e then s ||| 2^e.on ||| acc.getD e.on 0 else s) s).testBit i=true->
   s.testBit i=true∨∃e∈l,Region.binds .any e=true∧(e.on=i∨(acc.getD e.on 0).testBit i=true):=by
  intro l
  induction l with
  |nil=>intro s h;exact .inl h
  |cons e l ih=>
   intro s h
   rw[List.foldl_cons]at h
   rcases ih _ h with h|⟨e',he',h⟩
   ·by_cases hb:Region.binds .any e=true
    ·rw[if_pos hb,Nat.testBit_or,Nat.testBit_or,Bool.or_eq_true,Bool.or_eq_true]at h
     rcases h with(h|h)|h
     ·exact .inl h
     ·exact .inr ⟨e,by simp,hb,.inl (by rw[Nat.testBit_two_pow]at h;simpa using h)⟩
     ·exact .inr ⟨e,by simp,hb,.inr h⟩
    ·rw[if_neg hb]at h;exact .inl h
   ·exact .inr ⟨e',by simp[he'],h⟩
 rcases key _ 0 h with h|⟨e,he,h⟩
 ·simp at h
 ·exact⟨e,by simpa using he,h⟩
theorem before_bit{ops:Array Oper}{i j:Nat}{o:Oper}(hj:ops[j]?=some o)(he:edgesOk ops=true)(h:((Region.before ops).getD j 0).testBit i=true):
  ∃e∈o.after,Region.binds .any e=true∧e.on<j∧(e.on=i∨((Region.before ops).getD e.on 0).testBit i=true):=by
 have hlt:j<ops.size:=(Array.getElem?_eq_some_iff.1 hj).1
 have hjl:ops.toList[j]?=some o:=by simpa using hj
 rw[before_befL]at h ⊢
 rw[befL_take ops.toList (j+1) j (by omega) (by simp;omega)]at h
 have ht:ops.toList.take (j+1)=ops.toList.take j++[o]:=by rw[List.take_add_one,hjl];rfl
 rw[ht,befL_append]at h
 have hsz:(befL (ops.toList.take j)).size=j:=by rw[befL_size];simp;omega
 have hget:((befL (ops.toList.take j)).push (befStep (befL (ops.toList.take j)) o)).getD j 0=befStep (befL (ops.toList.take j)) o:=push_eq hsz
 rw[hget]at h
 obtain⟨e,he',hb,hor⟩:=befStep_bit h
 have hon:e.on<j:=by
  unfold edgesOk at he
  simp only[List.all_eq_true,List.mem_range]at he
  have:=he j hlt
  simp only[hj,List.all_eq_true]at this
  have:=this e (by simpa using he')
  simpa [hb]using this
 refine⟨e,he',hb,hon,hor.imp id λhh=>?_⟩
 rw[befL_take ops.toList j e.on hon (by simp;omega)]
 exact hh
/-- What stands before an operation whose edges are met has been met. -/
theorem before_listed{ops:Array Oper}{D:Nat->Prop}(he:edgesOk ops=true)(hD:∀j o,ops[j]?=some o->D j->∀e∈o.after,Region.binds .any e=true->D e.on):
  ∀(j i:Nat) (o:Oper),ops[j]?=some o->(∀e∈o.after,Region.binds .any e=true->D e.on)->((Region.before ops).getD j 0).testBit i=true->D i:=by
 intro j
 induction j using Nat.strongRecOn with
 |_ j ih=>
  intro i o hj hall h
  obtain⟨e,he',hb,hon,hor⟩:=before_bit hj he h
  have hde:=hall e he' hb
  rcases hor with rfl|hor
  ·exact hde
  ·have hlt:e.on<ops.size:=Nat.lt_trans hon (Array.getElem?_eq_some_iff.1 hj).1
   exact ih e.on hon i ops[e.on] (Array.getElem?_eq_getElem hlt) (hD e.on _ (Array.getElem?_eq_getElem hlt) hde) hor
end before
section free
variable {ρ : Operand -> Value} {h h' : Heap} {v : Value}
theorem slotOnly_call{o:Op}(hs:slotOnly o=true):callOf ρ o=none:=by
 unfold callOf
 split
 ·rename_i f args _
  simp[slotOnly]at hs
 ·rfl
/-- An operation whose value hangs on its operands alone: whatever the heap. -/
theorem slotOnly_free{o:Op}(hs:slotOnly o=true)(ha:aOp ρ h o=some (v,h')):h'=h∧∀g,aOp ρ g o=some (v,g):=by
 have key:∀x:Option Value,with_ x h=some (v,h')->h'=h∧∀g,with_ x g=some (v,g):=by
  intro x hx
  obtain⟨rfl,rfl⟩:=with_inv hx
  exact⟨rfl,λg=>rfl⟩
 cases o with
 |move x=>simp only[aOp,Option.some.injEq,Prod.mk.injEq]at ha ⊢;exact⟨ha.2.symm,λg=>⟨ha.1,trivial⟩⟩
 |convert s c x=>
  simp only[slotOnly,Bool.and_eq_true,bne_iff_ne,ne_eq]at hs
  simp only[aOp,aConv,hs.1,hs.2,if_false]at ha ⊢
  by_cases hc:c=22
  ·simp only[hc,if_true]at ha ⊢
   split at ha
   ·simp only[Option.some.injEq,Prod.mk.injEq]at ha
    exact⟨ha.2.symm,λg=>by rw[ha.1]⟩
   ·simp at ha
  ·simp only[hc,if_false]at ha ⊢
   split at ha
   ·simp only[Option.some.injEq,Prod.mk.injEq]at ha
    exact⟨ha.2.symm,λg=>by rw[ha.1]⟩
   ·simp at ha
 |makeFunc f a caps=>
  cases f with
  |func g=>
   simp only[aOp,funcV]at ha ⊢
   split at ha
   ·rename_i hc
    simp only[Option.some.injEq,Prod.mk.injEq]at ha
    exact⟨ha.2.symm,λg=>by rw[if_pos hc,ha.1]⟩
   ·simp at ha
  |_=>simp[aOp]at ha
 |slice c x lo hi mx=>
  simp only[slotOnly,decide_eq_true_eq]at hs
  simp only[aOp,aSlice]at ha ⊢
  by_cases h0:c=0
  ·simp only[h0,if_true]at ha ⊢
   split at ha
   ·split at ha
    ·split at ha
     ·rename_i hc
      simp only[Option.some.injEq,Prod.mk.injEq]at ha
      exact⟨ha.2.symm,λg=>by rw[if_pos hc,ha.1]⟩
     ·simp at ha
    ·simp at ha
   ·simp at ha
  ·simp only[h0,hs,if_false,if_true]at ha ⊢
   split at ha
   ·split at ha
    ·split at ha
     ·rename_i hc
      split at ha
      ·simp only[Option.some.injEq,Prod.mk.injEq]at ha
       exact⟨ha.2.symm,λg=>by rw[if_pos hc,ha.1]⟩
      ·split at ha
       ·rename_i hc2
        simp only[Option.some.injEq,Prod.mk.injEq]at ha
        exact⟨ha.2.symm,λg=>by rw[if_pos hc,if_pos hc2,ha.1]⟩
       ·simp at ha
     ·simp at ha
    ·simp at ha
   ·simp at ha
 |call c=>
  obtain⟨callee,args,ts⟩:=c
  cases callee with
  |builtin b=>
   simp only[aOp]at ha ⊢
   cases b<;>simp[slotOnly]at hs
   ·rcases aBuiltin_inv ha with⟨_,x,hx,hv,rfl⟩|⟨h0,_⟩|⟨h0,_⟩|⟨h0,_⟩|⟨h0,_⟩<;>first|cases h0|skip
    exact⟨rfl,λg=>by rw[hx];show with_ (aLen (ts.getD 0 0) x) g=_;rw[hv];rfl⟩
   ·rcases aBuiltin_inv ha with⟨h0,_⟩|⟨h0,_⟩|⟨h0,_⟩|⟨_,hv,rfl⟩|⟨h0,_⟩<;>first|cases h0|skip
    exact⟨rfl,λg=>by simp[aBuiltin,hv,with_]⟩
   ·rcases aBuiltin_inv ha with⟨h0,_⟩|⟨h0,_⟩|⟨h0,_⟩|⟨h0,_⟩|⟨_,hv,rfl⟩<;>first|cases h0|skip
    exact⟨rfl,λg=>by simp[aBuiltin,hv,with_]⟩
  |value f=>simp[slotOnly]at hs
  |invoke r m=>simp[slotOnly]at hs
 |_=>first|(simp[slotOnly]at hs;done)|(simp only[aOp]at ha ⊢;exact key _ ha)
theorem storeAt_len{b o:Nat}{vs:List Value}(ha:storeAt h b o vs=some h'):h'.length=h.length:=by
 unfold storeAt at ha
 split at ha
 ·split at ha
  ·injection ha with ha;subst ha;simp
  ·simp at ha
 ·simp at ha
/-- What an operation does to the heap: it grows; or it is one that may turn blocks, and none goes. -/
theorem aOp_heap{o:Op}(ha:aOp ρ h o=some (v,h')):h.length<=h'.length∧(turns o=false->mayTurn o=false->Grows h h'):=by
 have hrefl:h.length<=h.length∧(turns o=false->mayTurn o=false->Grows h h):=⟨Nat.le_refl _,λ_ _=>Grows.refl h⟩
 have hpush:∀k:Blk,h.length<=(h++[k]).length∧(turns o=false->mayTurn o=false->Grows h (h++[k])):=λk=>⟨by simp,λ_ _=>⟨[k],rfl⟩⟩
 cases hso:slotOnly o with
 |true=>obtain⟨rfl,_⟩:=slotOnly_free hso ha;exact hrefl
 |false=>
  cases o with
  |box n x=>
   simp only[aOp,aBox]at ha
   split at ha
   ·split at ha
    ·injection ha with ha;injection ha with _ ha;subst ha;exact hpush _
    ·simp at ha
   ·simp at ha
  |buildSlice z n ps=>
   simp only[aOp,aBuildSlice]at ha
   split at ha
   ·split at ha
    ·simp only[Option.map_eq_some_iff]at ha
     obtain⟨cs,_,ha⟩:=ha
     injection ha with _ ha;subst ha;exact hpush _
    ·simp at ha
   ·simp at ha
  |load k a=>
   simp only[aOp]at ha
   obtain⟨_,rfl⟩:=with_inv ha
   exact hrefl
  |store n a x=>
   simp only[aOp,behind]at ha
   cases hst:aStore n h (ρ x) (ρ a)with
   |none=>simp[hst]at ha
   |some g=>
    simp only[hst,Option.map_some]at ha
    injection ha with ha;injection ha with _ ha;subst ha
    refine⟨?_,λht=>by simp[turns]at ht⟩
    unfold aStore at hst
    split at hst
    ·split at hst
     ·split at hst
      ·rw[storeAt_len hst];exact Nat.le_refl _
      ·simp at hst
     ·simp at hst
    ·simp at hst
  |convert s c x=>
   simp only[aOp,aConv]at ha
   split at ha
   ·split at ha
    ·split at ha
     ·injection ha with ha;injection ha with _ ha;subst ha;exact hpush _
     ·simp at ha
    ·simp at ha
   ·split at ha
    ·split at ha
     ·split at ha
      ·injection ha with ha;injection ha with _ ha;subst ha;exact hrefl
      ·split at ha
       ·rename_i cs _
        cases hf:asInts cs with
        |none=>simp[hf]at ha
        |some l=>simp only[hf,Option.map_some]at ha;injection ha with ha;injection ha with _ ha;subst ha;exact hrefl
       ·simp at ha
     ·simp at ha
    ·split at ha
     ·split at ha
      ·injection ha with ha;injection ha with _ ha;subst ha;exact hrefl
      ·simp at ha
     ·split at ha
      ·injection ha with ha;injection ha with _ ha;subst ha;exact hrefl
      ·simp at ha
  |mapUpdate z l c e=>
   simp only[aOp,aMake]at ha
   split at ha
   ·split at ha
    ·injection ha with ha;injection ha with _ ha;subst ha;exact hpush _
    ·simp at ha
   ·simp at ha
  |slice c x lo hi mx=>
   simp only[aOp,aSlice]at ha
   repeat' split at ha
   all_goals first
    |(simp at ha;done)
    |(injection ha with ha;injection ha with _ ha;subst ha;exact hrefl)
  |call c=>
   obtain⟨callee,args,ts⟩:=c
   cases callee with
   |builtin b=>
    simp only[aOp]at ha
    rcases aBuiltin_inv ha with⟨rfl,x,hx,hv,rfl⟩|⟨rfl,s,x,hx,hv⟩|⟨rfl,s,x,hx,hv⟩|⟨rfl,hv,rfl⟩|⟨rfl,hv,rfl⟩
    ·exact hrefl
    ·refine⟨?_,λ_ ht=>by simp[mayTurn]at ht⟩
     unfold aAppend at hv
     repeat' split at hv
     all_goals first
      |(simp at hv;done)
      |(injection hv with hv;injection hv with _ hv;subst hv;simp)
    ·refine⟨?_,λht=>by simp[turns]at ht⟩
     unfold aCopy at hv
     repeat' split at hv
     all_goals first
      |(simp at hv;done)
      |(injection hv with hv;injection hv with _ hv;subst hv;simp;done)
      |(simp only[Option.map_eq_some_iff]at hv;obtain⟨g,hst,hv⟩:=hv;injection hv with _ hv;subst hv;rw[storeAt_len hst];exact Nat.le_refl _)
    ·exact hrefl
    ·exact hrefl
   |value f=>simp[aOp]at ha
   |invoke r m=>simp[aOp]at ha
  |makeFunc f a caps=>simp[slotOnly]at hso
  |_=>first|(simp[slotOnly]at hso;done)|(simp[aOp]at ha;done)
end free
end Am

/- A region of the model does what 'Am' says of its normalised operations, in text order. -/
import Derived.Test.YtpgioncclmancaaGreatAmBefore
set_option linter.unusedVariables false
set_option linter.unusedSimpArgs false
namespace Am
open Go
def CallLen(call:Caller):Prop:=∀f a h v h',call f a h=some (v,h')->h.length<=h'.length
/-- A run, step by step. -/
structure RunSeq (qz:Heap->Heap->Bool) (call:Caller) (l:List Oper) (Sq:Nat->Nat->Value) (Hq:Nat->Heap) (V:Nat->Value):Prop where
 step:∀k p,l[k]?=some p->runS qz call (Sq k) (Hq k) p=some (V k,Hq (k+1))∧Sq (k+1)=updO (Sq k) p.dst (V k)
theorem runAll_seq{qz:Heap->Heap->Bool}{call:Caller}:∀{l:List Oper} {s s':Nat->Value} {h h':Heap},runAll qz call l s h=some (s',h')->
  ∃Sq Hq V,Sq 0=s∧Hq 0=h∧Sq l.length=s'∧Hq l.length=h'∧RunSeq qz call l Sq Hq V
 |[],s,s',h,h',hr=>by
  simp only[runAll,Option.some.injEq,Prod.mk.injEq]at hr
  obtain⟨rfl,rfl⟩:=hr
  exact⟨λ_=>s,λ_=>h,λ_=>poison,rfl,rfl,rfl,rfl,⟨λk p hk=>by simp at hk⟩⟩
 |p::r,s,s',h,h',hr=>by
  simp only[runAll]at hr
  cases h1:runS qz call s h p with
  |none=>simp[h1]at hr
  |some x=>
   obtain⟨v,h2⟩:=x
   simp only[h1]at hr
   obtain⟨Sq,Hq,V,a1,a2,a3,a4,a5⟩:=runAll_seq hr
   refine⟨λk=>match k with|0=>s|k+1=>Sq k,λk=>match k with|0=>h|k+1=>Hq k,λk=>match k with|0=>v|k+1=>V k,rfl,rfl,?_,?_,⟨?_⟩⟩
   ·simpa using a3
   ·simpa using a4
   ·intro k q hk
    cases k with
    |zero=>
     simp at hk;subst hk
     exact⟨by simp only[a2];exact h1,by simp only[a1]⟩
    |succ k=>exact a5.step k q (by simpa using hk)
theorem runS_len{qz:Heap->Heap->Bool}{call:Caller}{s:Nat->Value}{h h':Heap}{p:Oper}{v:Value}(hC:CallLen call)(hr:runS qz call s h p=some (v,h')):h.length<=h'.length:=by
 unfold runS at hr
 split at hr
 ·simp at hr
 ·injection hr with hr;injection hr with _ hr;subst hr;exact Nat.le_refl _
 ·unfold quietly at hr
  split at hr
  ·rename_i v1 h1 heq
   split at hr
   ·injection hr with hr;injection hr with _ hr;subst hr
    split at heq
    ·exact hC _ _ _ _ _ heq
    ·exact(aOp_heap heq).1
   ·simp at hr
  ·simp at hr
section norm
variable {A : Seat} {loc pb : List Nat} {env : List (Nat × Nat)} {ops : Array Oper}
theorem nOpers_get:∀{l ps:List Oper},nOpers A loc pb env ops l=some ps->ps.length=l.length∧∀(k:Nat) (o:Oper),l[k]?=some o->∃p,ps[k]?=some p∧nOper A loc pb env ops o=some p
 |[],ps,hn=>by simp[nOpers]at hn;subst hn;exact⟨rfl,λk o hk=>by simp at hk⟩
 |x::r,ps,hn=>by
  unfold nOpers at hn
  split at hn
  ·rename_i y ys h1 h2
   injection hn with hn;subst hn
   obtain⟨h3,h4⟩:=nOpers_get h2
   refine⟨by simp[h3],λk o hk=>?_⟩
   cases k with
   |zero=>simp at hk;subst hk;exact⟨y,by simp,h1⟩
   |succ k=>simpa using h4 k o (by simpa using hk)
  ·simp at hn
theorem nPriv_box{x y:Operand}{t:Nat}(hw:EnvWf pb env)(hn:nPriv pb env x=some (t,y)):pb.contains t=true:=by
 unfold nPriv at hn
 split at hn
 ·split at hn
  ·rename_i hc
   injection hn with hn;injection hn with e1 e2;subst e1;exact hc
  ·simp only[Option.map_eq_some_iff]at hn
   obtain⟨b,hb,hn⟩:=hn
   injection hn with e1 e2;subst e1
   exact(hw _ _ hb).1
 ·simp at hn
theorem nPrivOp_dst(hw:EnvWf pb env){dst:Option Nat}{d:Nat}{o p:Op}(hn:nPrivOp A loc pb env dst o=some (some d,p))(hpb:pb.contains d=false):dst=some d:=by
 cases o with
 |store t x v=>
  simp only[nPrivOp]at hn
  split at hn
  ·rename_i h1 _ _
   injection hn with hn;injection hn with e1 _;injection e1 with e1;subst e1
   rw[nPriv_box hw h1]at hpb;cases hpb
  ·simp at hn
 |_=>
  cases dst with
  |none=>exfalso;simp[nPrivOp]at hn
  |some d0=>simp only[nPrivOp]at hn<;>first|(simp at hn;done)|grind [Option.bind_eq_some_iff,Option.map_eq_some_iff]
theorem nOper_facts(hw:EnvWf pb env){o p:Oper}(hn:nOper A loc pb env ops o=some p):p.type<=1∧∀e,p.dst=some e->pb.contains e=false->o.dst=some e:=by
 unfold nOper at hn
 split at hn
 ·split at hn
  ·rename_i d q hpo
   split at hn
   ·simp at hn
   ·split at hn
    ·rename_i d'
     injection hn with hn;subst hn
     refine⟨by simp only[op];split;exact Nat.le_refl _;exact Nat.zero_le _,λe he hpb=>?_⟩
     simp only[op,Option.some.injEq]at he
     subst he
     exact nPrivOp_dst hw hpo hpb
    ·simp at hn
  ·split at hn
   ·split at hn
    ·rename_i hod
     split at hn
     ·simp at hn
     ·injection hn with hn;subst hn
      exact⟨by simp only[op];split;exact Nat.le_refl _;exact Nat.zero_le _,λe he _=>by rw[hod];exact he⟩
    ·injection hn with hn;subst hn
     exact⟨by simp[opn],λe he _=>by simp[opn]at he⟩
   ·simp at hn
 ·simp at hn
/-- What the flag of an operation says. -/
def FlagOk(b:Array Nat)(ps:List Oper)(k:Nat)(p p':Oper):Prop:=
 (slotOnly p.op=true∨pinned b ps k=true∨(turns p.op=false∧(mayTurn p.op=false∨(p.type<=1->isQuiet p'.type=true)))∨∃x,sideOf p'.type=some x∧pinnedBy b ps k x=true)∧(mayTurn p.op=true∨(p.type<=1->p'.type<4))
theorem nFlag_get{side:Bool}{b:Array Nat}{ps:List Oper}:∀{l l':List Oper} {i:Nat},nFlag side b ps i l=some l'->l'.length=l.length∧∀(k:Nat) (p:Oper),l[k]?=some p->
  ∃p',l'[k]?=some p'∧p'.dst=p.dst∧p'.op=p.op∧p'.guard=p.guard∧FlagOk b ps (i+k) p p'
 |[],l',i,hn=>by simp[nFlag]at hn;subst hn;exact⟨rfl,λk p hk=>by simp at hk⟩
 |x::r,l',i,hn=>by
  unfold nFlag at hn
  split at hn
  ·rename_i rest h1
   obtain⟨h3,h4⟩:=nFlag_get h1
   have tail:∀(y:Oper) (k:Nat) (p:Oper),r[k]?=some p->∃p',(y::rest)[k+1]?=some p'∧p'.dst=p.dst∧p'.op=p.op∧p'.guard=p.guard∧FlagOk b ps (i+(k+1)) p p':=by
    intro y k p hk
    obtain⟨p',q1,q2,q3,q4,q5⟩:=h4 k p hk
    rw[show i+1+k=i+(k+1)by omega]at q5
    exact⟨p',by simpa using q1,q2,q3,q4,q5⟩
   have fin:∀(y:Oper),y.dst=x.dst->y.op=x.op->y.guard=x.guard->FlagOk b ps i x y->(y::rest).length=(x::r).length∧∀(k:Nat) (p:Oper),(x::r)[k]?=some p->
     ∃p',(y::rest)[k]?=some p'∧p'.dst=p.dst∧p'.op=p.op∧p'.guard=p.guard∧FlagOk b ps (i+k) p p':=by
    intro y e1 e2 e3 e4
    refine⟨by simp[h3],λk p hk=>?_⟩
    cases k with
    |zero=>
     simp at hk;subst hk
     exact⟨y,by simp,e1,e2,e3,e4⟩
    |succ k=>exact tail y k p (by simpa using hk)
   split at hn
   ·rename_i hc
    injection hn with hn;subst hn
    simp only[Bool.or_eq_true]at hc
    exact fin x rfl rfl rfl ⟨hc.elim .inl λh=>.inr (.inl h),.inr λh=>Nat.lt_of_le_of_lt h (by decide)⟩
   ·split at hn
    ·simp at hn
    ·rename_i ht
     split at hn
     ·rename_i hm
      split at hn
      ·rename_i z hz
       split at hn
       ·rename_i c hc
        split at hn
        ·rename_i hp
         injection hn with hn;subst hn
         simp only[Bool.and_eq_true]at hp
         exact fin _ rfl rfl rfl ⟨.inr (.inr (.inr ⟨z,sideFits_eq hp.2,hp.1⟩)),.inl hm⟩
        ·simp at hn
       ·simp at hn
      ·injection hn with hn;subst hn
       refine fin _ rfl rfl rfl ⟨.inr (.inr (.inl ⟨by simpa using ht,.inr λhty=>?_⟩)),.inl hm⟩
       have:∀q:Nat,q<=1->((q+2)/2==1)=true:=by intro q hq;rcases Nat.le_one_iff_eq_zero_or_eq_one.1 hq with e|e<;>subst e<;>decide
       exact this x.type hty
     ·rename_i hm
      injection hn with hn;subst hn
      exact fin x rfl rfl rfl ⟨.inr (.inr (.inl ⟨by simpa using ht,.inl (by simpa using hm)⟩)),.inr λh=>Nat.lt_of_le_of_lt h (by decide)⟩
  ·simp at hn
theorem envWf_spec(h:envWf loc pb env=true):EnvWf pb env∧∀d a,boxOf env d=some a->own loc d=true:=by
 have key:∀d a,boxOf env d=some a->own loc d=true∧pb.contains a=true∧pb.contains d=false:=by
  intro d a hb
  unfold boxOf at hb
  cases hf:env.find? (·.1==d)with
  |none=>simp[hf]at hb
  |some p=>
   simp only[hf,Option.map_some,Option.some.injEq]at hb
   have h1:=List.mem_of_find?_eq_some hf
   have h2:=List.find?_some hf
   simp only[envWf,List.all_eq_true,Bool.and_eq_true]at h
   have:=h p h1
   have hd:p.1=d:=by simpa using h2
   rw[hd,hb]at this
   exact⟨this.1.1,this.1.2,by simpa using this.2⟩
 exact⟨λd a hb=>(key d a hb).2,λd a hb=>(key d a hb).1⟩
theorem envOk_spec:∀{l:List Oper},envOk env l=true->∀(j k:Nat) (x y:Oper) (d a:Nat),j<k->l[j]?=some x->l[k]?=some y->x.dst=some d->boxOf env d=some a->y.dst≠some d∧y.dst≠some a
 |[],_,j,k,x,y,d,a,_,hj,_,_,_=>by simp at hj
 |o::r,h,j,k,x,y,d,a,hjk,hj,hk,hx,hb=>by
  unfold envOk at h
  simp only[Bool.and_eq_true]at h
  obtain⟨k,rfl⟩:∃m,k=m+1:=⟨k-1,by omega⟩
  have hk':r[k]?=some y:=by simpa using hk
  cases j with
  |zero=>
   simp at hj;subst hj
   have h1:=h.1
   simp only[hx,hb,List.all_eq_true,Bool.and_eq_true,bne_iff_ne,ne_eq]at h1
   exact h1 y (List.mem_of_getElem? hk')
  |succ j=>exact envOk_spec h.2 j k x y d a (by omega) (by simpa using hj) hk' hx hb
end norm
/-- What the normal form of a region gives. -/
structure RegOk (A:Seat) (loc pb:List Nat) (env:List (Nat×Nat)) (ops:Array Oper) (l:List Oper) (m:Nat):Prop where
 len:l.length=ops.size
 op:∀(k:Nat) (o:Oper),ops[k]?=some o->∃p p0,l[k]?=some p∧nOper A loc pb env ops o=some p0∧p.dst=p0.dst∧p.op=p0.op∧p.guard=p0.guard
 wf:EnvWf pb env
 own:∀d a,boxOf env d=some a->own loc d=true
 env:∀(j k:Nat) (x y:Oper) (d a:Nat),j<k->ops[j]?=some x->ops[k]?=some y->x.dst=some d->boxOf env d=some a->y.dst≠some d∧y.dst≠some a
 dst:∀(k:Nat) (o:Oper) (d:Nat),ops[k]?=some o->o.dst=some d->d<m
section text
variable {A : Seat} {loc pb : List Nat} {env : List (Nat × Nat)} {ops : Array Oper} {l : List Oper} {m : Nat} {qz : Heap -> Heap -> Bool} {call : Caller} {Sq : Nat -> Nat -> Value} {Hq : Nat -> Heap} {V : Nat -> Value} {base lo : Nat}
theorem RunSeq.mono(hL:CallLen call)(hq:RunSeq qz call l Sq Hq V){i j:Nat}(hij:i<=j)(hj:j<=l.length):(Hq i).length<=(Hq j).length:=by
 obtain⟨d,rfl⟩:∃d,j=i+d:=⟨j-i,by omega⟩
 induction d with
 |zero=>exact Nat.le_refl _
 |succ d ih=>
  have hlt:i+d<l.length:=by omega
  have h1:=(hq.step (i+d) l[i+d] (List.getElem?_eq_getElem hlt)).1
  exact Nat.le_trans (ih (by omega) (by omega)) (runS_len hL h1)
theorem written(R:RegOk A loc pb env ops l m)(hq:RunSeq qz call l Sq Hq V)(h0:∀d,own loc d=true->Sq 0 d=poison):
  ∀k,k<=ops.size->∀e a,boxOf env e=some a->Sq k e≠poison->∃(j:Nat) (x:Oper),j<k∧ops[j]?=some x∧x.dst=some e:=by
 intro k
 induction k with
 |zero=>intro _ e a he hp;exact absurd (h0 e (R.own e a he)) hp
 |succ k ih=>
  intro hk e a he hp
  have hok:ops[k]?=some ops[k]:=Array.getElem?_eq_getElem (by omega)
  obtain⟨p,p0,h1,h2,h3,h4,h5⟩:=R.op k _ hok
  obtain⟨_,hs⟩:=hq.step k p h1
  rw[hs]at hp
  by_cases hd:p.dst=some e
  ·have:=(nOper_facts R.wf h2).2 e (by rw[<-h3];exact hd) (R.wf e a he).2
   exact⟨k,_,by omega,hok,this⟩
  ·have:updO (Sq k) p.dst (V k) e=Sq k e:=by
    cases hpd:p.dst with
    |none=>rfl
    |some d=>
     have hne:e≠d:=λh=>hd (by rw[hpd,h])
     simp[updO,upd,hne]
   rw[this]at hp
   obtain⟨j,x,hj,r⟩:=ih (by omega) e a he hp
   exact⟨j,x,by omega,r⟩
/-- A REGION IN TEXT ORDER. -/
theorem region_text(R:RegOk A loc pb env ops l m)(hE:EqOk A)(hC:CallOk A base call)(hL:CallLen call)(hq:RunSeq qz call l Sq Hq V)(h0:∀d,own loc d=true->Sq 0 d=poison)
  {φ0:Phi} {w0:World} (hb:base<=lo) (hlo:lo<=w0.heap.size) {Q:Exit->Act->World->Prop} {ds:List Deferred}
  (hQ:∀(tm:Array Value) (w:World) (φ:Phi),tm.size=m->SR A pb env φ (Sq ops.size) tm w lo->HeapR A φ (Hq ops.size) w base->Ext lo φ0 (Hq 0) w0 φ (Hq ops.size) w->Q .normal ⟨tm,ds⟩ w):
  ∀(r k:Nat),k+r=ops.size->∀(tm:Array Value) (w:World) (φ:Phi),tm.size=m->SR A pb env φ (Sq k) tm w lo->HeapR A φ (Hq k) w base->Ext lo φ0 (Hq 0) w0 φ (Hq k) w->
   (∀b,(Hq k).length<=b->b<(Hq ops.size).length->φ b=none)->wpOps A.P ops Q (List.range' k r) ⟨tm,ds⟩ w:=by
 intro r
 induction r with
 |zero=>
  intro k hk tm w φ htm S H X _
  have:k=ops.size:=by omega
  subst this
  exact hQ tm w φ htm S H X
 |succ r ih=>
  intro k hk tm w φ htm S H X hφ
  rw[List.range'_succ,wpOps_cons]
  have hok:ops[k]?=some ops[k]:=Array.getElem?_eq_getElem (by omega)
  obtain⟨p,p0,h1,h2,h3,h4,h5⟩:=R.op k _ hok
  obtain⟨hr,hs⟩:=hq.step k p h1
  have hmono:(Hq (k+1)).length<=(Hq ops.size).length:=hq.mono hL (by omega) (by rw[R.len];exact Nat.le_refl _)
  have hmono':(Hq k).length<=(Hq (k+1)).length:=runS_len hL hr
  have hlow:lo<=w.heap.size:=Nat.le_trans hlo X.size
  refine step_oper (a:=⟨tm,ds⟩) hE hC R.wf S H hb hlow (λb h1 h2=>hφ b h1 (by omega)) hok h2 h3 h4 h5 ?_ ?_ hr ?_
  ·intro i hi e he
   by_cases hp:Sq k e=poison
   ·exact hp
   ·obtain⟨j,x,hj,hx,hxd⟩:=written R hq h0 k (by omega) e i he hp
    exact absurd hi (R.env j k x _ e i hj hx hok hxd he).2
  ·intro i hi
   rw[show(⟨tm,ds⟩:Act).tmps.size=m from htm]
   exact R.dst k _ i hok hi
  ·rintro tm' w'⟨hsz,φ',S',H',X',_⟩
   rw[<-hs]at S'
   refine ih (k+1) (by omega) tm' w' φ' (hsz.trans htm) S' H' (X.trans hlo X') ?_
   intro b hb1 hb2
   rw[X'.same b (.inr hb1)]
   exact hφ b (by omega) hb2
end text
end Am

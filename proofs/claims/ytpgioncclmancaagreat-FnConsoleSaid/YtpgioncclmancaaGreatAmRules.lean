/- The rules of 'Am': what a piece of code leaves, said by a condition on what is there behind it. -/
import Derived.Test.YtpgioncclmancaaGreatAmCore
set_option linter.unusedVariables false
set_option linter.unusedSimpArgs false
namespace Am
open Go
/-- h' is h with more blocks. -/
def Grows(h h':Heap):Prop:=∃l,h'=h++l
theorem Grows.refl(h:Heap):Grows h h:=⟨[],by simp⟩
theorem Grows.trans{a b c:Heap}(x:Grows a b)(y:Grows b c):Grows a c:=by
 obtain⟨l,rfl⟩:=x;obtain⟨m,rfl⟩:=y;exact⟨l++m,by simp⟩
open Classical in
noncomputable def qzP(h h':Heap):Bool:=decide (Grows h h')
theorem qzP_iff{h h':Heap}:qzP h h'=true↔Grows h h':=by unfold qzP;simp
section mono
variable {qz : Heap -> Heap -> Bool} {call call' : Caller}
def Le(call call':Caller):Prop:=∀f a h r,call f a h=some r->call' f a h=some r
theorem stepA_mono(hc:Le call call'){o:Oper}{s s':St}(h:stepA qz call o s=some s'):stepA qz call' o s=some s':=by
 unfold stepA at*
 cases hw:wantedA s o.guard with
 |none=>simp[hw]at h
 |some b=>
  cases b with
  |false=>simpa [hw]using h
  |true=>
   simp only[hw]at h ⊢
   cases hf:callOf (ev s.σ s.τ) o.op with
   |none=>simpa [hf]using h
   |some p=>
    obtain⟨f,args⟩:=p
    simp only[hf]at h ⊢
    cases hr:call f args s.h with
    |none=>simp[hr]at h
    |some r=>rw[hc _ _ _ _ hr];simpa [hr]using h
theorem execOps_mono(hc:Le call call'):∀(l:List Oper) (s s':St),execOps qz call l s=some s'->execOps qz call' l s=some s':=by
 intro l
 induction l with
 |nil=>intro s s' h;exact h
 |cons o r ih=>
  intro s s' h
  simp only[execOps]at h ⊢
  cases hs:stepA qz call o s with
  |none=>simp[hs]at h
  |some s1=>rw[stepA_mono hc hs];simp only[hs]at h;exact ih _ _ h
theorem loopN_mono{f g:(Nat->Value)->Heap->Option Out}(hfg:∀σ h r,f σ h=some r->g σ h=some r):
  ∀(n m:Nat) (_:n<=m) (σ:Nat->Value) (h:Heap) (r:Out),loopN f n σ h=some r->loopN g m σ h=some r:=by
 intro n
 induction n with
 |zero=>intro m _ σ h r hr;simp[loopN]at hr
 |succ n ih=>
  intro m hm σ h r hr
  obtain⟨m,rfl⟩:∃k,m=k+1:=⟨m-1,by omega⟩
  simp only[loopN]at hr ⊢
  cases hf:f σ h with
  |none=>simp[hf]at hr
  |some x=>
   rw[hfg _ _ _ hf]
   simp only[hf]at hr ⊢
   split at hr
   ·rename_i he;simp only[he,if_true];exact ih m (by omega) _ _ _ hr
   ·rename_i he;simp only[he,if_false];exact hr
theorem exec_mono(hc:Le call call'){n m:Nat}(hm:n<=m):∀(c:Code) (σ:Nat->Value) (h:Heap) (r:Out),
  exec qz call n c σ h=some r->exec qz call' m c σ h=some r:=by
 intro c
 induction c with
 |skip=>intro σ h r hr;exact hr
 |region id ops d=>
  intro σ h r hr
  simp only[exec]at hr ⊢
  cases hs:execOps qz call ops.toList ⟨σ,nothing,h⟩with
  |none=>simp[hs]at hr
  |some s=>rw[execOps_mono hc _ _ _ hs];simpa [hs]using hr
 |seq a b iha ihb=>
  intro σ h r hr
  simp only[exec]at hr ⊢
  cases ha:exec qz call n a σ h with
  |none=>simp[ha]at hr
  |some x=>
   rw[iha _ _ _ ha]
   simp only[ha]at hr ⊢
   split at hr
   ·rename_i he;simp only[he,if_true];exact ihb _ _ _ hr
   ·rename_i he;simp only[he,if_false];exact hr
 |cond c a b iha ihb=>
  intro σ h r hr
  simp only[exec]at hr ⊢
  split at hr
  ·rename_i p hp
   cases p
   ·simpa using ihb _ _ _ (by simpa using hr)
   ·simpa using iha _ _ _ (by simpa using hr)
  ·simp at hr
 |block id c ih=>
  intro σ h r hr
  simp only[exec]at hr ⊢
  cases hx:exec qz call n c σ h with
  |none=>simp[hx]at hr
  |some x=>rw[ih _ _ _ hx];simpa [hx]using hr
 |loop c ih=>
  intro σ h r hr
  simp only[exec]at hr ⊢
  exact loopN_mono ih n m hm _ _ _ hr
 |rangeFunc=>intro σ h r hr;simp[exec]at hr
 |exit id=>intro σ h r hr;exact hr
 |scope=>intro σ h r hr;simp[exec]at hr
 |label=>intro σ h r hr;simp[exec]at hr
 |goto=>intro σ h r hr;simp[exec]at hr
 |ret=>intro σ h r hr;exact hr
 |refuse=>intro σ h r hr;simp[exec]at hr
theorem callN_step(Γ:Nat->Option AFun):∀n,Le (callN qz Γ n) (callN qz Γ (n+1)):=by
 intro n
 induction n with
 |zero=>intro f a h r hr;simp[callN]at hr
 |succ n ih=>
  intro f a h r hr
  unfold callN at hr ⊢
  cases hf:Γ f with
  |none=>simp[hf]at hr
  |some fn=>
   simp only[hf]at hr ⊢
   cases hpr:primOf fn.code with
   |some p=>simpa [hpr]using hr
   |none=>
   simp only[hpr]at hr ⊢
   split at hr
   ·rename_i hl
    rw[if_pos hl]
    cases he:exec qz (callN qz Γ n) n fn.code (init a) h with
    |none=>simp[he]at hr
    |some x=>
     rw[exec_mono ih (Nat.le_succ n) _ _ _ _ he]
     simpa [he]using hr
   ·simp at hr
theorem callN_mono(Γ:Nat->Option AFun){n m:Nat}(h:n<=m):Le (callN qz Γ n) (callN qz Γ m):=by
 obtain⟨k,rfl⟩:∃k,m=n+k:=⟨m-n,by omega⟩
 clear h
 induction k with
 |zero=>intro f a h r hr;exact hr
 |succ k ih=>intro f a h r hr;exact callN_step Γ _ _ _ _ _ (ih _ _ _ _ hr)
end mono
section rules
variable (Γ : Nat -> Option AFun)
def ACall(f:Nat)(args:List Value)(h:Heap)(R:Value->Heap->Prop):Prop:=
 ∃n v h',callN qzP Γ n f args h=some (v,h')∧R v h'
abbrev Post:=Nat->(Nat->Value)->Heap->Prop
def awp(c:Code)(Q:Post)(σ:Nat->Value)(h:Heap):Prop:=
 ∃n r,exec qzP (callN qzP Γ n) n c σ h=some r∧Q r.e r.σ r.h
def awpOps(l:List Oper)(K:(Nat->Value)->Heap->Prop)(σ τ:Nat->Value)(h:Heap):Prop:=
 ∃n s,execOps qzP (callN qzP Γ n) l ⟨σ,τ,h⟩=some s∧K s.σ s.h
def seqQ(b:Code)(Q:Post):Post:=λe σ h=>if e=0 then awp Γ b Q σ h else Q e σ h
def blockQ(id:Nat)(Q:Post):Post:=λe σ h=>if e=id+2 then Q 0 σ h else Q e σ h
def loopQ{α:Type}(I:α->(Nat->Value)->Heap->Prop)(μ:α->Nat)(a:α)(Q:Post):Post:=
 λe σ h=>if e=0 then ∃a',I a' σ h∧μ a'<μ a else Q e σ h
def resW(o:Option Value)(R:Value->Heap->Prop)(h:Heap):Prop:=match o with
 |some v=>R v h
 |none=>False
def retQ(res:List (Nat×Nat))(R:Value->Heap->Prop):Post:=λe σ h=>if e<=1 then resW (resOf σ h res) R h else False
def condW(v:Value)(X Y:Prop):Prop:=match v with
 |.bool p=>if p then X else Y
 |_=>False
def bindW(o:Option (Value×Heap))(k:Value->Heap->Prop):Prop:=match o with
 |some p=>k p.1 p.2
 |none=>False
/-- The value and the heap behind an operation that must leave all blocks as they are. -/
def growW(h:Heap)(o:Option (Value×Heap))(k:Value->Heap->Prop):Prop:=match o with
 |some p=>Grows h p.2∧k p.1 p.2
 |none=>False
def callW(f:Nat)(args:List Value)(h:Heap)(quiet:Bool)(k:Value->Heap->Prop):Prop:=
 ACall Γ f args h λv h'=>(quiet=true->Grows h h')∧k v h'
def callV(f:Value)(args:List Value)(h:Heap)(quiet:Bool)(k:Value->Heap->Prop):Prop:=match f with
 |.func (.func g) fs caps=>callW Γ g (fs.toList++(args++caps.toList)) h quiet k
 |_=>False
end rules
/-- A call; a builtin. -/
def call(f:Operand)(args:Array Operand):Op:=.call {callee:=.value f,args:=args,argTypes:=#[]}
def bi(b:Builtin)(args:Array Operand)(z:Nat):Op:=.call {callee:=.builtin b,args:=args,argTypes:=#[z]}
def reg(l:List Oper):Code:=.region 0 l.toArray false
section use
variable {Γ : Nat -> Option AFun} {Q : Post} {σ τ : Nat -> Value} {h : Heap}
theorem ACall.mono{f:Nat}{args:List Value}{R R':Value->Heap->Prop}(x:ACall Γ f args h R)(hr:∀v h',R v h'->R' v h'):ACall Γ f args h R':=by
 obtain⟨n,v,h',hc,r⟩:=x;exact⟨n,v,h',hc,hr _ _ r⟩
theorem ACall_intro{f:Nat}{args:List Value}{fn:AFun}{R:Value->Heap->Prop}(hf:Γ f=some fn)(ha:args.length=fn.ar)(x:awp Γ fn.code (retQ fn.res R) (init args) h):ACall Γ f args h R:=by
 obtain⟨n,r,hx,hq⟩:=x
 unfold retQ at hq
 split at hq
 ·rename_i he
  unfold resW at hq
  cases hv:resOf r.σ r.h fn.res with
  |none=>simp[hv]at hq
  |some v=>
   refine⟨n+1,v,r.h,?_,by simpa [hv]using hq⟩
   have hpr:primOf fn.code=none:=by
    cases hc:fn.code with
    |goto k=>rw[hc]at hx;simp[exec]at hx
    |_=>rfl
   simp[callN,hf,ha,hx,he,hv,hpr]
 ·exact hq.elim
theorem ACall_prim{f:Nat}{args:List Value}{fn:AFun}{p:List Value->Heap->Option (Value×Heap)}{R:Value->Heap->Prop}{v:Value}{h':Heap}(hf:Γ f=some fn)(hp:primOf fn.code=some p)(ha:args.length=fn.ar)(hx:p args h=some (v,h'))(hR:R v h'):ACall Γ f args h R:=
 ⟨1,v,h',by simp[callN,hf,hp,ha,hx],hR⟩
theorem awp_skip:awp Γ .skip Q σ h=Q 0 σ h:=by
 apply propext;constructor
 ·rintro⟨n,r,hx,hq⟩;simp only[exec,Option.some.injEq]at hx;subst hx;exact hq
 ·intro hq;exact⟨0,_,rfl,hq⟩
theorem awp_exit{id:Nat}:awp Γ (.exit id) Q σ h=Q (id+2) σ h:=by
 apply propext;constructor
 ·rintro⟨n,r,hx,hq⟩;simp only[exec,Option.some.injEq]at hx;subst hx;exact hq
 ·intro hq;exact⟨0,_,rfl,hq⟩
theorem awp_ret:awp Γ .ret Q σ h=Q 1 σ h:=by
 apply propext;constructor
 ·rintro⟨n,r,hx,hq⟩;simp only[exec,Option.some.injEq]at hx;subst hx;exact hq
 ·intro hq;exact⟨0,_,rfl,hq⟩
theorem awp_seq{a b:Code}:awp Γ (.seq a b) Q σ h=awp Γ a (seqQ Γ b Q) σ h:=by
 apply propext;constructor
 ·rintro⟨n,r,hx,hq⟩
  simp only[exec]at hx
  cases ha:exec qzP (callN qzP Γ n) n a σ h with
  |none=>simp[ha]at hx
  |some x=>
   refine⟨n,x,ha,?_⟩
   simp only[ha]at hx
   unfold seqQ
   split at hx
   ·rename_i he;rw[if_pos he];exact⟨n,r,hx,hq⟩
   ·rename_i he;rw[if_neg he];injection hx with hx;subst hx;exact hq
 ·rintro⟨n,x,hx,hq⟩
  unfold seqQ at hq
  split at hq
  ·rename_i he
   obtain⟨m,r,hr,hq⟩:=hq
   refine⟨max n m,r,?_,hq⟩
   simp only[exec]
   rw[exec_mono (callN_mono Γ (Nat.le_max_left n m)) (Nat.le_max_left n m) _ _ _ _ hx]
   simp only[he,if_true]
   exact exec_mono (callN_mono Γ (Nat.le_max_right n m)) (Nat.le_max_right n m) _ _ _ _ hr
  ·rename_i he
   exact⟨n,x,by simp[exec,hx,he],hq⟩
theorem awp_cond{c:Operand}{a b:Code}:awp Γ (.cond c a b) Q σ h=condW (ev σ nothing c) (awp Γ a Q σ h) (awp Γ b Q σ h):=by
 apply propext
 unfold condW
 constructor
 ·rintro⟨n,r,hx,hq⟩
  simp only[exec]at hx
  split at hx
  ·rename_i p hp
   rw[hp]
   cases p
   ·exact⟨n,r,by simpa using hx,hq⟩
   ·exact⟨n,r,by simpa using hx,hq⟩
  ·simp at hx
 ·intro hq
  split at hq
  ·rename_i p hp
   cases p
   ·obtain⟨n,r,hx,hq⟩:=(show awp Γ b Q σ h by simpa using hq);exact⟨n,r,by simp[exec,hp,hx],hq⟩
   ·obtain⟨n,r,hx,hq⟩:=(show awp Γ a Q σ h by simpa using hq);exact⟨n,r,by simp[exec,hp,hx],hq⟩
  ·exact hq.elim
theorem awp_block{id:Nat}{c:Code}:awp Γ (.block id c) Q σ h=awp Γ c (blockQ id Q) σ h:=by
 apply propext;constructor
 ·rintro⟨n,r,hx,hq⟩
  simp only[exec]at hx
  cases ha:exec qzP (callN qzP Γ n) n c σ h with
  |none=>simp[ha]at hx
  |some x=>
   refine⟨n,x,ha,?_⟩
   simp only[ha]at hx
   unfold blockQ
   split at hx
   ·rename_i he;rw[if_pos he];injection hx with hx;subst hx;exact hq
   ·rename_i he;rw[if_neg he];injection hx with hx;subst hx;exact hq
 ·rintro⟨n,x,hx,hq⟩
  unfold blockQ at hq
  split at hq
  ·rename_i he;exact⟨n,⟨0,x.σ,x.h⟩,by simp[exec,hx,he],hq⟩
  ·rename_i he;exact⟨n,x,by simp[exec,hx,he],hq⟩
theorem awp_region{i:Nat}{ops:Array Oper}{d:Bool}:awp Γ (.region i ops d) Q σ h=awpOps Γ ops.toList (Q 0) σ nothing h:=by
 apply propext;constructor
 ·rintro⟨n,r,hx,hq⟩
  simp only[exec]at hx
  cases ha:execOps qzP (callN qzP Γ n) ops.toList ⟨σ,nothing,h⟩with
  |none=>simp[ha]at hx
  |some s=>simp only[ha,Option.some.injEq]at hx;subst hx;exact⟨n,s,ha,hq⟩
 ·rintro⟨n,s,hx,hq⟩
  exact⟨n,⟨0,s.σ,s.h⟩,by simp[exec,hx],hq⟩
theorem awp_reg{l:List Oper}:awp Γ (reg l) Q σ h=awpOps Γ l (Q 0) σ nothing h:=by
 unfold reg;rw[awp_region]
theorem awp_loop{α:Type}{c:Code}(I:α->(Nat->Value)->Heap->Prop)(μ:α->Nat)(a0:α)(h0:I a0 σ h)
  (step:∀a σ h,I a σ h->awp Γ c (loopQ I μ a Q) σ h):awp Γ (.loop c) Q σ h:=by
 have key:∀k a σ h,μ a<=k->I a σ h->∃n r,loopN (exec qzP (callN qzP Γ n) n c) n σ h=some r∧Q r.e r.σ r.h:=by
  intro k
  induction k with
  |zero=>
   intro a σ h hk hi
   obtain⟨n,r,hx,hq⟩:=step a σ h hi
   unfold loopQ at hq
   split at hq
   ·obtain⟨a',_,hlt⟩:=hq;omega
   ·rename_i he
    refine⟨n+1,r,?_,hq⟩
    simp only[loopN]
    rw[exec_mono (callN_mono Γ (Nat.le_succ n)) (Nat.le_succ n) _ _ _ _ hx]
    simp[he]
  |succ k ih=>
   intro a σ h hk hi
   obtain⟨n,r,hx,hq⟩:=step a σ h hi
   unfold loopQ at hq
   split at hq
   ·rename_i he
    obtain⟨a',hi',hlt⟩:=hq
    obtain⟨m,r',hx',hq'⟩:=ih a' _ _ (by omega) hi'
    refine⟨max n m+1,r',?_,hq'⟩
    simp only[loopN]
    rw[exec_mono (callN_mono Γ (show n<=max n m+1 by omega)) (show n<=max n m+1 by omega) _ _ _ _ hx]
    simp only[he,if_true]
    refine loopN_mono (λσ h r hr=>?_) m _ (by omega) _ _ _ hx'
    exact exec_mono (callN_mono Γ (show m<=max n m+1 by omega)) (show m<=max n m+1 by omega) _ _ _ _ hr
   ·rename_i he
    refine⟨n+1,r,?_,hq⟩
    simp only[loopN]
    rw[exec_mono (callN_mono Γ (Nat.le_succ n)) (Nat.le_succ n) _ _ _ _ hx]
    simp[he]
 obtain⟨n,r,hx,hq⟩:=key _ a0 σ h (Nat.le_refl _) h0
 exact⟨n,r,by simpa only[exec]using hx,hq⟩
theorem awp_mono{c:Code}{Q':Post}(x:awp Γ c Q σ h)(hq:∀e σ h,Q e σ h->Q' e σ h):awp Γ c Q' σ h:=by
 obtain⟨n,r,hx,q⟩:=x;exact⟨n,r,hx,hq _ _ _ q⟩
/-! ### the posts at a number -/
theorem seqQ_zero{b:Code}:seqQ Γ b Q 0 σ h=awp Γ b Q σ h:=by simp[seqQ]
theorem seqQ_ne{b:Code}{e:Nat}(he:e≠0):seqQ Γ b Q e σ h=Q e σ h:=by simp[seqQ,he]
theorem blockQ_eq{id e:Nat}:blockQ id Q e σ h=if e=id+2 then Q 0 σ h else Q e σ h:=rfl
theorem loopQ_zero{α:Type}{I:α->(Nat->Value)->Heap->Prop}{μ:α->Nat}{a:α}:loopQ I μ a Q 0 σ h=∃a',I a' σ h∧μ a'<μ a:=by simp[loopQ]
theorem loopQ_ne{α:Type}{I:α->(Nat->Value)->Heap->Prop}{μ:α->Nat}{a:α}{e:Nat}(he:e≠0):loopQ I μ a Q e σ h=Q e σ h:=by simp[loopQ,he]
theorem retQ_eq{res:List (Nat×Nat)}{R:Value->Heap->Prop}{e:Nat}:retQ res R e σ h=if e<=1 then resW (resOf σ h res) R h else False:=rfl
theorem resW_some{v:Value}{R:Value->Heap->Prop}:resW (some v) R h=R v h:=rfl
theorem condW_true{X Y:Prop}:condW (.bool true) X Y=X:=by simp[condW]
theorem condW_false{X Y:Prop}:condW (.bool false) X Y=Y:=by simp[condW]
theorem condW_intro{p:Bool}{X Y:Prop}(hx:p=true->X)(hy:p=false->Y):condW (.bool p) X Y:=by
 cases p
 ·simpa [condW]using hy rfl
 ·simpa [condW]using hx rfl
theorem condW_dec{p:Prop}[Decidable p]{X Y:Prop}(hx:p->X)(hy:¬p->Y):condW (.bool (decide p)) X Y:=by
 by_cases h:p
 ·simpa [condW,h]using hx h
 ·simpa [condW,h]using hy h
theorem bindW_some{v:Value}{h':Heap}{k:Value->Heap->Prop}:bindW (some (v,h')) k=k v h':=rfl
theorem growW_some{v:Value}{h h':Heap}{k:Value->Heap->Prop}:growW h (some (v,h')) k=(Grows h h'∧k v h'):=rfl
theorem callV_func{g:Nat}{a caps:Array Value}{args:List Value}{b:Bool}{k:Value->Heap->Prop}:callV Γ (.func (.func g) a caps) args h b k=callW Γ g (a.toList++(args++caps.toList)) h b k:=rfl
theorem callW_of{f:Nat}{args:List Value}{b:Bool}{k:Value->Heap->Prop}{R:Value->Heap->Prop}(x:ACall Γ f args h R)
  (hk:∀v h',R v h'->(b=true->Grows h h')∧k v h'):callW Γ f args h b k:=x.mono hk
/-! ### operations, one by one -/
theorem awpOps_nil{K:(Nat->Value)->Heap->Prop}:awpOps Γ [] K σ τ h=K σ h:=by
 apply propext;constructor
 ·rintro⟨n,s,hx,hq⟩;simp only[execOps,Option.some.injEq]at hx;subst hx;exact hq
 ·intro hq;exact⟨0,_,rfl,hq⟩
/-- a plain operation -/
def noCall:Op->Bool
 |.call {callee:=.builtin _,..}=>true
 |.call _=>false
 |_=>true
theorem callOf_noCall{ρ:Operand->Value}{o:Op}(ho:noCall o=true):callOf ρ o=none:=by
 unfold callOf
 split
 ·exact absurd ho (by simp[noCall])
 ·rfl
theorem cons_aux{o:Oper}{r:List Oper}{K:(Nat->Value)->Heap->Prop}{s':Nat->Option St}
  (hs:∀n,stepA qzP (callN qzP Γ n) o ⟨σ,τ,h⟩=s' n):awpOps Γ (o::r) K σ τ h=∃n s,(match s' n with|some s1=>execOps qzP (callN qzP Γ n) r s1|none=>none)=some s∧K s.σ s.h:=by
 unfold awpOps
 simp only[execOps,hs]
 rfl
theorem awpOps_plain{o:Oper}{r:List Oper}{K:(Nat->Value)->Heap->Prop}{b:Bool}(hg:o.guard=none)(hc:noCall o.op=true)(hq:isQuiet o.type=b)(h4:o.type<4:=by simp[op,opn]):
  awpOps Γ (o::r) K σ τ h=match aOp (ev σ τ) h o.op with
   |some (v,h')=>(b=true->Grows h h')∧awpOps Γ r K (if isOwn o.type∨o.dst=none then σ else upd σ (o.dst.getD 0) v) (if isOwn o.type∧o.dst≠none then upd τ (o.dst.getD 0) v else τ) h'
   |none=>False:=by
 have hs:∀n,stepA qzP (callN qzP Γ n) o ⟨σ,τ,h⟩=match aOp (ev σ τ) h o.op with
   |some (v,h')=>if isQuiet o.type=false∨qzP h h'=true then some ((⟨σ,τ,h⟩:St).put o.type o.dst v h')else none
   |none=>none:=by
  intro n
  simp only[stepA,wantedA,hg,callOf_noCall hc]
  cases aOp (ev σ τ) h o.op with
  |none=>rfl
  |some p=>
   obtain⟨v,h'⟩:=p
   simp only
   by_cases hok:isQuiet o.type=false∨qzP h h'=true
   ·rw[if_pos hok,if_pos ((okQ_small h4).symm▸hok)]
   ·rw[if_neg hok,if_neg ((okQ_small h4).symm▸hok)]
 rw[cons_aux hs]
 cases ha:aOp (ev σ τ) h o.op with
 |none=>simp
 |some p=>
  obtain⟨v,h'⟩:=p
  have hp:(⟨σ,τ,h⟩:St).put o.type o.dst v h'=⟨(if isOwn o.type∨o.dst=none then σ else upd σ (o.dst.getD 0) v),(if isOwn o.type∧o.dst≠none then upd τ (o.dst.getD 0) v else τ),h'⟩:=by
   cases hd:o.dst with
   |none=>simp[St.put]
   |some d=>cases hi:isOwn o.type<;>simp[St.put,hi]
  simp only[hp,hq]
  apply propext
  by_cases hok:b=false∨qzP h h'=true
  ·have hgr:b=true->Grows h h':=by
    intro hb
    rcases hok with h0|h0
    ·simp[h0]at hb
    ·exact qzP_iff.1 h0
   simp only[hok,if_true]
   exact⟨λx=>⟨hgr,x⟩,λx=>x.2⟩
  ·simp only[hok,if_false]
   constructor
   ·rintro⟨n,s,hx,_⟩;simp at hx
   ·rintro⟨hx,_⟩
    refine absurd ?_ hok
    cases b
    ·exact .inl rfl
    ·exact .inr (qzP_iff.2 (hx rfl))
theorem awpOps_0{d:Nat}{o:Op}{r:List Oper}{K:(Nat->Value)->Heap->Prop}(hc:noCall o=true):
  awpOps Γ (op d o::r) K σ τ h=bindW (aOp (ev σ τ) h o) λv h'=>awpOps Γ r K (upd σ d v) τ h':=by
 rw[awpOps_plain (o:=op d o) rfl hc rfl]
 simp only[op,isQuiet,isOwn,bindW]
 cases aOp (ev σ τ) h o<;>simp
theorem awpOps_1{d:Nat}{o:Op}{r:List Oper}{K:(Nat->Value)->Heap->Prop}(hc:noCall o=true):
  awpOps Γ (op d o 1::r) K σ τ h=bindW (aOp (ev σ τ) h o) λv h'=>awpOps Γ r K σ (upd τ d v) h':=by
 rw[awpOps_plain (o:=op d o 1) rfl hc rfl]
 simp only[op,isQuiet,isOwn,bindW]
 cases aOp (ev σ τ) h o<;>simp
theorem awpOps_2{d:Nat}{o:Op}{r:List Oper}{K:(Nat->Value)->Heap->Prop}(hc:noCall o=true):
  awpOps Γ (op d o 2::r) K σ τ h=growW h (aOp (ev σ τ) h o) λv h'=>awpOps Γ r K (upd σ d v) τ h':=by
 rw[awpOps_plain (o:=op d o 2) rfl hc rfl]
 simp only[op,isQuiet,isOwn,growW]
 cases aOp (ev σ τ) h o<;>simp
theorem awpOps_3{d:Nat}{o:Op}{r:List Oper}{K:(Nat->Value)->Heap->Prop}(hc:noCall o=true):
  awpOps Γ (op d o 3::r) K σ τ h=growW h (aOp (ev σ τ) h o) λv h'=>awpOps Γ r K σ (upd τ d v) h':=by
 rw[awpOps_plain (o:=op d o 3) rfl hc rfl]
 simp only[op,isQuiet,isOwn,growW]
 cases aOp (ev σ τ) h o<;>simp
theorem awpOps_n{o:Op}{r:List Oper}{K:(Nat->Value)->Heap->Prop}(hc:noCall o=true):
  awpOps Γ (opn o::r) K σ τ h=bindW (aOp (ev σ τ) h o) λ_ h'=>awpOps Γ r K σ τ h':=by
 rw[awpOps_plain (o:=opn o) rfl hc rfl]
 simp only[opn,isQuiet,isOwn,bindW]
 cases aOp (ev σ τ) h o<;>simp
def plainW(b:Bool)(X Y:Prop):Prop:=if b then X else Y
/-- the same, left as it is -/
def awpRaw(Γ:Nat->Option AFun)(l:List Oper)(K:(Nat->Value)->Heap->Prop)(σ τ:Nat->Value)(h:Heap):Prop:=awpOps Γ l K σ τ h
theorem plainW_true{X Y:Prop}:plainW true X Y=X:=rfl
theorem awpOps_p0{d:Nat}{o:Op}{r:List Oper}{K:(Nat->Value)->Heap->Prop}:
  awpOps Γ (op d o::r) K σ τ h=plainW (noCall o) (bindW (aOp (ev σ τ) h o) λv h'=>awpOps Γ r K (upd σ d v) τ h') (awpRaw Γ (op d o::r) K σ τ h):=by
 cases hc:noCall o
 ·rfl
 ·rw[plainW_true];exact awpOps_0 hc
theorem awpOps_p1{d:Nat}{o:Op}{r:List Oper}{K:(Nat->Value)->Heap->Prop}:
  awpOps Γ (op d o 1::r) K σ τ h=plainW (noCall o) (bindW (aOp (ev σ τ) h o) λv h'=>awpOps Γ r K σ (upd τ d v) h') (awpRaw Γ (op d o 1::r) K σ τ h):=by
 cases hc:noCall o
 ·rfl
 ·rw[plainW_true];exact awpOps_1 hc
theorem awpOps_p2{d:Nat}{o:Op}{r:List Oper}{K:(Nat->Value)->Heap->Prop}:
  awpOps Γ (op d o 2::r) K σ τ h=plainW (noCall o) (growW h (aOp (ev σ τ) h o) λv h'=>awpOps Γ r K (upd σ d v) τ h') (awpRaw Γ (op d o 2::r) K σ τ h):=by
 cases hc:noCall o
 ·rfl
 ·rw[plainW_true];exact awpOps_2 hc
theorem awpOps_p3{d:Nat}{o:Op}{r:List Oper}{K:(Nat->Value)->Heap->Prop}:
  awpOps Γ (op d o 3::r) K σ τ h=plainW (noCall o) (growW h (aOp (ev σ τ) h o) λv h'=>awpOps Γ r K σ (upd τ d v) h') (awpRaw Γ (op d o 3::r) K σ τ h):=by
 cases hc:noCall o
 ·rfl
 ·rw[plainW_true];exact awpOps_3 hc
theorem awpOps_pn{o:Op}{r:List Oper}{K:(Nat->Value)->Heap->Prop}:
  awpOps Γ (opn o::r) K σ τ h=plainW (noCall o) (bindW (aOp (ev σ τ) h o) λ_ h'=>awpOps Γ r K σ τ h') (awpRaw Γ (opn o::r) K σ τ h):=by
 cases hc:noCall o
 ·rfl
 ·rw[plainW_true];exact awpOps_n hc
theorem awpOps_callAny{o:Oper}{f:Operand}{args:Array Operand}{r:List Oper}{K:(Nat->Value)->Heap->Prop}(hg:o.guard=none)(ho:o.op=call f args)(h4:o.type<4:=by simp[op,opn]):
  awpOps Γ (o::r) K σ τ h=callV Γ (ev σ τ f) (args.toList.map (ev σ τ)) h (isQuiet o.type) λv h'=>
   awpOps Γ r K (if isOwn o.type∨o.dst=none then σ else upd σ (o.dst.getD 0) v) (if isOwn o.type∧o.dst≠none then upd τ (o.dst.getD 0) v else τ) h':=by
 have hp:∀v h',(⟨σ,τ,h⟩:St).put o.type o.dst v h'=⟨(if isOwn o.type∨o.dst=none then σ else upd σ (o.dst.getD 0) v),(if isOwn o.type∧o.dst≠none then upd τ (o.dst.getD 0) v else τ),h'⟩:=by
  intro v h'
  cases hd:o.dst with
  |none=>simp[St.put]
  |some d=>cases hi:isOwn o.type<;>simp[St.put,hi]
 unfold callV
 split
 ·rename_i g a caps hf
  unfold callW ACall
  apply propext
  constructor
  ·rintro⟨n,s,hx,hk⟩
   simp only[execOps,stepA,wantedA,hg,ho,call,callOf,hf,okQ_small h4]at hx
   cases hc:callN qzP Γ n g (a.toList++(args.toList.map (ev σ τ)++caps.toList)) h with
   |none=>simp[hc]at hx
   |some p=>
    obtain⟨v,h'⟩:=p
    simp only[hc]at hx
    by_cases hok:isQuiet o.type=false∨qzP h h'=true
    ·rw[if_pos hok]at hx
     rw[hp]at hx
     refine⟨n,v,h',hc,λhb=>?_,n,s,hx,hk⟩
     rcases hok with h0|h0
     ·simp[h0]at hb
     ·exact qzP_iff.1 h0
    ·rw[if_neg hok]at hx;simp at hx
  ·rintro⟨n,v,h',hc,hgr,m,s,hx,hk⟩
   refine⟨max n m,s,?_,hk⟩
   simp only[execOps,stepA,wantedA,hg,ho,call,callOf,hf,okQ_small h4]
   rw[callN_mono Γ (Nat.le_max_left n m) _ _ _ _ hc]
   have hok:isQuiet o.type=false∨qzP h h'=true:=by
    cases hb:isQuiet o.type
    ·exact .inl rfl
    ·exact .inr (qzP_iff.2 (hgr hb))
   simp only[hok,if_true]
   rw[hp]
   exact execOps_mono (callN_mono Γ (Nat.le_max_right n m)) _ _ _ hx
 ·rename_i hno
  apply propext
  constructor
  ·rintro⟨n,s,hx,hk⟩
   have hcn:callOf (ev σ τ) (.call {callee:=.value f,args:=args,argTypes:=#[]})=none:=by
    simp only[callOf]
    try rfl
   simp only[execOps,stepA,wantedA,hg,ho,call,hcn,aOp]at hx
   exact absurd hx (by simp)
  ·intro hx;exact hx.elim
theorem awpOps_call0{d:Nat}{f:Operand}{args:Array Operand}{r:List Oper}{K:(Nat->Value)->Heap->Prop}:
  awpOps Γ (op d (call f args)::r) K σ τ h=callV Γ (ev σ τ f) (args.toList.map (ev σ τ)) h false λv h'=>awpOps Γ r K (upd σ d v) τ h':=by
 rw[awpOps_callAny (o:=op d (call f args)) rfl rfl]
 simp[op,isQuiet,isOwn]
theorem awpOps_call1{d:Nat}{f:Operand}{args:Array Operand}{r:List Oper}{K:(Nat->Value)->Heap->Prop}:
  awpOps Γ (op d (call f args) 1::r) K σ τ h=callV Γ (ev σ τ f) (args.toList.map (ev σ τ)) h false λv h'=>awpOps Γ r K σ (upd τ d v) h':=by
 rw[awpOps_callAny (o:=op d (call f args) 1) rfl rfl]
 simp[op,isQuiet,isOwn]
theorem awpOps_call2{d:Nat}{f:Operand}{args:Array Operand}{r:List Oper}{K:(Nat->Value)->Heap->Prop}:
  awpOps Γ (op d (call f args) 2::r) K σ τ h=callV Γ (ev σ τ f) (args.toList.map (ev σ τ)) h true λv h'=>awpOps Γ r K (upd σ d v) τ h':=by
 rw[awpOps_callAny (o:=op d (call f args) 2) rfl rfl]
 simp[op,isQuiet,isOwn]
theorem awpOps_call3{d:Nat}{f:Operand}{args:Array Operand}{r:List Oper}{K:(Nat->Value)->Heap->Prop}:
  awpOps Γ (op d (call f args) 3::r) K σ τ h=callV Γ (ev σ τ f) (args.toList.map (ev σ τ)) h true λv h'=>awpOps Γ r K σ (upd τ d v) h':=by
 rw[awpOps_callAny (o:=op d (call f args) 3) rfl rfl]
 simp[op,isQuiet,isOwn]
theorem awpOps_calln{f:Operand}{args:Array Operand}{r:List Oper}{K:(Nat->Value)->Heap->Prop}:
  awpOps Γ (opn (call f args)::r) K σ τ h=callV Γ (ev σ τ f) (args.toList.map (ev σ τ)) h false λ_ h'=>awpOps Γ r K σ τ h':=by
 rw[awpOps_callAny (o:=opn (call f args)) rfl rfl]
 simp[opn,isQuiet,isOwn]
def gslot(i:Nat):Operand:=if i%2=1 then .global (i/4)else .tmp (i/4)
/-- What a guard sees; where nothing is there, that it is not what is wanted. -/
def gval(w:Bool)(v:Value):Value:=match v with
 |.tuple _=>.bool (!w)
 |v=>v
theorem gval_bool{w b:Bool}:gval w (.bool b)=.bool b:=rfl
theorem gval_tuple{w:Bool}{xs:Array Value}:gval w (.tuple xs)=.bool (!w):=rfl
/-- A call that must leave the block that is read beside it. -/
theorem awpOps_side{d q:Nat}{x f:Operand}{args:Array Operand}{r:List Oper}{K:(Nat->Value)->Heap->Prop}{g:Nat}{caps:Array Value}{R:Value->Heap->Prop}
  (hs:sideOf q=some x) (hq:isQuiet q=false) (hf:ev σ τ f=.func (.func g) #[] caps) (hc:ACall Γ g (args.toList.map (ev σ τ)++caps.toList) h R)
  (hk:∀v h',R v h'->sameAt h h' (ev σ τ x)=true∧awpOps Γ r K (if isOwn q then σ else upd σ d v) (if isOwn q then upd τ d v else τ) h'):awpOps Γ (op d (call f args) q::r) K σ τ h:=by
 obtain⟨n,v,h',hc,hR⟩:=hc
 obtain⟨hsame,m,s,hx,hK⟩:=hk v h' hR
 have hok:okQ qzP q (ev σ τ) h h'=true:=by
  unfold okQ;rw[hs]
  simp only[Bool.and_eq_true,Bool.or_eq_true,Bool.not_eq_true']
  exact⟨.inl hq,hsame⟩
 have hp:(⟨σ,τ,h⟩:St).put q (some d) v h'=⟨if isOwn q then σ else upd σ d v,if isOwn q then upd τ d v else τ,h'⟩:=by
  cases hi:isOwn q<;>simp[St.put,hi]
 refine⟨max n m,s,?_,hK⟩
 simp only[execOps,stepA,wantedA,op,call,callOf,hf,List.nil_append]
 rw[callN_mono Γ (Nat.le_max_left n m) _ _ _ _ hc]
 simp only[hok,if_true]
 rw[hp]
 exact execOps_mono (callN_mono Γ (Nat.le_max_right n m)) _ _ _ hx
theorem awpOps_guardAny{o:Oper}{i:Nat}{w:Bool}{r:List Oper}{K:(Nat->Value)->Heap->Prop}(hg:o.guard=some (i,w)):
  awpOps Γ (o::r) K σ τ h=condW (gval w (ev σ τ (gslot i)))
   (if w then awpOps Γ ({o with guard:=none}::r) K σ τ h else awpOps Γ r K (if isOwn o.type∨o.dst=none then σ else upd σ (o.dst.getD 0) (skipV o.guard)) (if isOwn o.type∧o.dst≠none then upd τ (o.dst.getD 0) (skipV o.guard)else τ) h)
   (if w then awpOps Γ r K (if isOwn o.type∨o.dst=none then σ else upd σ (o.dst.getD 0) (skipV o.guard)) (if isOwn o.type∧o.dst≠none then upd τ (o.dst.getD 0) (skipV o.guard)else τ) h else awpOps Γ ({o with guard:=none}::r) K σ τ h):=by
 have hp:(⟨σ,τ,h⟩:St).put o.type o.dst (skipV o.guard) h=⟨(if isOwn o.type∨o.dst=none then σ else upd σ (o.dst.getD 0) (skipV o.guard)),(if isOwn o.type∧o.dst≠none then upd τ (o.dst.getD 0) (skipV o.guard)else τ),h⟩:=by
  cases hd:o.dst with
  |none=>simp[St.put]
  |some d=>cases hi:isOwn o.type<;>simp[St.put,hi]
 rw[hg]at hp ⊢
 have hyes:∀c,ev σ τ (gslot i)=.bool c->c=w->awpOps Γ (o::r) K σ τ h=awpOps Γ ({o with guard:=none}::r) K σ τ h:=by
  intro c hc hw
  have hc':ev σ τ (if i%2=1 then .global (i/4)else .tmp (i/4))=.bool c:=hc
  unfold awpOps
  simp only[execOps,stepA,wantedA,hg,hc',hw,BEq.rfl]
 have hno:∀c,ev σ τ (gslot i)=.bool c->c≠w->awpOps Γ (o::r) K σ τ h=awpOps Γ r K (if isOwn o.type∨o.dst=none then σ else upd σ (o.dst.getD 0) (skipV (some (i,w)))) (if isOwn o.type∧o.dst≠none then upd τ (o.dst.getD 0) (skipV (some (i,w)))else τ) h:=by
  intro c hc hw
  have hc':ev σ τ (if i%2=1 then .global (i/4)else .tmp (i/4))=.bool c:=hc
  have hw':(c==w)=false:=by simpa using hw
  unfold awpOps
  simp only[execOps,stepA,wantedA,hg,hc',hw',hp]
 have hsk:∀xs,ev σ τ (gslot i)=.tuple xs->awpOps Γ (o::r) K σ τ h=awpOps Γ r K (if isOwn o.type∨o.dst=none then σ else upd σ (o.dst.getD 0) (skipV (some (i,w)))) (if isOwn o.type∧o.dst≠none then upd τ (o.dst.getD 0) (skipV (some (i,w)))else τ) h:=by
  intro xs hc
  have hc':ev σ τ (if i%2=1 then .global (i/4)else .tmp (i/4))=.tuple xs:=hc
  unfold awpOps
  simp only[execOps,stepA,wantedA,hg,hc',hp]
 have hst:(∀c,ev σ τ (gslot i)≠.bool c)->(∀xs,ev σ τ (gslot i)≠.tuple xs)->¬awpOps Γ (o::r) K σ τ h:=by
  intro hn hn'
  rintro⟨n,s,hx,_⟩
  have hwn:wantedA ⟨σ,τ,h⟩ (some (i,w))=none:=by
   unfold wantedA
   split
   ·rename_i e;cases e
   ·rename_i e
    injection e with e
    injection e with e1 e2
    subst e1
    split
    ·rename_i c hc;exact absurd hc (hn c)
    ·rename_i c hc;exact absurd hc (hn' c)
    ·rfl
  simp[execOps,stepA,hg,hwn]at hx
 cases hv:ev σ τ (gslot i)with
 |bool c=>
  rw[gval_bool]
  unfold condW
  cases c<;>cases w
  ·simpa using hyes _ hv rfl
  ·simpa using hno _ hv (by simp)
  ·simpa using hno _ hv (by simp)
  ·simpa using hyes _ hv rfl
 |tuple xs=>
  rw[gval_tuple]
  unfold condW
  cases w
  ·simpa using hsk _ hv
  ·simpa using hsk _ hv
 |_=>
  have:=hst (by rw[hv];simp) (by rw[hv];simp)
  simp[gval,condW,this]
theorem awpOps_g0{d i:Nat}{w:Bool}{o:Op}{r:List Oper}{K:(Nat->Value)->Heap->Prop}:awpOps Γ (op d o 0 (some (i,w))::r) K σ τ h=condW (gval w (ev σ τ (gslot i)))
  (if w then awpOps Γ (op d o::r) K σ τ h else awpOps Γ r K (upd σ d (skipV (some (i,w)))) τ h) (if w then awpOps Γ r K (upd σ d (skipV (some (i,w)))) τ h else awpOps Γ (op d o::r) K σ τ h):=by
 rw[awpOps_guardAny (o:=op d o 0 (some (i,w))) rfl];simp[op,isOwn]
theorem awpOps_g1{d i:Nat}{w:Bool}{o:Op}{r:List Oper}{K:(Nat->Value)->Heap->Prop}:awpOps Γ (op d o 1 (some (i,w))::r) K σ τ h=condW (gval w (ev σ τ (gslot i)))
  (if w then awpOps Γ (op d o 1::r) K σ τ h else awpOps Γ r K σ (upd τ d (skipV (some (i,w)))) h) (if w then awpOps Γ r K σ (upd τ d (skipV (some (i,w)))) h else awpOps Γ (op d o 1::r) K σ τ h):=by
 rw[awpOps_guardAny (o:=op d o 1 (some (i,w))) rfl];simp[op,isOwn]
theorem awpOps_g2{d i:Nat}{w:Bool}{o:Op}{r:List Oper}{K:(Nat->Value)->Heap->Prop}:awpOps Γ (op d o 2 (some (i,w))::r) K σ τ h=condW (gval w (ev σ τ (gslot i)))
  (if w then awpOps Γ (op d o 2::r) K σ τ h else awpOps Γ r K (upd σ d (skipV (some (i,w)))) τ h) (if w then awpOps Γ r K (upd σ d (skipV (some (i,w)))) τ h else awpOps Γ (op d o 2::r) K σ τ h):=by
 rw[awpOps_guardAny (o:=op d o 2 (some (i,w))) rfl];simp[op,isOwn]
theorem awpOps_g3{d i:Nat}{w:Bool}{o:Op}{r:List Oper}{K:(Nat->Value)->Heap->Prop}:awpOps Γ (op d o 3 (some (i,w))::r) K σ τ h=condW (gval w (ev σ τ (gslot i)))
  (if w then awpOps Γ (op d o 3::r) K σ τ h else awpOps Γ r K σ (upd τ d (skipV (some (i,w)))) h) (if w then awpOps Γ r K σ (upd τ d (skipV (some (i,w)))) h else awpOps Γ (op d o 3::r) K σ τ h):=by
 rw[awpOps_guardAny (o:=op d o 3 (some (i,w))) rfl];simp[op,isOwn]
end use
/-- A row: the lasting number of a function, and what it is. -/
abbrev Tab:=List (Nat×AFun)
def look(t:Tab)(f:Nat):Option AFun:=match t with
 |[]=>none
 |(n,F)::r=>if n=f then some F else look r f
end Am

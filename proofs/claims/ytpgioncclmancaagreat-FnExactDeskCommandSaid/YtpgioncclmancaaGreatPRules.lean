/- The rules of 'Am': what a piece of code leaves, said by a condition on what is there behind it. -/
import Derived.Test.YtpgioncclmancaaGreatPCore
set_option linter.unusedVariables false
set_option linter.unusedSimpArgs false
namespace Am
open Go
def ae(h h':a9):Prop:=∃l,h'=h++l
theorem ae.refl(h:a9):ae h h:=⟨[],by simp⟩
theorem ae.trans{a b c:a9}(x:ae a b)(y:ae b c):ae a c:=by obtain⟨l,rfl⟩:=x;obtain⟨m,rfl⟩:=y;exact⟨l++m,by simp⟩
open Classical in
noncomputable def kh(h h':a9):Bool:=decide (ae h h')
theorem Cw{h h':a9}:kh h h'=true↔ae h h':=by unfold kh;simp
section mono
variable {qz : a9 -> a9 -> Bool} {call Fx : oh}
def Le(call Fx:oh):Prop:=∀f a h r,call f a h=some r->Fx f a h=some r
theorem ad8(e:Le call Fx){o:Oper}{s d:St}(h:qt qz call o s=some d):qt qz Fx o s=some d:=by
 unfold qt at*;cases hw:qF s o.guard with
 |none=>simp[hw]at h
 |some b=>
  cases b with
  |false=>simpa [hw]using h
  |true=>
   simp only[hw]at h ⊢;cases c:kt (ev s.σ s.τ) o.op with
   |none=>simpa [c]using h
   |some p=>
    obtain⟨f,args⟩:=p;simp only[c]at h ⊢;cases a:call f args s.h with
    |none=>simp[a]at h
    |some r=>rw[e _ _ _ _ a];simpa [a]using h
theorem Ez(c:Le call Fx):∀(l:List Oper) (s a:St),jL qz call l s=some a->jL qz Fx l s=some a:=by
 intro l
 induction l with
 |nil=>intro s a h;exact h
 |cons o r ih=>
  intro s a h;simp only[jL]at h ⊢;cases b:qt qz call o s with
  |none=>simp[b]at h
  |some s1=>rw[ad8 c b];simp only[b]at h;exact ih _ _ h
theorem OT{f g:(Nat->Value)->a9->Option Out}(b:∀σ h r,f σ h=some r->g σ h=some r):
  ∀(n m:Nat) (_:n<=m) (σ:Nat->Value) (h:a9) (r:Out),u7 f n σ h=some r->u7 g m σ h=some r:=by
 intro n
 induction n with
 |zero=>intro m _ σ h r a;simp[u7]at a
 |succ n ih=>
  intro m hm σ h r a;obtain⟨m,rfl⟩:∃k,m=k+1:=⟨m-1,by omega⟩;simp only[u7]at a ⊢
  grind
theorem yd(j:Le call Fx){n m:Nat}(hm:n<=m):∀(c:Code) (σ:Nat->Value) (h:a9) (r:Out),
  exec qz call n c σ h=some r->exec qz Fx m c σ h=some r:=by
 intro c
 induction c with
 |skip=>intro σ h r e;exact e
 |region id ops d=>
  intro σ h r e;simp only[exec]at e ⊢;cases f:jL qz call ops.toList ⟨σ,nothing,h⟩with
  |none=>simp[f]at e
  |some s=>rw[Ez j _ _ _ f];simpa [f]using e
 |seq a b g i=>
  intro σ h r e;simp only[exec]at e ⊢
  grind
 |cond c a b g i=>
  intro σ h r e;simp only[exec]at e ⊢
  grind
 |block id c ih=>
  intro σ h r e;simp only[exec]at e ⊢
  grind
 |loop c ih=>
  intro σ h r e;simp only[exec]at e ⊢;exact OT ih n m hm _ _ _ e
 |rangeFunc=>intro σ h r e;simp[exec]at e
 |exit id=>intro σ h r e;exact e
 |scope=>intro σ h r e;simp[exec]at e
 |label=>intro σ h r e;simp[exec]at e
 |goto=>intro σ h r e;simp[exec]at e
 |ret=>intro σ h r e;exact e
 |refuse=>intro σ h r e;simp[exec]at e
theorem ZJ(Γ:Nat->Option mC):∀n,Le (nC qz Γ n) (nC qz Γ (n+1)):=by
 intro n
 induction n with
 |zero=>intro f a h r b;simp[nC]at b
 |succ n ih=>
  intro f a h r b;unfold nC at b ⊢;cases d:Γ f with
  |none=>simp[d]at b
  |some fn=>
   simp only[d]at b ⊢;cases c:vM fn.code with
   |some p=>simpa [c]using b
   |none=>
   simp only[c]at b ⊢;split at b
   ·rename_i hl;rw[if_pos hl];cases he:exec qz (nC qz Γ n) n fn.code (init a) h with
    |none=>simp[he]at b
    |some x=>
     rw[yd ih (nH n) _ _ _ _ he];simpa [he]using b
   ·simp at b
theorem qT(Γ:Nat->Option mC){n m:Nat}(h:n<=m):Le (nC qz Γ n) (nC qz Γ m):=by
 obtain⟨k,rfl⟩:∃k,m=n+k:=⟨m-n,by omega⟩;clear h
 induction k with
 |zero=>intro f a h r b;exact b
 |succ k ih=>intro f a h r b;exact ZJ Γ _ _ _ _ _ (ih _ _ _ _ b)
end mono
section rules
variable (Γ : Nat -> Option mC)
def aN(f:Nat)(args:List Value)(h:a9)(R:Value->a9->Prop):Prop:=
 ∃n v h',nC kh Γ n f args h=some (v,h')∧R v h'
abbrev xy:=Nat->(Nat->Value)->a9->Prop
def tM(c:Code)(Q:xy)(σ:Nat->Value)(h:a9):Prop:=
 ∃n r,exec kh (nC kh Γ n) n c σ h=some r∧Q r.e r.σ r.h
def cU(l:List Oper)(K:(Nat->Value)->a9->Prop)(σ τ:Nat->Value)(h:a9):Prop:=
 ∃n s,jL kh (nC kh Γ n) l ⟨σ,τ,h⟩=some s∧K s.σ s.h
def aP(b:Code)(Q:xy):xy:=λe σ h=>if e=0 then tM Γ b Q σ h else Q e σ h
def eY(id:Nat)(Q:xy):xy:=λe σ h=>if e=id+2 then Q 0 σ h else Q e σ h
def D5{α:Type}(I:α->(Nat->Value)->a9->Prop)(b:α->Nat)(a:α)(Q:xy):xy:=
 λe σ h=>if e=0 then ∃a',I a' σ h∧b a'<b a else Q e σ h
def Kt(o:Option Value)(R:Value->a9->Prop)(h:a9):Prop:=match o with
 |some v=>R v h
 |none=>False
def zn(res:List (Nat×Nat))(R:Value->a9->Prop):xy:=λe σ h=>if e<=1 then Kt (cY σ h res) R h else False
def oG(v:Value)(X Y:Prop):Prop:=match v with
 |.bool p=>if p then X else Y
 |_=>False
def gE(o:Option (Value×a9))(k:Value->a9->Prop):Prop:=match o with
 |some p=>k p.1 p.2
 |none=>False
def CN(h:a9)(o:Option (Value×a9))(k:Value->a9->Prop):Prop:=match o with
 |some p=>ae h p.2∧k p.1 p.2
 |none=>False
def HJ(f:Nat)(args:List Value)(h:a9)(quiet:Bool)(k:Value->a9->Prop):Prop:=
 aN Γ f args h λv h'=>(quiet=true->ae h h')∧k v h'
def CJ(f:Value)(args:List Value)(h:a9)(quiet:Bool)(k:Value->a9->Prop):Prop:=match f with
 |.func (.func g) a b=>HJ Γ g (a.toList++(args++b.toList)) h quiet k
 |_=>False
end rules
def call(f:Operand)(args:Array Operand):Op:=.call {callee:=.value f,args:=args,argTypes:=#[]}
def bi(b:Builtin)(args:Array Operand)(z:Nat):Op:=.call {callee:=.builtin b,args:=args,argTypes:=#[z]}
def zV(l:List Oper):Code:=.region 0 l.toArray false
section use
variable {Γ : Nat -> Option mC} {Q : xy} {σ τ : Nat -> Value} {h : a9}
theorem aN.mono{f:Nat}{args:List Value}{R a:Value->a9->Prop}(x:aN Γ f args h R)(c:∀v h',R v h'->a v h'):aN Γ f args h a:=by obtain⟨n,v,h',b,r⟩:=x;exact⟨n,v,h',b,c _ _ r⟩
theorem CF{f:Nat}{args:List Value}{fn:mC}{R:Value->a9->Prop}(g:Γ f=some fn)(d:args.length=fn.ar)(x:tM Γ fn.code (zn fn.res R) (init args) h):aN Γ f args h R:=by
 obtain⟨n,r,hx,a⟩:=x;unfold zn at a;split at a
 ·rename_i he;unfold Kt at a;cases b:cY r.σ r.h fn.res with
  |none=>simp[b]at a
  |some v=>
   refine⟨n+1,v,r.h,?_,by simpa [b]using a⟩;have c:vM fn.code=none:=by
    cases e:fn.code with
    |goto k=>rw[e]at hx;simp[exec]at hx
    |_=>rfl
   simp[nC,g,d,hx,he,b,c]
 ·exact a.elim
theorem Hs{f:Nat}{args:List Value}{fn:mC}{p:List Value->a9->Option (Value×a9)}{R:Value->a9->Prop}{v:Value}{h':a9}(c:Γ f=some fn)(hp:vM fn.code=some p)(b:args.length=fn.ar)(hx:p args h=some (v,h'))(a:R v h'):aN Γ f args h R:=
 ⟨1,v,h',by simp[nC,c,hp,b,hx],a⟩
theorem pI:tM Γ .skip Q σ h=Q 0 σ h:=by
 apply propext;constructor
 ·rintro⟨n,r,hx,a⟩;simp only[exec,aI]at hx;subst hx;exact a
 ·intro a;exact⟨0,_,rfl,a⟩
theorem Mp{id:Nat}:tM Γ (.exit id) Q σ h=Q (id+2) σ h:=by
 apply propext;constructor
 ·rintro⟨n,r,hx,a⟩;simp only[exec,aI]at hx;subst hx;exact a
 ·intro a;exact⟨0,_,rfl,a⟩
theorem amM:tM Γ .ret Q σ h=Q 1 σ h:=by
 apply propext;constructor
 ·rintro⟨n,r,hx,a⟩;simp only[exec,aI]at hx;subst hx;exact a
 ·intro a;exact⟨0,_,rfl,a⟩
theorem aw{a b:Code}:tM Γ (.seq a b) Q σ h=tM Γ a (aP Γ b Q) σ h:=by
 apply propext;constructor
 ·rintro⟨n,r,hx,c⟩;simp only[exec]at hx;cases d:exec kh (nC kh Γ n) n a σ h with
  |none=>simp[d]at hx
  |some x=>
   refine⟨n,x,d,?_⟩;simp only[d]at hx;unfold aP;split at hx
   ·rename_i he;rw[if_pos he];exact⟨n,r,hx,c⟩
   ·grind
 ·rintro⟨n,x,hx,c⟩;unfold aP at c;split at c
  ·rename_i he;obtain⟨m,r,e,c⟩:=c;refine⟨max n m,r,?_,c⟩;simp only[exec];rw[yd (qT Γ (mI n m)) (mI n m) _ _ _ _ hx];simp only[he,if_true];exact yd (qT Γ (mu n m)) (mu n m) _ _ _ _ e
  ·rename_i he;exact⟨n,x,by simp[exec,hx,he],c⟩
theorem Mo{c:Operand}{a b:Code}:tM Γ (.cond c a b) Q σ h=oG (ev σ nothing c) (tM Γ a Q σ h) (tM Γ b Q σ h):=by
 apply propext;unfold oG;constructor
 ·rintro⟨n,r,hx,d⟩;simp only[exec]at hx;split at hx
  ·rename_i p hp;rw[hp];cases p
   ·exact⟨n,r,by simpa using hx,d⟩
   ·exact⟨n,r,by simpa using hx,d⟩
  ·simp at hx
 ·intro d;split at d
  ·rename_i p hp;cases p
   ·obtain⟨n,r,hx,d⟩:=(show tM Γ b Q σ h by simpa using d);exact⟨n,r,by simp[exec,hp,hx],d⟩
   ·obtain⟨n,r,hx,d⟩:=(show tM Γ a Q σ h by simpa using d);exact⟨n,r,by simp[exec,hp,hx],d⟩
  ·exact d.elim
theorem gJ{id:Nat}{c:Code}:tM Γ (.block id c) Q σ h=tM Γ c (eY id Q) σ h:=by
 apply propext;constructor
 ·rintro⟨n,r,hx,a⟩;simp only[exec]at hx;cases b:exec kh (nC kh Γ n) n c σ h with
  |none=>simp[b]at hx
  |some x=>
   refine⟨n,x,b,?_⟩;simp only[b]at hx;unfold eY
   grind
 ·rintro⟨n,x,hx,a⟩;unfold eY at a;split at a
  ·rename_i he;exact⟨n,⟨0,x.σ,x.h⟩,by simp[exec,hx,he],a⟩
  ·rename_i he;exact⟨n,x,by simp[exec,hx,he],a⟩
theorem Zn{i:Nat}{ops:Array Oper}{d:Bool}:tM Γ (.region i ops d) Q σ h=cU Γ ops.toList (Q 0) σ nothing h:=by
 apply propext;constructor
 ·rintro⟨n,r,hx,b⟩;simp only[exec]at hx;cases a:jL kh (nC kh Γ n) ops.toList ⟨σ,nothing,h⟩with
  |none=>simp[a]at hx
  |some s=>simp only[a,aI]at hx;subst hx;exact⟨n,s,a,b⟩
 ·rintro⟨n,s,hx,b⟩;exact⟨n,⟨0,s.σ,s.h⟩,by simp[exec,hx],b⟩
theorem cy{l:List Oper}:tM Γ (zV l) Q σ h=cU Γ l (Q 0) σ nothing h:=by unfold zV;rw[Zn]
theorem aU{α:Type}{c:Code}(I:α->(Nat->Value)->a9->Prop)(f:α->Nat)(d:α)(h0:I d σ h)
  (step:∀a σ h,I a σ h->tM Γ c (D5 I f a Q) σ h):tM Γ (.loop c) Q σ h:=by
 have key:∀k a σ h,f a<=k->I a σ h->∃n r,u7 (exec kh (nC kh Γ n) n c) n σ h=some r∧Q r.e r.σ r.h:=by
  intro k
  induction k with
  |zero=>
   intro a σ h i hi;obtain⟨n,r,hx,b⟩:=step a σ h hi;unfold D5 at b;split at b
   ·omega
   ·rename_i he;refine⟨n+1,r,?_,b⟩;simp only[u7];rw[yd (qT Γ (nH n)) (nH n) _ _ _ _ hx];simp[he]
  |succ k ih=>
   intro a σ h i hi;obtain⟨n,r,hx,b⟩:=step a σ h hi;unfold D5 at b;split at b
   ·rename_i he;obtain⟨a',iY,p⟩:=b;obtain⟨m,l,o,g⟩:=ih a' _ _ (by omega) iY;refine⟨max n m+1,l,?_,g⟩;simp only[u7];rw[yd (qT Γ (show n<=max n m+1 by omega)) (show n<=max n m+1 by omega) _ _ _ _ hx];simp only[he,if_true];refine OT (λσ h r j=>?_) m _ (by omega) _ _ _ o;exact yd (qT Γ (show m<=max n m+1 by omega)) (show m<=max n m+1 by omega) _ _ _ _ j
   ·rename_i he;refine⟨n+1,r,?_,b⟩;simp only[u7];rw[yd (qT Γ (nH n)) (nH n) _ _ _ _ hx];simp[he]
 obtain⟨n,r,hx,b⟩:=key _ d σ h (aa _) h0;exact⟨n,r,by simpa only[exec]using hx,b⟩
theorem aBX{c:Code}{a:xy}(x:tM Γ c Q σ h)(b:∀e σ h,Q e σ h->a e σ h):tM Γ c a σ h:=by obtain⟨n,r,hx,q⟩:=x;exact⟨n,r,hx,b _ _ _ q⟩
theorem aq{b:Code}:aP Γ b Q 0 σ h=tM Γ b Q σ h:=by simp[aP]
theorem QB{b:Code}{e:Nat}(he:e≠0):aP Γ b Q e σ h=Q e σ h:=by simp[aP,he]
theorem fk{id e:Nat}:eY id Q e σ h=if e=id+2 then Q 0 σ h else Q e σ h:=rfl
theorem adJ{α:Type}{I:α->(Nat->Value)->a9->Prop}{b:α->Nat}{a:α}:D5 I b a Q 0 σ h=∃a',I a' σ h∧b a'<b a:=by simp[D5]
theorem ajw{α:Type}{I:α->(Nat->Value)->a9->Prop}{b:α->Nat}{a:α}{e:Nat}(he:e≠0):D5 I b a Q e σ h=Q e σ h:=by simp[D5,he]
theorem aFR{res:List (Nat×Nat)}{R:Value->a9->Prop}{e:Nat}:zn res R e σ h=if e<=1 then Kt (cY σ h res) R h else False:=rfl
theorem agK{v:Value}{R:Value->a9->Prop}:Kt (some v) R h=R v h:=rfl
theorem ZN{X Y:Prop}:oG (.bool true) X Y=X:=by simp[oG]
theorem WX{X Y:Prop}:oG (.bool false) X Y=Y:=by simp[oG]
theorem WY{p:Bool}{X Y:Prop}(hx:p=true->X)(hy:p=false->Y):oG (.bool p) X Y:=by
 cases p
 ·simpa [oG]using hy rfl
 ·simpa [oG]using hx rfl
theorem aeQ{p:Prop}[Decidable p]{X Y:Prop}(hx:p->X)(hy:¬p->Y):oG (.bool (decide p)) X Y:=by
 by_cases h:p
 ·simpa [oG,h]using hx h
 ·simpa [oG,h]using hy h
theorem bI{v:Value}{h':a9}{k:Value->a9->Prop}:gE (some (v,h')) k=k v h':=rfl
theorem adp{v:Value}{h h':a9}{k:Value->a9->Prop}:CN h (some (v,h')) k=(ae h h'∧k v h'):=rfl
theorem ZK{g:Nat}{a c:Array Value}{args:List Value}{b:Bool}{k:Value->a9->Prop}:CJ Γ (.func (.func g) a c) args h b k=HJ Γ g (a.toList++(args++c.toList)) h b k:=rfl
theorem aQ{f:Nat}{args:List Value}{b:Bool}{k:Value->a9->Prop}{R:Value->a9->Prop}(x:aN Γ f args h R)
  (a:∀v h',R v h'->(b=true->ae h h')∧k v h'):HJ Γ f args h b k:=x.mono a
theorem Zm{K:(Nat->Value)->a9->Prop}:cU Γ [] K σ τ h=K σ h:=by
 apply propext;constructor
 ·rintro⟨n,s,hx,a⟩;simp only[jL,aI]at hx;subst hx;exact a
 ·intro a;exact⟨0,_,rfl,a⟩
def gO:Op->Bool
 |.call {callee:=.builtin _,..}=>true
 |.call _=>false
 |_=>true
theorem SD{ρ:Operand->Value}{o:Op}(a:gO o=true):kt ρ o=none:=by
 unfold kt;split
 ·exact absurd a (by simp[gO])
 ·rfl
theorem ah5{o:Oper}{r:List Oper}{K:(Nat->Value)->a9->Prop}{a:Nat->Option St}
  (b:∀n,qt kh (nC kh Γ n) o ⟨σ,τ,h⟩=a n):cU Γ (o::r) K σ τ h=∃n s,(match a n with|some s1=>jL kh (nC kh Γ n) r s1|none=>none)=some s∧K s.σ s.h:=by
 unfold cU;simp only[jL,b];rfl
theorem xV{o:Oper}{r:List Oper}{K:(Nat->Value)->a9->Prop}{b:Bool}(i:o.guard=none)(g:gO o.op=true)(j:jz o.type=b)(c:o.type<4:=by simp[op,DQ]):
  cU Γ (o::r) K σ τ h=match dA (ev σ τ) h o.op with
   |some (v,h')=>(b=true->ae h h')∧cU Γ r K (if gQ o.type∨o.dst=none then σ else il σ (o.dst.getD 0) v) (if gQ o.type∧o.dst≠none then il τ (o.dst.getD 0) v else τ) h'
   |none=>False:=by
 have k:∀n,qt kh (nC kh Γ n) o ⟨σ,τ,h⟩=match dA (ev σ τ) h o.op with
   |some (v,h')=>if jz o.type=false∨kh h h'=true then some ((⟨σ,τ,h⟩:St).put o.type o.dst v h')else none
   |none=>none:=by
  intro n;simp only[qt,qF,i,SD g];cases dA (ev σ τ) h o.op with
  |none=>rfl
  |some p=>
   obtain⟨v,h'⟩:=p;simp only;by_cases a:jz o.type=false∨kh h h'=true
   ·rw[if_pos a,if_pos ((De c).symm▸a)]
   ·rw[if_neg a,if_neg ((De c).symm▸a)]
 rw[ah5 k];cases l:dA (ev σ τ) h o.op with
 |none=>simp
 |some p=>
  obtain⟨v,h'⟩:=p;have hp:(⟨σ,τ,h⟩:St).put o.type o.dst v h'=⟨(if gQ o.type∨o.dst=none then σ else il σ (o.dst.getD 0) v),(if gQ o.type∧o.dst≠none then il τ (o.dst.getD 0) v else τ),h'⟩:=by
   cases m:o.dst with
   |none=>simp[St.put]
   |some d=>cases hi:gQ o.type<;>simp[St.put,hi]
  simp only[hp,j];apply propext;by_cases a:b=false∨kh h h'=true
  ·have e:b=true->ae h h':=by
    intro f;rcases a with h0|h0
    ·simp[h0]at f
    ·exact Cw.1 h0
   simp only[a,if_true];exact⟨λx=>⟨e,x⟩,λx=>x.2⟩
  ·simp only[a,if_false];constructor
   ·grind
   ·rintro⟨hx,_⟩;refine absurd ?_ a;cases b
    ·exact .inl rfl
    ·exact .inr (Cw.2 (hx rfl))
theorem ahF{d:Nat}{o:Op}{r:List Oper}{K:(Nat->Value)->a9->Prop}(a:gO o=true):
  cU Γ (op d o::r) K σ τ h=gE (dA (ev σ τ) h o) λv h'=>cU Γ r K (il σ d v) τ h':=by
 rw[xV (o:=op d o) rfl a rfl];simp only[op,jz,gQ,gE]
 grind
theorem ahG{d:Nat}{o:Op}{r:List Oper}{K:(Nat->Value)->a9->Prop}(a:gO o=true):
  cU Γ (op d o 1::r) K σ τ h=gE (dA (ev σ τ) h o) λv h'=>cU Γ r K σ (il τ d v) h':=by
 rw[xV (o:=op d o 1) rfl a rfl];simp only[op,jz,gQ,gE]
 grind
theorem ahH{d:Nat}{o:Op}{r:List Oper}{K:(Nat->Value)->a9->Prop}(a:gO o=true):
  cU Γ (op d o 2::r) K σ τ h=CN h (dA (ev σ τ) h o) λv h'=>cU Γ r K (il σ d v) τ h':=by
 rw[xV (o:=op d o 2) rfl a rfl];simp only[op,jz,gQ,CN]
 grind
theorem ahI{d:Nat}{o:Op}{r:List Oper}{K:(Nat->Value)->a9->Prop}(a:gO o=true):
  cU Γ (op d o 3::r) K σ τ h=CN h (dA (ev σ τ) h o) λv h'=>cU Γ r K σ (il τ d v) h':=by
 rw[xV (o:=op d o 3) rfl a rfl];simp only[op,jz,gQ,CN]
 grind
theorem ahJ{o:Op}{r:List Oper}{K:(Nat->Value)->a9->Prop}(a:gO o=true):
  cU Γ (DQ o::r) K σ τ h=gE (dA (ev σ τ) h o) λ_ h'=>cU Γ r K σ τ h':=by
 rw[xV (o:=DQ o) rfl a rfl];simp only[DQ,jz,gQ,gE]
 grind
def Df(b:Bool)(X Y:Prop):Prop:=if b then X else Y
def Jd(Γ:Nat->Option mC)(l:List Oper)(K:(Nat->Value)->a9->Prop)(σ τ:Nat->Value)(h:a9):Prop:=cU Γ l K σ τ h
theorem xp{X Y:Prop}:Df true X Y=X:=rfl
theorem aex{d:Nat}{o:Op}{r:List Oper}{K:(Nat->Value)->a9->Prop}:
  cU Γ (op d o::r) K σ τ h=Df (gO o) (gE (dA (ev σ τ) h o) λv h'=>cU Γ r K (il σ d v) τ h') (Jd Γ (op d o::r) K σ τ h):=by
 cases a:gO o
 ·rfl
 ·rw[xp];exact ahF a
theorem aey{d:Nat}{o:Op}{r:List Oper}{K:(Nat->Value)->a9->Prop}:
  cU Γ (op d o 1::r) K σ τ h=Df (gO o) (gE (dA (ev σ τ) h o) λv h'=>cU Γ r K σ (il τ d v) h') (Jd Γ (op d o 1::r) K σ τ h):=by
 cases a:gO o
 ·rfl
 ·rw[xp];exact ahG a
theorem aez{d:Nat}{o:Op}{r:List Oper}{K:(Nat->Value)->a9->Prop}:
  cU Γ (op d o 2::r) K σ τ h=Df (gO o) (CN h (dA (ev σ τ) h o) λv h'=>cU Γ r K (il σ d v) τ h') (Jd Γ (op d o 2::r) K σ τ h):=by
 cases a:gO o
 ·rfl
 ·rw[xp];exact ahH a
theorem aeA{d:Nat}{o:Op}{r:List Oper}{K:(Nat->Value)->a9->Prop}:
  cU Γ (op d o 3::r) K σ τ h=Df (gO o) (CN h (dA (ev σ τ) h o) λv h'=>cU Γ r K σ (il τ d v) h') (Jd Γ (op d o 3::r) K σ τ h):=by
 cases a:gO o
 ·rfl
 ·rw[xp];exact ahI a
theorem aeB{o:Op}{r:List Oper}{K:(Nat->Value)->a9->Prop}:
  cU Γ (DQ o::r) K σ τ h=Df (gO o) (gE (dA (ev σ τ) h o) λ_ h'=>cU Γ r K σ τ h') (Jd Γ (DQ o::r) K σ τ h):=by
 cases a:gO o
 ·rfl
 ·rw[xp];exact ahJ a
theorem vt{o:Oper}{f:Operand}{args:Array Operand}{r:List Oper}{K:(Nat->Value)->a9->Prop}(j:o.guard=none)(k:o.op=call f args)(l:o.type<4:=by simp[op,DQ]):
  cU Γ (o::r) K σ τ h=CJ Γ (ev σ τ f) (args.toList.map (ev σ τ)) h (jz o.type) λv h'=>
   cU Γ r K (if gQ o.type∨o.dst=none then σ else il σ (o.dst.getD 0) v) (if gQ o.type∧o.dst≠none then il τ (o.dst.getD 0) v else τ) h':=by
 have hp:∀v h',(⟨σ,τ,h⟩:St).put o.type o.dst v h'=⟨(if gQ o.type∨o.dst=none then σ else il σ (o.dst.getD 0) v),(if gQ o.type∧o.dst≠none then il τ (o.dst.getD 0) v else τ),h'⟩:=by
  intro v h';cases x:o.dst with
  |none=>simp[St.put]
  |some d=>cases hi:gQ o.type<;>simp[St.put,hi]
 unfold CJ;split
 ·rename_i g a w q;unfold HJ aN;apply propext;constructor
  ·rintro⟨n,s,hx,c⟩;simp only[jL,qt,qF,j,k,call,kt,q,De l]at hx;cases b:nC kh Γ n g (a.toList++(args.toList.map (ev σ τ)++w.toList)) h with
   |none=>simp[b]at hx
   |some p=>
    obtain⟨v,h'⟩:=p;simp only[b]at hx;by_cases e:jz o.type=false∨kh h h'=true
    ·rw[if_pos e]at hx;rw[hp]at hx;refine⟨n,v,h',b,λi=>?_,n,s,hx,c⟩;rcases e with h0|h0
     ·simp[h0]at i
     ·exact Cw.1 h0
    ·grind
  ·rintro⟨n,v,h',b,t,m,s,hx,c⟩;refine⟨max n m,s,?_,c⟩;simp only[jL,qt,qF,j,k,call,kt,q,De l];rw[qT Γ (mI n m) _ _ _ _ b];have e:jz o.type=false∨kh h h'=true:=by
    cases i:jz o.type
    ·exact .inl rfl
    ·exact .inr (Cw.2 (t i))
   simp only[e,if_true];rw[hp];exact Ez (qT Γ (mu n m)) _ _ _ hx
 ·rename_i y;apply propext;constructor
  ·rintro⟨n,s,hx,c⟩;have u:kt (ev σ τ) (.call {callee:=.value f,args:=args,argTypes:=#[]})=none:=by
    simp only[kt]
    try rfl
   simp only[jL,qt,qF,j,k,call,u,dA]at hx
   grind
  ·intro hx;exact hx.elim
theorem TG{d:Nat}{f:Operand}{args:Array Operand}{r:List Oper}{K:(Nat->Value)->a9->Prop}:
  cU Γ (op d (call f args)::r) K σ τ h=CJ Γ (ev σ τ f) (args.toList.map (ev σ τ)) h false λv h'=>cU Γ r K (il σ d v) τ h':=by
 rw[vt (o:=op d (call f args)) rfl rfl];simp[op,jz,gQ]
theorem TH{d:Nat}{f:Operand}{args:Array Operand}{r:List Oper}{K:(Nat->Value)->a9->Prop}:
  cU Γ (op d (call f args) 1::r) K σ τ h=CJ Γ (ev σ τ f) (args.toList.map (ev σ τ)) h false λv h'=>cU Γ r K σ (il τ d v) h':=by
 rw[vt (o:=op d (call f args) 1) rfl rfl];simp[op,jz,gQ]
theorem TI{d:Nat}{f:Operand}{args:Array Operand}{r:List Oper}{K:(Nat->Value)->a9->Prop}:
  cU Γ (op d (call f args) 2::r) K σ τ h=CJ Γ (ev σ τ f) (args.toList.map (ev σ τ)) h true λv h'=>cU Γ r K (il σ d v) τ h':=by
 rw[vt (o:=op d (call f args) 2) rfl rfl];simp[op,jz,gQ]
theorem TJ{d:Nat}{f:Operand}{args:Array Operand}{r:List Oper}{K:(Nat->Value)->a9->Prop}:
  cU Γ (op d (call f args) 3::r) K σ τ h=CJ Γ (ev σ τ f) (args.toList.map (ev σ τ)) h true λv h'=>cU Γ r K σ (il τ d v) h':=by
 rw[vt (o:=op d (call f args) 3) rfl rfl];simp[op,jz,gQ]
theorem TK{f:Operand}{args:Array Operand}{r:List Oper}{K:(Nat->Value)->a9->Prop}:
  cU Γ (DQ (call f args)::r) K σ τ h=CJ Γ (ev σ τ f) (args.toList.map (ev σ τ)) h false λ_ h'=>cU Γ r K σ τ h':=by
 rw[vt (o:=DQ (call f args)) rfl rfl];simp[DQ,jz,gQ]
def uD(i:Nat):Operand:=if i%2=1 then .global (i/4)else .tmp (i/4)
def Ch(w:Bool)(v:Value):Value:=match v with
 |.tuple _=>.bool (!w)
 |v=>v
theorem Rj{w b:Bool}:Ch w (.bool b)=.bool b:=rfl
theorem Oc{w:Bool}{xs:Array Value}:Ch w (.tuple xs)=.bool (!w):=rfl
theorem WT{d q:Nat}{x f:Operand}{args:Array Operand}{r:List Oper}{K:(Nat->Value)->a9->Prop}{g:Nat}{b:Array Value}{R:Value->a9->Prop}
  (k:tG q=some x) (o:jz q=false) (i:ev σ τ f=.func (.func g) #[] b) (a:aN Γ g (args.toList.map (ev σ τ)++b.toList) h R)
  (j:∀v h',R v h'->sameAt h h' (ev σ τ x)=true∧cU Γ r K (if gQ q then σ else il σ d v) (if gQ q then il τ d v else τ) h'):cU Γ (op d (call f args) q::r) K σ τ h:=by
 obtain⟨n,v,h',a,e⟩:=a;obtain⟨p,m,s,hx,c⟩:=j v h' e;have l:xc kh q (ev σ τ) h h'=true:=by
  unfold xc;rw[k]
  grind
 have hp:(⟨σ,τ,h⟩:St).put q (some d) v h'=⟨if gQ q then σ else il σ d v,if gQ q then il τ d v else τ,h'⟩:=by cases hi:gQ q<;>simp[St.put,hi]
 refine⟨max n m,s,?_,c⟩;simp only[jL,qt,qF,op,call,kt,i,df];rw[qT Γ (mI n m) _ _ _ _ a];simp only[l,if_true];rw[hp];exact Ez (qT Γ (mu n m)) _ _ _ hx
theorem uq{o:Oper}{i:Nat}{w:Bool}{r:List Oper}{K:(Nat->Value)->a9->Prop}(b:o.guard=some (i,w)):
  cU Γ (o::r) K σ τ h=oG (Ch w (ev σ τ (uD i)))
   (if w then cU Γ ({o with guard:=none}::r) K σ τ h else cU Γ r K (if gQ o.type∨o.dst=none then σ else il σ (o.dst.getD 0) (jr o.guard)) (if gQ o.type∧o.dst≠none then il τ (o.dst.getD 0) (jr o.guard)else τ) h)
   (if w then cU Γ r K (if gQ o.type∨o.dst=none then σ else il σ (o.dst.getD 0) (jr o.guard)) (if gQ o.type∧o.dst≠none then il τ (o.dst.getD 0) (jr o.guard)else τ) h else cU Γ ({o with guard:=none}::r) K σ τ h):=by
 have hp:(⟨σ,τ,h⟩:St).put o.type o.dst (jr o.guard) h=⟨(if gQ o.type∨o.dst=none then σ else il σ (o.dst.getD 0) (jr o.guard)),(if gQ o.type∧o.dst≠none then il τ (o.dst.getD 0) (jr o.guard)else τ),h⟩:=by
  cases u:o.dst with
  |none=>simp[St.put]
  |some d=>cases hi:gQ o.type<;>simp[St.put,hi]
 rw[b]at hp ⊢;have l:∀c,ev σ τ (uD i)=.bool c->c=w->cU Γ (o::r) K σ τ h=cU Γ ({o with guard:=none}::r) K σ τ h:=by intro c a hw;have f:ev σ τ (if i%2=1 then .global (i/4)else .tmp (i/4))=.bool c:=a;unfold cU;simp only[jL,qt,qF,b,f,hw,BEq.rfl]
 have v:∀c,ev σ τ (uD i)=.bool c->c≠w->cU Γ (o::r) K σ τ h=cU Γ r K (if gQ o.type∨o.dst=none then σ else il σ (o.dst.getD 0) (jr (some (i,w)))) (if gQ o.type∧o.dst≠none then il τ (o.dst.getD 0) (jr (some (i,w)))else τ) h:=by
  intro c a hw;have f:ev σ τ (if i%2=1 then .global (i/4)else .tmp (i/4))=.bool c:=a;have k:(c==w)=false:=by simpa using hw
  unfold cU;simp only[jL,qt,qF,b,f,k,hp]
 have x:∀xs,ev σ τ (uD i)=.tuple xs->cU Γ (o::r) K σ τ h=cU Γ r K (if gQ o.type∨o.dst=none then σ else il σ (o.dst.getD 0) (jr (some (i,w)))) (if gQ o.type∧o.dst≠none then il τ (o.dst.getD 0) (jr (some (i,w)))else τ) h:=by intro xs a;have f:ev σ τ (if i%2=1 then .global (i/4)else .tmp (i/4))=.tuple xs:=a;unfold cU;simp only[jL,qt,qF,b,f,hp]
 have p:(∀c,ev σ τ (uD i)≠.bool c)->(∀xs,ev σ τ (uD i)≠.tuple xs)->¬cU Γ (o::r) K σ τ h:=by
  intro hn q;rintro⟨n,s,hx,_⟩;have g:qF ⟨σ,τ,h⟩ (some (i,w))=none:=by
   unfold qF;split
   ·rename_i e;cases e
   ·rename_i e;injection e with e;injection e with m t;subst m;split
    ·rename_i c a;exact absurd a (hn c)
    ·rename_i c a;exact absurd a (q c)
    ·rfl
  simp[jL,qt,b,g]at hx
 cases j:ev σ τ (uD i)with
 |bool c=>
  rw[Rj];unfold oG
  grind
 |tuple xs=>
  rw[Oc];unfold oG
  grind
 |_=>
  have:=p (by rw[j];simp) (by rw[j];simp);simp[Ch,oG,this]
theorem aet{d i:Nat}{w:Bool}{o:Op}{r:List Oper}{K:(Nat->Value)->a9->Prop}:cU Γ (op d o 0 (some (i,w))::r) K σ τ h=oG (Ch w (ev σ τ (uD i)))
  (if w then cU Γ (op d o::r) K σ τ h else cU Γ r K (il σ d (jr (some (i,w)))) τ h) (if w then cU Γ r K (il σ d (jr (some (i,w)))) τ h else cU Γ (op d o::r) K σ τ h):=by
 rw[uq (o:=op d o 0 (some (i,w))) rfl];simp[op,gQ]
theorem aeu{d i:Nat}{w:Bool}{o:Op}{r:List Oper}{K:(Nat->Value)->a9->Prop}:cU Γ (op d o 1 (some (i,w))::r) K σ τ h=oG (Ch w (ev σ τ (uD i)))
  (if w then cU Γ (op d o 1::r) K σ τ h else cU Γ r K σ (il τ d (jr (some (i,w)))) h) (if w then cU Γ r K σ (il τ d (jr (some (i,w)))) h else cU Γ (op d o 1::r) K σ τ h):=by
 rw[uq (o:=op d o 1 (some (i,w))) rfl];simp[op,gQ]
theorem aev{d i:Nat}{w:Bool}{o:Op}{r:List Oper}{K:(Nat->Value)->a9->Prop}:cU Γ (op d o 2 (some (i,w))::r) K σ τ h=oG (Ch w (ev σ τ (uD i)))
  (if w then cU Γ (op d o 2::r) K σ τ h else cU Γ r K (il σ d (jr (some (i,w)))) τ h) (if w then cU Γ r K (il σ d (jr (some (i,w)))) τ h else cU Γ (op d o 2::r) K σ τ h):=by
 rw[uq (o:=op d o 2 (some (i,w))) rfl];simp[op,gQ]
theorem aew{d i:Nat}{w:Bool}{o:Op}{r:List Oper}{K:(Nat->Value)->a9->Prop}:cU Γ (op d o 3 (some (i,w))::r) K σ τ h=oG (Ch w (ev σ τ (uD i)))
  (if w then cU Γ (op d o 3::r) K σ τ h else cU Γ r K σ (il τ d (jr (some (i,w)))) h) (if w then cU Γ r K σ (il τ d (jr (some (i,w)))) h else cU Γ (op d o 3::r) K σ τ h):=by
 rw[uq (o:=op d o 3 (some (i,w))) rfl];simp[op,gQ]
end use
abbrev Tab:=List (Nat×mC)
def look(t:Tab)(f:Nat):Option mC:=match t with
 |[]=>none
 |(n,F)::r=>if n=f then some F else look r f
end Am
namespace Am
open Go
section congr
variable {Γ : Nat -> Option mC}
@[congr] theorem ayN {c:Code} {Q:xy} {σ d:Nat->Value} {h h':a9} (a:σ=d) (b:h=h'):tM Γ c Q σ h=tM Γ c Q d h':=by subst a;subst b;rfl
@[congr] theorem aoq {l:List Oper} {K:(Nat->Value)->a9->Prop} {σ d τ e:Nat->Value} {h h':a9} (a:σ=d) (b:τ=e) (c:h=h'):
  cU Γ l K σ τ h=cU Γ l K d e h':=by subst a;subst b;subst c;rfl
@[congr] theorem awS {o b:Option (Value×a9)} {k:Value->a9->Prop} (a:o=b):gE o k=gE b k:=by subst a;rfl
@[congr] theorem aw0 {h h':a9} {o c:Option (Value×a9)} {k:Value->a9->Prop} (a:h=h') (b:o=c):CN h o k=CN h' c k:=by subst a;subst b;rfl
@[congr] theorem awZ {v b:Value} {X Y:Prop} (a:v=b):oG v X Y=oG b X Y:=by subst a;rfl
@[congr] theorem awW {f:Nat} {args a:List Value} {h h':a9} {b:Bool} {k:Value->a9->Prop} (x:args=a) (y:h=h'):HJ Γ f args h b k=HJ Γ f a h' b k:=by subst x;subst y;rfl
@[congr] theorem awV {f f':Value} {args a:List Value} {h h':a9} {b:Bool} {k:Value->a9->Prop} (z:f=f') (x:args=a) (y:h=h'):CJ Γ f args h b k=CJ Γ f' a h' b k:=by subst z;subst x;subst y;rfl
@[congr] theorem ayf {o c:Option Value} {R:Value->a9->Prop} {h h':a9} (a:o=c) (b:h=h'):Kt o R h=Kt c R h':=by subst a;subst b;rfl
@[congr] theorem ayi {b:Code} {Q:xy} {e:Nat} {σ a:Nat->Value} {h h':a9} (x:σ=a) (y:h=h'):aP Γ b Q e σ h=aP Γ b Q e a h':=by subst x;subst y;rfl
@[congr] theorem aow {id:Nat} {Q:xy} {e:Nat} {σ a:Nat->Value} {h h':a9} (x:σ=a) (y:h=h'):eY id Q e σ h=eY id Q e a h':=by subst x;subst y;rfl
@[congr] theorem ayg {res:List (Nat×Nat)} {R:Value->a9->Prop} {e:Nat} {σ a:Nat->Value} {h h':a9} (x:σ=a) (y:h=h'):zn res R e σ h=zn res R e a h':=by subst x;subst y;rfl
@[congr] theorem aw3 {α:Type} {I:α->(Nat->Value)->a9->Prop} {c:α->Nat} {a:α} {Q:xy} {e:Nat} {σ b:Nat->Value} {h h':a9} (x:σ=b) (y:h=h'):
  D5 I c a Q e σ h=D5 I c a Q e b h':=by subst x;subst y;rfl
@[congr] theorem ast {b b':Bool} {X Y:Prop} (a:b=b'):Df b X Y=Df b' X Y:=by subst a;rfl
end congr
attribute [simp ↓] pI Mp amM aw gJ cy
attribute [simp ↓] aq QB adJ ajw Zm
attribute [simp] ZN WX bI adp ZK agK
attribute [simp] xp
attribute [simp ↓] aex aey aez aeA aeB
attribute [simp ↓ high] TG TH TI TJ TK
attribute [simp] eK
abbrev Task:=(Code×xy×(Nat->Value)×a9) ⊕ (List Oper×((Nat->Value)->a9->Prop)×(Nat->Value)×(Nat->Value)×a9)
def runT(Γ:Nat->Option mC):Task->Prop
 |.inl (c,Q,σ,h)=>tM Γ c Q σ h
 |.inr (l,K,σ,τ,h)=>cU Γ l K σ τ h
def fork(Γ:Nat->Option mC)(v:Value)(x y:Task):Prop:=oG v (runT Γ x) (runT Γ y)
section fork
variable {Γ : Nat -> Option mC} {Q : xy} {σ τ : Nat -> Value} {h : a9} {K : (Nat -> Value) -> a9 -> Prop} {x y : Task}
@[simp ↓] theorem oQ {c:Code}:runT Γ (.inl (c,Q,σ,h))=tM Γ c Q σ h:=rfl
@[simp ↓] theorem aFe {l:List Oper}:runT Γ (.inr (l,K,σ,τ,h))=cU Γ l K σ τ h:=rfl
@[simp] theorem azt:fork Γ (.bool true) x y=runT Γ x:=by simp[fork,oG]
@[simp] theorem axN:fork Γ (.bool false) x y=runT Γ y:=by simp[fork,oG]
@[simp] theorem aD3 {p:Bool}:fork Γ (.bool (!p)) x y=fork Γ (.bool p) y x:=by cases p<;>simp
theorem aG{p:Prop}[Decidable p](hx:p->runT Γ x)(hy:¬p->runT Γ y):fork Γ (.bool (decide p)) x y:=aeQ hx hy
theorem Oa{p:Bool}(hx:p=true->runT Γ x)(hy:p=false->runT Γ y):fork Γ (.bool p) x y:=WY hx hy
@[simp ↓] theorem aBW {c:Operand} {a b:Code}:tM Γ (.cond c a b) Q σ h=fork Γ (ev σ nothing c) (.inl (a,Q,σ,h)) (.inl (b,Q,σ,h)):=Mo
@[simp ↓] theorem aFI {d i:Nat} {o:Op} {r:List Oper} {w:Bool}:cU Γ (op d o 0 (some (i,w))::r) K σ τ h=fork Γ (Ch w (ev σ τ (uD i)))
  (.inr (if w then op d o 0::r else r,K,if w then σ else il σ d (jr (some (i,w))),τ,h)) (.inr (if w then r else op d o 0::r,K,if w then il σ d (jr (some (i,w)))else σ,τ,h)):=by
 rw[aet];cases w<;>rfl
@[simp ↓] theorem aFJ {d i:Nat} {o:Op} {r:List Oper} {w:Bool}:cU Γ (op d o 1 (some (i,w))::r) K σ τ h=fork Γ (Ch w (ev σ τ (uD i)))
  (.inr (if w then op d o 1::r else r,K,σ,if w then τ else il τ d (jr (some (i,w))),h)) (.inr (if w then r else op d o 1::r,K,σ,if w then il τ d (jr (some (i,w)))else τ,h)):=by
 rw[aeu];cases w<;>rfl
@[simp ↓] theorem aFK {d i:Nat} {o:Op} {r:List Oper} {w:Bool}:cU Γ (op d o 2 (some (i,w))::r) K σ τ h=fork Γ (Ch w (ev σ τ (uD i)))
  (.inr (if w then op d o 2::r else r,K,if w then σ else il σ d (jr (some (i,w))),τ,h)) (.inr (if w then r else op d o 2::r,K,if w then il σ d (jr (some (i,w)))else σ,τ,h)):=by
 rw[aev];cases w<;>rfl
@[simp ↓] theorem aFL {d i:Nat} {o:Op} {r:List Oper} {w:Bool}:cU Γ (op d o 3 (some (i,w))::r) K σ τ h=fork Γ (Ch w (ev σ τ (uD i)))
  (.inr (if w then op d o 3::r else r,K,σ,if w then τ else il τ d (jr (some (i,w))),h)) (.inr (if w then r else op d o 3::r,K,σ,if w then il τ d (jr (some (i,w)))else τ,h)):=by
 rw[aew];cases w<;>rfl
end fork
section
variable {Γ : Nat -> Option mC} {Q : xy} {σ τ : Nat -> Value} {h : a9}
@[simp ↓] theorem awU {id:Nat}:eY id Q 0 σ h=Q 0 σ h:=by simp[eY]
@[simp ↓] theorem axk {id:Nat}:eY id Q 1 σ h=Q 1 σ h:=by simp[eY]
@[simp ↓] theorem awT {id j:Nat}:eY id Q (j+2) σ h=if j=id then Q 0 σ h else Q (j+2) σ h:=by simp[eY]
@[simp ↓] theorem aA8 {res:List (Nat×Nat)} {R:Value->a9->Prop}:zn res R 0 σ h=Kt (cY σ h res) R h:=by simp[zn]
@[simp ↓] theorem aFd {res:List (Nat×Nat)} {R:Value->a9->Prop}:zn res R 1 σ h=Kt (cY σ h res) R h:=by simp[zn]
@[simp] theorem aHI {i:Nat}:ev σ τ (.tmp i)=σ i:=rfl
@[simp] theorem aHH {i:Nat}:ev σ τ (.global i)=τ i:=rfl
@[simp] theorem aD1 {v:Value}:ev σ τ (.const v)=v:=rfl
@[simp] theorem aFH {f:Nat}:ev σ τ (.func f)=.func (.func f) #[] #[]:=rfl
@[simp] theorem aEZ {i:Nat}:init [] i=fI:=by simp[init]
@[simp] theorem az6 {a:Value} {l:List Value}:init (a::l) 0=a:=by simp[init]
@[simp] theorem az5 {a:Value} {l:List Value} {i:Nat}:init (a::l) (i+1)=init l i:=by simp[init]
end
attribute [simp] uD Rj Oc jr
section ops
variable {ρ : Operand -> Value} {h : a9}
@[simp] theorem aAc {b:Builtin} {a:Array Operand} {z:Nat}:gO (bi b a z)=true:=rfl
@[simp] theorem aw6 {x:Operand}:gO (.move x)=true:=rfl
@[simp] theorem aw7 {x y z:Operand}:gO (.pick x y z)=true:=rfl
@[simp] theorem ayc {n:Nat} {x:Operand}:gO (.box n x)=true:=rfl
@[simp] theorem ar7 {n:Nat} {x:Array (Nat×Operand)}:gO (.build n x)=true:=rfl
@[simp] theorem ahw {n m:Nat} {x:Array (Nat×Operand)}:gO (.buildSlice n m x)=true:=rfl
@[simp] theorem aw5 {n:Nat} {x:Operand}:gO (.load n x)=true:=rfl
@[simp] theorem asb {n:Nat} {x y:Operand}:gO (.store n x y)=true:=rfl
@[simp] theorem al9 {x:Operand}:gO (.nilCheck x)=true:=rfl
@[simp] theorem ar6 {o:BinOp} {n m:Nat} {x y:Operand}:gO (.binOp o n x y m)=true:=rfl
@[simp] theorem aw8 {o:UnOp} {n:Nat} {x:Operand}:gO (.unOp o n x)=true:=rfl
@[simp] theorem ana {n m:Nat} {x:Operand}:gO (.convert n m x)=true:=rfl
@[simp] theorem al8 {f:Fn} {x y:Array Operand}:gO (.makeFunc f x y)=true:=rfl
@[simp] theorem al7 {n:Nat} {x:Operand}:gO (.makeChan n x)=true:=rfl
@[simp] theorem an2 {n:Nat} {x y:Operand} {b:Bool}:gO (.lookup n x y b)=true:=rfl
@[simp] theorem an0 {n:Nat} {x y z:Operand}:gO (.insert n x y z)=true:=rfl
@[simp] theorem ajC {n:Nat} {x y z:Operand}:gO (.mapUpdate n x y z)=true:=rfl
@[simp] theorem asa {n:Nat} {x:Operand} {a b c:Option Operand}:gO (.slice n x a b c)=true:=rfl
@[simp] theorem ajA {n m:Nat} {x:Operand}:gO (.fieldAddr n x m)=true:=rfl
@[simp] theorem ar8 {n m:Nat} {x:Operand}:gO (.field n x m)=true:=rfl
@[simp] theorem ajB {n:Nat} {x y:Operand}:gO (.indexAddr n x y)=true:=rfl
@[simp] theorem ar9 {n:Nat} {x y:Operand}:gO (.index n x y)=true:=rfl
@[simp] theorem anb {x:Operand} {n:Nat}:gO (.extract x n)=true:=rfl
@[simp] theorem ayd {a b:Value}:Pd (.bool true) a b=some a:=rfl
@[simp] theorem aw9 {a b:Value}:Pd (.bool false) a b=some b:=rfl
@[simp] theorem aFQ {b o:Nat}:Qn (pt b o)=some (pt b o):=rfl
@[simp] theorem aFP {f:Nat} {c d:Array Value}:Qn (.func (.func f) c d)=some (.func (.func f) c d):=rfl
@[simp] theorem anW {n b o:Nat}:D0 n (pt b o)=some (pt b (o+n)):=rfl
@[simp] theorem SC {v:Value} {h:a9}:iu (some v) h=some (v,h):=rfl
@[simp] theorem awR {h:a9}:behind (some h)=some (fI,h):=rfl
@[simp] theorem ayh {k:IntKind} {n:Int}:scalar (.int k n)=true:=rfl
@[simp] theorem axb {b:Bool}:scalar (.bool b)=true:=rfl
@[simp] theorem an3 {s:ByteArray}:scalar (.string s)=true:=rfl
@[simp] theorem anB {a:Option Addr}:scalar (.pointer a)=true:=rfl
@[simp] theorem awg {a:Option Addr} {n c:Nat}:scalar (.slice a n c)=true:=rfl
@[simp] theorem aE0 {k:IntKind} {n:Int}:EU (.int k n)=false:=rfl
@[simp] theorem aw2 {s:ByteArray}:EU (.string s)=false:=rfl
@[simp] theorem arM {a:Option Addr}:EU (.pointer a)=false:=rfl
@[simp] theorem ax7 {a:Option Addr} {n c:Nat}:EU (.slice a n c)=false:=rfl
@[simp] theorem az7 {b:Bool}:EU (.bool b)=false:=rfl
@[simp] theorem aBP {x:Operand}:dA ρ h (.move x)=some (ρ x,h):=rfl
@[simp] theorem aBQ {c a b:Operand}:dA ρ h (.pick c a b)=iu (Pd (ρ c) (ρ a) (ρ b)) h:=rfl
@[simp] theorem aFB {n:Nat} {x:Operand}:dA ρ h (.box n x)=Ai n (ρ x) h:=rfl
@[simp] theorem ayC {n:Nat} {ps:Array (Nat×Operand)}:dA ρ h (.build n ps)=iu (El (ps.toList.map λp=>(p.1,ρ p.2))) h:=rfl
@[simp] theorem amI {z n:Nat} {ps:Array (Nat×Operand)}:dA ρ h (.buildSlice z n ps)=aW z n h (ps.toList.map λp=>(p.1,ρ p.2)):=rfl
@[simp] theorem aBN {k:Nat} {a:Operand}:dA ρ h (.load k a)=iu (su k h (ρ a)) h:=rfl
@[simp] theorem ayG {n:Nat} {a x:Operand}:dA ρ h (.store n a x)=behind (zv n h (ρ x) (ρ a)):=rfl
@[simp] theorem aol {x:Operand}:dA ρ h (.nilCheck x)=iu (Qn (ρ x)) h:=rfl
@[simp] theorem ayB {o:BinOp} {n:Nat} {x y:Operand}:dA ρ h (.binOp o n x y 0)=iu (AR o n (ρ x) (ρ y)) h:=rfl
@[simp] theorem axj {o:BinOp} {n:Nat} {x y:Operand}:dA ρ h (.binOp o n x y 1)=iu (PR o (ρ x) (ρ y)) h:=rfl
@[simp] theorem aBR {o:UnOp} {n:Nat} {x:Operand}:dA ρ h (.unOp o n x)=iu (Xx o (ρ x)) h:=rfl
@[simp] theorem awP {n c:Nat} {x:Operand}:dA ρ h (.convert n c x)=kr c (ρ x) h:=rfl
@[simp] theorem aok {f:Nat} {a b:Array Operand}:dA ρ h (.makeFunc (.func f) a b)=CM f (a.toList.map ρ) (b.toList.map ρ) h:=rfl
@[simp] theorem aBO {z:Nat} {l c e:Operand}:dA ρ h (.mapUpdate z l c e)=nR z h (ρ l) (ρ c) (ρ e):=rfl
@[simp] theorem ayF {c:Nat} {x:Operand} {lo hi a:Option Operand}:dA ρ h (.slice c x lo hi a)=gS c h (ρ x) (lo.map ρ) (hi.map ρ) (a.map ρ):=rfl
@[simp] theorem anT {o:Nat} {x:Operand}:dA ρ h (.fieldAddr o x 0)=iu (D0 o (ρ x)) h:=rfl
@[simp] theorem aoi {o:Nat} {x:Operand}:dA ρ h (.fieldAddr o x 1)=iu (AB o (ρ x)) h:=rfl
@[simp] theorem aoj {c:Nat} {x i:Operand}:dA ρ h (.lookup c x i true)=iu (C6 c (ρ x) (ρ i)) h:=rfl
@[simp] theorem aFC {k:Nat} {x i:Operand}:dA ρ h (.lookup k x i false)=iu (Gj k (ρ x) (ρ i)) h:=rfl
@[simp] theorem aFD {n:Nat} {x i v:Operand}:dA ρ h (.insert n x i v)=iu (Ml n (ρ v) (ρ x) (ρ i)) h:=rfl
@[simp] theorem aBS {n:Nat} {x:Operand}:dA ρ h (.makeChan n x)=iu (KT n (ρ x)) h:=rfl
@[simp] theorem ayD {k o:Nat} {x:Operand}:dA ρ h (.field k x o)=iu (bD k o (ρ x)) h:=rfl
@[simp] theorem anU {c:Nat} {x i:Operand}:dA ρ h (.indexAddr c x i)=iu (oF c (ρ x) (ρ i)) h:=rfl
@[simp] theorem ayE {c:Nat} {x i:Operand}:dA ρ h (.index c x i)=iu (uk c (ρ x) (ρ i)) h:=rfl
@[simp] theorem awQ {i:Nat} {x:Operand}:dA ρ h (.extract x i)=iu (Em i (ρ x)) h:=rfl
@[simp] theorem aGc {b:Builtin} {args:Array Operand} {z:Nat}:dA ρ h (bi b args z)=sY b z h (args.toList.map ρ):=rfl
end ops
section aj9
variable {h : a9}
@[simp] theorem aBI {o:BinOp} {n:Nat} {k j:IntKind} {a b:Int}:AR o n (.int k a) (.int j b)=PQ o k a j b:=rfl
@[simp] theorem aBJ {o:BinOp} {n:Nat} {a b:List UInt8}:AR o n (S a) (S b)=PS o a b:=by simp[AR]
@[simp] theorem ayy {o:BinOp} {a b:Bool}:AR o 1 (.bool a) (.bool b)=KS o a b:=rfl
@[simp] theorem aBH {o:BinOp} {n:Nat} {a b:Array Value}:AR o (n+2) (.agg a) (.agg b)=Ah o n a.toList b.toList:=rfl
@[simp] theorem aBL {a:Addr} {n z:Nat}:PR .eql (.slice (some a) n z) (sl 0 0 0 0)=some (.bool (decide (a.block=0∧z=0))):=rfl
@[simp] theorem aBM {a:Addr} {n z:Nat}:PR .neq (.slice (some a) n z) (sl 0 0 0 0)=some (.bool (!decide (a.block=0∧z=0))):=rfl
@[simp] theorem aFE {k:IntKind} {n:Int}:Xx .neg (.int k n)=some (.int k (k.wrap (0-n))):=rfl
@[simp] theorem aFF {b:Bool}:Xx .not (.bool b)=some (.bool (!b)):=rfl
attribute [simp] PQ PS KS
@[simp] theorem aFq {k:IntKind} {n:Int}:kr 0 (.int k n) h=some (.int .i8 (IntKind.i8.wrap n),h):=rfl
@[simp] theorem aFr {k:IntKind} {n:Int}:kr 1 (.int k n) h=some (.int .i16 (IntKind.i16.wrap n),h):=rfl
@[simp] theorem aFs {k:IntKind} {n:Int}:kr 2 (.int k n) h=some (.int .i32 (IntKind.i32.wrap n),h):=rfl
@[simp] theorem aFt {k:IntKind} {n:Int}:kr 3 (.int k n) h=some (.int .i64 (IntKind.i64.wrap n),h):=rfl
@[simp] theorem aFu {k:IntKind} {n:Int}:kr 4 (.int k n) h=some (.int .u8 (IntKind.u8.wrap n),h):=rfl
@[simp] theorem aFv {k:IntKind} {n:Int}:kr 5 (.int k n) h=some (.int .u16 (IntKind.u16.wrap n),h):=rfl
@[simp] theorem aFw {k:IntKind} {n:Int}:kr 6 (.int k n) h=some (.int .u32 (IntKind.u32.wrap n),h):=rfl
@[simp] theorem aFx {k:IntKind} {n:Int}:kr 7 (.int k n) h=some (.int .u64 (IntKind.u64.wrap n),h):=rfl
@[simp] theorem aeo {l:List UInt8} (hl:l.length<=maxSize):kr 20 (S l) h=some (sl h.length 0 l.length 1,h++[⟨l.map λb=>U b.toNat,true⟩]):=by simp[kr,ByteArray.size,hl]
@[simp] theorem axg {s:ByteArray}:kr 22 (.string s) h=some (.string s,h):=rfl
@[simp] theorem awX {a:Array Value}:cellsOf (.agg a)=some a.toList:=rfl
@[simp] theorem awY {k:IntKind} {n:Int}:cellsOf (.int k n)=some [.int k n]:=rfl
@[simp] theorem apj {b:Bool}:cellsOf (.bool b)=some [.bool b]:=rfl
@[simp] theorem amO {s:ByteArray}:cellsOf (.string s)=some [.string s]:=rfl
@[simp] theorem akX {a:Option Addr}:cellsOf (.pointer a)=some [.pointer a]:=rfl
@[simp] theorem anV {a:Option Addr} {n c:Nat}:cellsOf (.slice a n c)=some [.slice a n c]:=rfl
@[simp] theorem apk {f:Fn} {a c:Array Value}:cellsOf (.func f a c)=some [.func f a c]:=rfl
attribute [simp] Ai
@[simp] theorem aFz {b o:Nat}:su 0 h (pt b o)=cell h b o:=rfl
@[simp] theorem aFA {b o k:Nat}:su (k+1) h (pt b o)=(aZ h b o k).map λcs=>.agg cs.toArray:=by simp[su]
@[simp] theorem ayH {n b o:Nat} {x:Value}:zv n h x (pt b o)=match cellsOf x with
  |some cs=>if cs.length=n then storeAt h b o cs else none
  |none=>none:=rfl
@[simp] theorem aGb {l:List UInt8} (hl:l.length<=9223372036854775807):En 0 (S l)=some (I l.length):=by simp[En,hl]
@[simp] theorem aFy {b o n z:Nat}:En 1 (sl b o n z)=some (I n):=rfl
@[simp] theorem aof {z:Nat} {x:Value}:sY .len z h [x]=iu (En z x) h:=rfl
@[simp] theorem akl {z:Nat} {s x:Value}:sY .append z h [s,x]=cu z h x s:=rfl
@[simp] theorem anQ {z:Nat} {s x:Value}:sY .copy z h [s,x]=Hz z h x s:=rfl
@[simp] theorem aog {z:Nat} {l:List Value}:sY .max z h l=iu (Mj l) h:=rfl
@[simp] theorem aoh {z:Nat} {l:List Value}:sY .min z h l=iu (I4 l) h:=rfl
@[simp] theorem awO {i:Nat} {vs:Array Value}:Em i (.tuple vs)=vs[i]?:=rfl
@[simp] theorem aBK {l:List UInt8} {k:IntKind} {i:Int}:uk 0 (S l) (.int k i)=if 0<=i∧i<l.length then(l[i.toNat]?).map λb=>U b.toNat else none:=by simp[uk]
@[simp] theorem anS {c b o n z:Nat} {k:IntKind} {i:Int} (a:c<1000000):oF c (sl b o n z) (.int k i)=if 0<=i∧i<n then some (pt b (o+i.toNat*(c/2)))else none:=by simp[oF,a]
@[simp] theorem anR {c b o:Nat} {k:IntKind} {i:Int} (a:1000000<=c):oF c (pt b o) (.int k i)=if 0<=i∧i<(((c-1000000)/1000:Nat):Int)then some (pt b (o+i.toNat*(c%1000)))else none:=by simp[oF,a]
attribute [simp] yJ El iK
@[simp] theorem axA {a:Value} {l:List Value}:(a::l)[0]?=some a:=rfl
@[simp] theorem ayI {n:Nat} {cs:Array Value}:KT n (.agg cs)=if cs.size=n then some (.agg cs)else none:=by simp[KT]
@[simp] theorem ayJ {k:IntKind} {m:Int}:KT 1 (.int k m)=some (.agg #[.int k m]):=rfl
@[simp] theorem anX {n:Nat} {cs:Array Value}:AB n (.agg cs)=some (I n):=by simp[AB,zj]
@[simp] theorem anY {n:Nat} {m:Int}:AB n (I m)=some (I (m+n)):=rfl
@[simp] theorem ayA {cs:Array Value} {n:Int}:Gj 0 (.agg cs) (I n)=if 0<=n then cs[n.toNat]? else none:=rfl
@[simp] theorem ayz {cs:Array Value} {n:Int} {k:Nat}:Gj (k+1) (.agg cs) (I n)=if 0<=n then(if n.toNat+k<=cs.size then some (.agg ((cs.toList.drop n.toNat).take k).toArray)else none)else none:=rfl
@[simp] theorem axi {cs ds:Array Value}:Gj 0 (.agg cs) (.agg ds)=cs[0]?:=rfl
@[simp] theorem axh {cs ds:Array Value} {k:Nat}:Gj (k+1) (.agg cs) (.agg ds)=if k<=cs.size then some (.agg (cs.toList.take k).toArray)else none:=by simp[Gj,zj,bD]
@[simp] theorem aBU {cs:Array Value} {n:Nat} {m:Int} {x:Value}:Ml n x (.agg cs) (I m)=match cellsOf x with
  |some xs=>if xs.length=n∧0<=m∧m.toNat+n<=cs.size then some (.agg (iK cs.toList m.toNat xs).toArray)else none
  |none=>none:=by simp only[Ml,zj];cases cellsOf x<;>rfl
@[simp] theorem aBT {cs ds:Array Value} {n:Nat} {x:Value}:Ml n x (.agg cs) (.agg ds)=match cellsOf x with
  |some xs=>if xs.length=n∧n<=cs.size then some (.agg (iK cs.toList 0 xs).toArray)else none
  |none=>none:=by simp only[Ml,zj];cases cellsOf x<;>simp
@[simp] theorem aA6 {σ:Nat->Value} {i:Nat}:cY σ h [(i,0)]=some (σ i):=by simp[cY,cJ,cO]
@[simp] theorem aBe {a:Array Value}:ve (.agg a)=true:=rfl
@[simp] theorem aBf {k:IntKind} {n:Int}:ve (.int k n)=true:=rfl
@[simp] theorem ayk {b:Bool}:ve (.bool b)=true:=rfl
@[simp] theorem awj {s:ByteArray}:ve (.string s)=true:=rfl
@[simp] theorem an4 {a:Option Addr}:ve (.pointer a)=true:=rfl
@[simp] theorem axc {a:Option Addr} {n c:Nat}:ve (.slice a n c)=true:=rfl
@[simp] theorem aA7 {σ:Nat->Value} {i j:Nat}:cY σ h [(i,0),(j,0)]=if ve (σ i)&&ve (σ j)then some (.tuple #[σ i,σ j])else none:=by simp[cY,cJ,cO]
@[simp] theorem axa {σ:Nat->Value} {i j k:Nat}:cY σ h [(i,0),(j,0),(k,0)]=if ve (σ i)&&(ve (σ j)&&ve (σ k))then some (.tuple #[σ i,σ j,σ k])else none:=by simp[cY,cJ,cO]
theorem gV{σ:Nat->Value}{i c:Nat}(a:1000000<=c):cY σ h [(i,c)]=bD (c-1000000) 0 (σ i):=by simp only[cY,cJ,cO];rw[if_neg (by omega),if_pos a];cases bD (c-1000000) 0 (σ i)<;>rfl
@[simp] theorem aye {σ:Nat->Value}:cY σ h []=some (.tuple #[]):=by simp[cY,cJ]
end aj9
theorem Xs{k:IntKind}{n M m:Int}(d:k.signed=true)(c:(2:Int)^k.bits=M)(hm:(2:Int)^(k.bits-1)=m)(f:M=2*m)(a:-m<=n)(b:n<m):k.wrap n=n:=by
 unfold IntKind.wrap;simp only[d,c,hm,iN];by_cases h0:0<=n
 ·have e:n%M=n:=je h0 (by omega)
  grind
 ·have e:n%M=n+M:=by rw[<-Int.add_emod_right];exact je (by omega) (by omega)
  grind
theorem DG{k:IntKind}{n M:Int}(d:k.signed=false)(c:(2:Int)^k.bits=M)(a:0<=n)(b:n<M):k.wrap n=n:=by unfold IntKind.wrap;simp only[d,c,iy,ax,if_false];exact je a b
theorem wrap64{n:Int}(a:-9223372036854775808<=n)(b:n<9223372036854775808):IntKind.i64.wrap n=n:=
 Xs (M:=18446744073709551616) (m:=9223372036854775808) rfl (by decide) (by decide) (by decide) a b
theorem tI{a b:Int}(h:0<=a):a.tmod b=a%b:=cj h
theorem Fq{a b:Int}(h:0<=a):a.tdiv b=a/b:=fD h
theorem Ln{n:Int}(a:0<=n)(b:n<256):IntKind.u8.wrap n=n:=DG (M:=256) rfl (by decide) a b
end Am
namespace Am
open Go
abbrev TO:=Nat->Op->Nat->Option (Nat×Bool)->Oper
abbrev TN:=Op->Nat->Option (Nat×Bool)->Oper
abbrev TC:=Operand->Array Operand->Op
abbrev TB:=Builtin->Array Operand->Nat->Op
abbrev TR:=List Oper->Code
def zA(o:TO)(d:Nat)(x:Op)(q:Nat)(g:Option (Nat×Bool)):Oper:=o d x q g
def zB(c:TC)(f:Operand)(a:Array Operand):Op:=c f a
def zD(b:TB)(k:Builtin)(a:Array Operand)(z:Nat):Op:=b k a z
def zE(n:TN)(x:Op)(q:Nat)(g:Option (Nat×Bool)):Oper:=n x q g
def zOp(c:TC)(b:TB):Op->Op
 |.call {callee:=.value f,args,..}=>zB c f args
 |.call {callee:=.builtin k,args,argTypes}=>zD b k args (argTypes.toList.headD 0)
 |o=>o
def zFl(d:Nat):List (Nat×Nat)->Nat
 |[]=>0
 |(a,q)::r=>if a==d then q else zFl d r
def ayu(L:List (Nat×Nat))(o:TO)(n:TN)(c:TC)(b:TB):Option Oper->Oper
 |some p=>match p.dst with
  |some d=>zA o d (zOp c b p.op) (p.type+zFl d L) p.guard
  |none=>zE n (zOp c b p.op) p.type p.guard
 |none=>zE n (.move (.global 0)) 0 none
def awL(A:iG)(l p:List Nat)(L:List (Nat×Nat))(o:TO)(n:TN)(c:TC)(b:TB)(ops:Array Oper)(e:List (Nat×Nat)):List Oper->List Oper
 |[]=>[]
 |x::r=>ayu L o n c b (FO A l p e ops x)::awL A l p L o n c b ops e r
structure ZC (A:iG) (l p:List Nat) (L:List (Nat×Nat)) (o:TO) (n:TN) (c:TC) (b:TB) (r:TR) (x y:Code):Prop where
section
variable {A : iG} {l p : List Nat} {L : List (Nat × Nat)} {o : TO} {n : TN} {c : TC} {b : TB} {r : TR} {x y u v : Code}
theorem z1:ZC A l p L o n c b r .skip .skip:=⟨⟩
theorem z2:ZC A l p L o n c b r .ret .ret:=⟨⟩
theorem z3{i:Nat}:ZC A l p L o n c b r (.exit i) (.exit i):=⟨⟩
theorem z4(_:ZC A l p L o n c b r x y)(_:ZC A l p L o n c b r u v):ZC A l p L o n c b r (.seq x u) (.seq y v):=⟨⟩
theorem z5{i:Nat}(_:ZC A l p L o n c b r x y):ZC A l p L o n c b r (.block i x) (.block i y):=⟨⟩
theorem z6(_:ZC A l p L o n c b r x y):ZC A l p L o n c b r (.loop x) (.loop y):=⟨⟩
theorem z7{i j:Operand}(_:cV A l p [] i=some j)(_:ZC A l p L o n c b r x y)(_:ZC A l p L o n c b r u v):ZC A l p L o n c b r (.cond i x u) (.cond j y v):=⟨⟩
theorem z8{i:Nat}{ops:Array Oper}{d:Bool}{q:List Oper}(_:awL A l p L o n c b ops (FC l p [] ops.toList) ops.toList=q):ZC A l p L o n c b r (.region i ops d) (r q):=⟨⟩
end
def zl:List Nat->List Nat
 |a::b::r=>List.range' a (b+1-a)++zl r
 |_=>[]
abbrev TX:=TO->TN->TC->TB->TR->mC
structure ZF (A:iG) (l p:List Nat) (L:List (Nat×Nat)) (f:Func) (X:TX):Prop where
theorem z9{A:iG}{l p:List Nat}{L:List (Nat×Nat)}{f:Func}{c:Code}{n:Nat}{r:List (Nat×Nat)}{k:TO->TN->TC->TB->TR->Code}
  (_:f.body=some c) (_:f.params.size+f.nfree=n) (_:yp A l p f.results.toList=some r) (_:∀o1 o2 c1 b1 a,ZC A l p L o1 o2 c1 b1 a c (k o1 o2 c1 b1 a)):ZF A l p L f (λo1 o2 c1 b1 a=>⟨n,k o1 o2 c1 b1 a,r⟩):=⟨⟩
def zq(a b:List Nat):List Nat×List Nat:=(zl a,b)
abbrev zf(A:iG)(q:List Nat×List Nat)(L:List (Nat×Nat))(f:Func){X:TX}
  (_:ZF A q.1 q.2 L f X:=by
   apply z9
   ·exact rfl
   ·cbv<;>exact rfl
   ·cbv<;>exact rfl
   ·intro o1 o2 c1 b1 r1
    repeat' (first
     |exact z1
     |exact z2
     |exact z3
     |apply z4
     |apply z5
     |apply z6
     |apply z7
     |apply z8
     |(cbv<;>exact rfl))):mC:=X @op @DQ call bi zV
section
variable {Γ : Nat -> Option mC} {Q : xy} {σ : Nat -> Value} {h : a9}
theorem aO{f:Nat}{args:List Value}{b:Bool}{k:Value->a9->Prop}{R:Value->a9->Prop}(x:aN Γ f args h R)(a:∀v h',R v h'->k v h')
  (g:∀v h',R v h'->b=true->ae h h':=by
   intro _ _ x e
   first
    |(cases e;done)
    |exact x.1
    |exact x.2
    |exact x.2.1
    |exact x.2.2
    |(obtain⟨_,rfl⟩:=x;exact ae.refl _)
    |(obtain⟨_,g,_⟩:=x;exact g)
    |(obtain⟨_,_,g⟩:=x;exact g)
    |(obtain⟨_,_,g,_⟩:=x;exact g)
    |(obtain⟨_,_,_,g⟩:=x;exact g)
    |(obtain⟨_,_,_,g,_⟩:=x;exact g)
    |(obtain⟨_,_,_,_,g⟩:=x;exact g)):HJ Γ f args h b k:=
 aQ x λv h' r=>⟨g v h' r,a v h' r⟩
theorem aJ{f:Nat}{args:List Value}{R:Value->a9->Prop}(F:mC)(x:tM Γ F.code (zn F.res R) (init args) h)(e:Γ f=some F:=by exact rfl)(l:args.length=F.ar:=by exact rfl):aN Γ f args h R:=CF e l x
theorem bg{l:List Oper}{b:Code}(x:∀K:(Nat->Value)->a9->Prop,(∀{σ h},tM Γ b Q σ h->K σ h)->cU Γ l K σ nothing h):tM Γ (.seq (zV l) b) Q σ h:=by rw[aw,cy];exact x _ λy=>by rw[aq];exact y
theorem afq{f a:Nat}{args:List Value}{R:Value->a9->Prop}{F:mC}{c:Code}{r:List (Nat×Nat)}(x:tM Γ c (zn r R) (init args) h)(e:Γ f=some F:=by exact rfl)(u:F=⟨a,c,r⟩:=by exact rfl)(l:args.length=a:=by exact rfl):aN Γ f args h R:=by subst u;exact CF e l x
theorem akV{f a:Nat}{args:List Value}{R:Value->a9->Prop}{F:mC}{c:Code}{r:List (Nat×Nat)}{q:Prop}(x:q)(e:Γ f=some F:=by exact rfl)(u:F=⟨a,c,r⟩:=by exact rfl)(l:args.length=a:=by exact rfl)
  (s:tM Γ c (zn r R) (init args) h=q:=by conv=>lhs;simp(disch:=omega)):aN Γ f args h R:=afq (s.mpr x) e u l
theorem akW{l:List Oper}{b:Code}{q:((Nat->Value)->a9->Prop)->Prop}(x:∀K:(Nat->Value)->a9->Prop,(∀{σ h},tM Γ b Q σ h->K σ h)->q K)
  (s:∀K,cU Γ l K σ nothing h=q K:=by intro K;conv=>lhs;simp(disch:=omega)):tM Γ (.seq (zV l) b) Q σ h:=bg λK y=>(s K).mpr (x K y)
theorem ag8{f a:Nat}{args:List Value}{R:Value->a9->Prop}{F:mC}{b:Code}{g:List Oper}{r:List (Nat×Nat)}{q:((Nat->Value)->a9->Prop)->Prop}(x:∀K:(Nat->Value)->a9->Prop,(∀{σ h},tM Γ b (zn r R) σ h->K σ h)->q K)
  (e:Γ f=some F:=by exact rfl) (u:F=⟨a,.seq (zV g) b,r⟩:=by exact rfl) (l:args.length=a:=by exact rfl)
  (s:∀K,cU Γ g K (init args) nothing h=q K:=by intro K;conv=>lhs;simp(disch:=omega)):aN Γ f args h R:=afq (akW x s) e u l
end
theorem aC{α:Type}(x:α):∃y,y=x:=⟨x,rfl⟩
theorem cQ(a b:Int)(h:a=b∧-9223372036854775808<=b∧b<9223372036854775808:=by omega):IntKind.i64.wrap a=b:=by rw[wrap64 (by omega) (by omega)];exact h.1
end Am

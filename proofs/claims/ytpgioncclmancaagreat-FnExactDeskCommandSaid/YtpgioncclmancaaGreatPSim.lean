/- A region whose order is open: what stands before what; what 'Am' leaves does not hang on when an operation runs. -/
import Derived.Test.YtpgioncclmancaaGreatPStep
import Derived.Laws.Sem
set_option linter.unusedVariables false
set_option linter.unusedSimpArgs false
namespace Am
open Go
section before
def Eg(acc:Array Nat)(o:Oper):Nat:=o.after.foldl (λs e=>if Region.binds .any e then s ||| 2^e.on ||| acc.getD e.on 0 else s) 0
def B6(l:List Oper):Array Nat:=l.foldl (λacc o=>acc.push (Eg acc o)) #[]
theorem WV(ops:Array Oper):Region.before ops=B6 ops.toList:=by unfold Region.before B6;rw[<-ph];rfl
theorem Gm(l:List Oper)(o:Oper):B6 (l++[o])=(B6 l).push (Eg (B6 l) o):=by simp[B6]
theorem QP:∀l:List Oper,(B6 l).size=l.length:=by
 intro l;generalize hn:l.length=n
 induction n generalizing l with
 |zero=>have:l=[]:=dI hn;subst this;rfl
 |succ n ih=>
  obtain⟨l',o,rfl⟩:∃l' o,l=l'++[o]:=⟨l.dropLast,l.getLast (by intro e;subst e;simp at hn),(oK _).symm⟩;simp at hn;rw[Gm];simp[ih l' hn,hn]
theorem anu{a:Array Nat}{x j:Nat}(h:j<a.size):(a.push x).getD j 0=a.getD j 0:=by rw[cg,cg,nM,if_neg (by omega)]
theorem ant{a:Array Nat}{x j:Nat}(h:a.size=j):(a.push x).getD j 0=x:=by rw[cg,nM,if_pos (by omega)];rfl
theorem QQ:∀(l:List Oper) (m j:Nat),j<m->m<=l.length->(B6 l).getD j 0=(B6 (l.take m)).getD j 0:=by
 intro l;generalize hn:l.length=n
 induction n generalizing l with
 |zero=>intro m j h1 a;omega
 |succ n ih=>
  intro m j h1 a;obtain⟨l',o,rfl⟩:∃l' o,l=l'++[o]:=⟨l.dropLast,l.getLast (by intro e;subst e;simp at hn),(oK _).symm⟩;simp at hn;by_cases hm:m=n+1
  ·rw[aY (by simp;omega)]
  ·rw[jE (by omega),<-ih l' hn m j h1 (by omega),Gm];exact anu (by rw[QP];omega)
theorem WU{acc:Array Nat}{o:Oper}{i:Nat}(h:(Eg acc o).testBit i=true):∃e∈o.after,Region.binds .any e=true∧(e.on=i∨(acc.getD e.on 0).testBit i=true):=by
 unfold Eg at h;rw[<-ph]at h;have key:∀(l:List Edge) (s:Nat),(l.foldl (λs e=>if Region.binds .any e then s ||| 2^e.on ||| acc.getD e.on 0 else s) s).testBit i=true->
   s.testBit i=true∨∃e∈l,Region.binds .any e=true∧(e.on=i∨(acc.getD e.on 0).testBit i=true):=by
  intro l
  induction l with
  |nil=>intro s h;exact .inl h
  |cons e l ih=>
   intro s h;rw[gI]at h;rcases ih _ h with h|⟨c,b,h⟩
   ·by_cases a:Region.binds .any e=true
    ·rw[if_pos a,Nat.testBit_or,Nat.testBit_or,dq,dq]at h;rcases h with(h|h)|h
     ·exact .inl h
     ·exact .inr ⟨e,by simp,a,.inl (by rw[Nat.testBit_two_pow]at h;simpa using h)⟩
     ·exact .inr ⟨e,by simp,a,.inr h⟩
    ·rw[if_neg a]at h;exact .inl h
   ·exact .inr ⟨c,by simp[b],h⟩
 rcases key _ 0 h with h|⟨e,he,h⟩
 ·simp at h
 ·exact⟨e,by simpa using he,h⟩
theorem Zq{ops:Array Oper}{i j:Nat}{o:Oper}(a:ops[j]?=some o)(he:Cd ops=true)(h:((Region.before ops).getD j 0).testBit i=true):
  ∃e∈o.after,Region.binds .any e=true∧e.on<j∧(e.on=i∨((Region.before ops).getD e.on 0).testBit i=true):=by
 have g:j<ops.size:=(cN.1 a).1;have n:ops.toList[j]?=some o:=by simpa using a
 rw[WV]at h ⊢;rw[QQ ops.toList (j+1) j (by omega) (by simp;omega)]at h;have m:ops.toList.take (j+1)=ops.toList.take j++[o]:=by rw[jT,n];rfl
 rw[m,Gm]at h;have k:(B6 (ops.toList.take j)).size=j:=by rw[QP];simp;omega
 have f:((B6 (ops.toList.take j)).push (Eg (B6 (ops.toList.take j)) o)).getD j 0=Eg (B6 (ops.toList.take j)) o:=ant k;rw[f]at h;obtain⟨e,c,d,p⟩:=WU h;have b:e.on<j:=by unfold Cd at he;simp only[bV,da]at he;have:=he j g;simp only[a,bV]at this;have:=this e (by simpa using c);simpa [d]using this
 refine⟨e,c,d,b,p.imp id λl=>?_⟩;rw[QQ ops.toList j e.on b (by simp;omega)];exact l
theorem ID{ops:Array Oper}{D:Nat->Prop}(he:Cd ops=true)(k:∀j o,ops[j]?=some o->D j->∀e∈o.after,Region.binds .any e=true->D e.on):
  ∀(j i:Nat) (o:Oper),ops[j]?=some o->(∀e∈o.after,Region.binds .any e=true->D e.on)->((Region.before ops).getD j 0).testBit i=true->D i:=by
 intro j
 induction j using Nat.strongRecOn with
 |_ j ih=>
  intro i o f m h;obtain⟨e,g,l,c,b⟩:=Zq f he h;have a:=m e g l;rcases b with rfl|b
  ·exact a
  ·have d:e.on<ops.size:=Nat.lt_trans c (cN.1 f).1;exact ih e.on c i ops[e.on] (bS d) (k e.on _ (bS d) a) b
end before
section free
variable {ρ : Operand -> Value} {h h' : a9} {v : Value}
theorem SS{o:Op}(a:gP o=true):kt ρ o=none:=by
 unfold kt;split
 ·rename_i f args _;simp[gP]at a
 ·rfl
theorem IU{o:Op}(i:gP o=true)(d:dA ρ h o=some (v,h')):h'=h∧∀g,dA ρ g o=some (v,g):=by
 have key:∀x:Option Value,iu x h=some (v,h')->h'=h∧∀g,iu x g=some (v,g):=by intro x hx;obtain⟨rfl,rfl⟩:=ji hx;exact⟨rfl,λg=>rfl⟩
 cases o with
 |move x=>simp only[dA,aI,cF]at d ⊢;exact⟨d.2.symm,λg=>⟨d.1,trivial⟩⟩
 |convert s c x=>
  simp only[gP,aH,bne_iff_ne,ne_eq]at i;simp only[dA,kr,i.1,i.2,if_false]at d ⊢;by_cases e:c=22
  ·simp only[e,if_true]at d ⊢;split at d
   ·simp only[aI,cF]at d;exact⟨d.2.symm,λg=>by rw[d.1]⟩
   ·simp at d
  ·simp only[e,if_false]at d ⊢;split at d
   ·simp only[aI,cF]at d;exact⟨d.2.symm,λg=>by rw[d.1]⟩
   ·simp at d
 |makeFunc f a l=>
  cases f with
  |func g=>
   simp only[dA,CM]at d ⊢;split at d
   ·rename_i e;simp only[aI,cF]at d;exact⟨d.2.symm,λg=>by rw[if_pos e,d.1]⟩
   ·simp at d
  |_=>simp[dA]at d
 |slice c x lo hi n=>
  simp only[gP,decide_eq_true_eq]at i;simp only[dA,gS]at d ⊢;by_cases h0:c=0
  ·simp only[h0,if_true]at d ⊢;split at d
   ·split at d
    ·split at d
     ·rename_i e;simp only[aI,cF]at d;exact⟨d.2.symm,λg=>by rw[if_pos e,d.1]⟩
     ·simp at d
    ·simp at d
   ·simp at d
  ·simp only[h0,i,if_false,if_true]at d ⊢;split at d
   ·split at d
    ·split at d
     ·rename_i e;split at d
      ·simp only[aI,cF]at d;exact⟨d.2.symm,λg=>by rw[if_pos e,d.1]⟩
      ·split at d
       ·rename_i k;simp only[aI,cF]at d;exact⟨d.2.symm,λg=>by rw[if_pos e,if_pos k,d.1]⟩
       ·simp at d
     ·simp at d
    ·simp at d
   ·simp at d
 |call c=>
  obtain⟨callee,args,ts⟩:=c;cases callee with
  |builtin b=>
   simp only[dA]at d ⊢;cases b<;>simp[gP]at i
   ·rcases oi d with⟨_,x,hx,j,rfl⟩|⟨h0,_⟩|⟨h0,_⟩|⟨h0,_⟩|⟨h0,_⟩<;>first|cases h0|skip
    exact⟨rfl,λg=>by rw[hx];show iu (En (ts.getD 0 0) x) g=_;rw[j];rfl⟩
   ·rcases oi d with⟨h0,_⟩|⟨h0,_⟩|⟨h0,_⟩|⟨_,j,rfl⟩|⟨h0,_⟩<;>first|cases h0|skip
    exact⟨rfl,λg=>by simp[sY,j,iu]⟩
   ·rcases oi d with⟨h0,_⟩|⟨h0,_⟩|⟨h0,_⟩|⟨h0,_⟩|⟨_,j,rfl⟩<;>first|cases h0|skip
    exact⟨rfl,λg=>by simp[sY,j,iu]⟩
  |value f=>simp[gP]at i
  |invoke r m=>simp[gP]at i
 |_=>first|(simp[gP]at i;done)|(simp only[dA]at d ⊢;exact key _ d)
theorem Me{b o:Nat}{vs:List Value}(a:storeAt h b o vs=some h'):h'.length=h.length:=by
 unfold storeAt at a;split at a
 ·split at a
  ·injection a with a;subst a;simp
  ·simp at a
 ·simp at a
theorem Mk{o:Op}(d:dA ρ h o=some (v,h')):h.length<=h'.length∧(turns o=false->sS o=false->ae h h'):=by
 have hrefl:h.length<=h.length∧(turns o=false->sS o=false->ae h h):=⟨aa _,λ_ _=>ae.refl h⟩;have q:∀k:mm,h.length<=(h++[k]).length∧(turns o=false->sS o=false->ae h (h++[k])):=λk=>⟨by simp,λ_ _=>⟨[k],rfl⟩⟩;cases t:gP o with
 |true=>obtain⟨rfl,_⟩:=IU t d;exact hrefl
 |false=>
  cases o with
  |box n x=>
   simp only[dA,Ai]at d;split at d
   ·split at d
    ·injection d with d;injection d with _ d;subst d;exact q _
    ·simp at d
   ·simp at d
  |buildSlice z n ps=>
   simp only[dA,aW]at d;split at d
   ·split at d
    ·simp only[bF]at d;obtain⟨cs,_,d⟩:=d;injection d with _ d;subst d;exact q _
    ·simp at d
   ·simp at d
  |load k a=>
   simp only[dA]at d;obtain⟨_,rfl⟩:=ji d;exact hrefl
  |store n a x=>
   simp only[dA,behind]at d;cases j:zv n h (ρ x) (ρ a)with
   |none=>simp[j]at d
   |some g=>
    simp only[j,dC]at d;injection d with d;injection d with _ d;subst d;refine⟨?_,λp=>by simp[turns]at p⟩;unfold zv at j;split at j
    ·split at j
     ·split at j
      ·rw[Me j];exact aa _
      ·simp at j
     ·simp at j
    ·simp at j
  |convert s c x=>
   simp only[dA,kr]at d;split at d
   ·split at d
    ·split at d
     ·injection d with d;injection d with _ d;subst d;exact q _
     ·simp at d
    ·simp at d
   ·split at d
    ·split at d
     ·split at d
      ·injection d with d;injection d with _ d;subst d;exact hrefl
      ·split at d
       ·rename_i cs _;cases u:xU cs with
        |none=>simp[u]at d
        |some l=>simp only[u,dC]at d;injection d with d;injection d with _ d;subst d;exact hrefl
       ·simp at d
     ·simp at d
    ·split at d
     ·split at d
      ·injection d with d;injection d with _ d;subst d;exact hrefl
      ·simp at d
     ·split at d
      ·injection d with d;injection d with _ d;subst d;exact hrefl
      ·simp at d
  |mapUpdate z l c e=>
   simp only[dA,nR]at d;split at d
   ·split at d
    ·injection d with d;injection d with _ d;subst d;exact q _
    ·simp at d
   ·simp at d
  |slice c x lo hi y=>
   simp only[dA,gS]at d
   repeat' split at d
   all_goals first
    |(simp at d;done)
    |(injection d with d;injection d with _ d;subst d;exact hrefl)
  |call c=>
   obtain⟨callee,args,ts⟩:=c;cases callee with
   |builtin b=>
    simp only[dA]at d;rcases oi d with⟨rfl,x,hx,i,rfl⟩|⟨rfl,s,x,hx,i⟩|⟨rfl,s,x,hx,i⟩|⟨rfl,i,rfl⟩|⟨rfl,i,rfl⟩
    ·exact hrefl
    ·refine⟨?_,λ_ p=>by simp[sS]at p⟩;unfold cu at i
     repeat' split at i
     all_goals first
      |(simp at i;done)
      |(injection i with i;injection i with _ i;subst i;simp)
    ·refine⟨?_,λp=>by simp[turns]at p⟩;unfold Hz at i
     repeat' split at i
     all_goals first
      |(simp at i;done)
      |(injection i with i;injection i with _ i;subst i;simp;done)
      |(simp only[bF]at i;obtain⟨g,j,i⟩:=i;injection i with _ i;subst i;rw[Me j];exact aa _)
    ·exact hrefl
    ·exact hrefl
   |value f=>simp[dA]at d
   |invoke r m=>simp[dA]at d
  |makeFunc f a w=>simp[gP]at t
  |_=>first|(simp[gP]at t;done)|(simp[dA]at d;done)
end free
end Am
namespace Am
open Go
def ue(call:oh):Prop:=∀f a h v h',call f a h=some (v,h')->h.length<=h'.length
structure xS (qz:a9->a9->Bool) (call:oh) (l:List Oper) (Sq:Nat->Nat->Value) (Hq:Nat->a9) (V:Nat->Value):Prop where
 step:∀k p,l[k]?=some p->ni qz call (Sq k) (Hq k) p=some (V k,Hq (k+1))∧Sq (k+1)=pT (Sq k) p.dst (V k)
theorem Pt{qz:a9->a9->Bool}{call:oh}:∀{l:List Oper} {s c:Nat->Value} {h h':a9},Hb qz call l s h=some (c,h')->
  ∃Sq Hq V,Sq 0=s∧Hq 0=h∧Sq l.length=c∧Hq l.length=h'∧xS qz call l Sq Hq V
 |[],s,c,h,h',a=>by
  simp only[Hb,aI,cF]at a;obtain⟨rfl,rfl⟩:=a;exact⟨λ_=>s,λ_=>h,λ_=>fI,rfl,rfl,rfl,rfl,⟨λk p b=>by simp at b⟩⟩
 |p::r,s,c,h,h',a=>by
  simp only[Hb]at a;cases h1:ni qz call s h p with
  |none=>simp[h1]at a
  |some x=>
   obtain⟨v,j⟩:=x;simp only[h1]at a;obtain⟨Sq,Hq,V,d,e,f,g,i⟩:=Pt a;refine⟨λk=>match k with|0=>s|k+1=>Sq k,λk=>match k with|0=>h|k+1=>Hq k,λk=>match k with|0=>v|k+1=>V k,rfl,rfl,?_,?_,⟨?_⟩⟩
   ·simpa using f
   ·simpa using g
   ·intro k q b;cases k with
    |zero=>
     simp at b;subst b;exact⟨by simp only[e];exact h1,by simp only[d]⟩
    |succ k=>exact i.step k q (by simpa using b)
theorem Wm{qz:a9->a9->Bool}{call:oh}{s:Nat->Value}{h h':a9}{p:Oper}{v:Value}(b:ue call)(a:ni qz call s h p=some (v,h')):h.length<=h'.length:=by
 unfold ni at a;split at a
 ·simp at a
 ·grind
 ·unfold pY at a;split at a
  ·rename_i v1 h1 heq;split at a
   ·injection a with a;injection a with _ a;subst a;split at heq
    ·exact b _ _ _ _ _ heq
    ·exact(Mk heq).1
   ·simp at a
  ·simp at a
section norm
variable {A : iG} {loc pb : List Nat} {env : List (Nat × Nat)} {ops : Array Oper}
theorem OZ:∀{l ps:List Oper},Ke A loc pb env ops l=some ps->ps.length=l.length∧∀(k:Nat) (o:Oper),l[k]?=some o->∃p,ps[k]?=some p∧FO A loc pb env ops o=some p
 |[],ps,hn=>by simp[Ke]at hn;subst hn;exact⟨rfl,λk o a=>by simp at a⟩
 |x::r,ps,hn=>by
  unfold Ke at hn;split at hn
  ·rename_i y e h1 b;injection hn with hn;subst hn;obtain⟨c,d⟩:=OZ b;refine⟨by simp[c],λk o a=>?_⟩;cases k with
   |zero=>simp at a;subst a;exact⟨y,by simp,h1⟩
   |succ k=>simpa using d k o (by simpa using a)
  ·simp at hn
theorem af9{x y:Operand}{t:Nat}(hw:AO pb env)(hn:D8 pb env x=some (t,y)):pb.contains t=true:=by
 unfold D8 at hn;split at hn
 ·split at hn
  ·grind
  ·simp only[bF]at hn;obtain⟨b,c,hn⟩:=hn;injection hn with a d;subst a;exact(hw _ _ c).1
 ·simp at hn
theorem W7(hw:AO pb env){dst:Option Nat}{d:Nat}{o p:Op}(hn:yN A loc pb env dst o=some (some d,p))(b:pb.contains d=false):dst=some d:=by
 cases o with
 |store t x v=>
  simp only[yN]at hn;split at hn
  ·rename_i h1 _ _;injection hn with hn;injection hn with a _;injection a with a;subst a;rw[af9 hw h1]at b;cases b
  ·simp at hn
 |_=>
  cases dst with
  |none=>exfalso;simp[yN]at hn
  |some c=>simp only[yN]at hn<;>first|(simp at hn;done)|grind [Option.bind_eq_some_iff,Option.map_eq_some_iff]
theorem CS(hw:AO pb env){o p:Oper}(hn:FO A loc pb env ops o=some p):p.type<=1∧∀e,p.dst=some e->pb.contains e=false->o.dst=some e:=by
 unfold FO at hn;split at hn
 ·split at hn
  ·rename_i d q b;split at hn
   ·simp at hn
   ·split at hn
    ·rename_i f;injection hn with hn;subst hn;refine⟨by simp only[op];split;exact aa _;exact iE _,λe he c=>?_⟩;simp only[op,aI]at he;subst he;exact W7 hw b c
    ·simp at hn
  ·split at hn
   ·split at hn
    ·rename_i a;split at hn
     ·simp at hn
     ·injection hn with hn;subst hn;exact⟨by simp only[op];split;exact aa _;exact iE _,λe he _=>by rw[a];exact he⟩
    ·injection hn with hn;subst hn;exact⟨by simp[DQ],λe he _=>by simp[DQ]at he⟩
   ·simp at hn
 ·simp at hn
def I0(b:Array Nat)(ps:List Oper)(k:Nat)(p p':Oper):Prop:=
 (gP p.op=true∨pinned b ps k=true∨(turns p.op=false∧(sS p.op=false∨(p.type<=1->jz p'.type=true)))∨∃x,tG p'.type=some x∧pinnedBy b ps k x=true)∧(sS p.op=true∨(p.type<=1->p'.type<4))
theorem RT{side:Bool}{b:Array Nat}{ps:List Oper}:∀{l l':List Oper} {i:Nat},OY side b ps i l=some l'->l'.length=l.length∧∀(k:Nat) (p:Oper),l[k]?=some p->
  ∃p',l'[k]?=some p'∧p'.dst=p.dst∧p'.op=p.op∧p'.guard=p.guard∧I0 b ps (i+k) p p'
 |[],l',i,hn=>by simp[OY]at hn;subst hn;exact⟨rfl,λk p a=>by simp at a⟩
 |x::r,l',i,hn=>by
  unfold OY at hn;split at hn
  ·rename_i rest h1;obtain⟨t,u⟩:=RT h1;have tail:∀(y:Oper) (k:Nat) (p:Oper),r[k]?=some p->∃p',(y::rest)[k+1]?=some p'∧p'.dst=p.dst∧p'.op=p.op∧p'.guard=p.guard∧I0 b ps (i+(k+1)) p p':=by intro y k p a;obtain⟨p',q1,q2,w,A,g⟩:=u k p a;rw[show i+1+k=i+(k+1)by omega]at g;exact⟨p',by simpa using q1,q2,w,A,g⟩
   have fin:∀(y:Oper),y.dst=x.dst->y.op=x.op->y.guard=x.guard->I0 b ps i x y->(y::rest).length=(x::r).length∧∀(k:Nat) (p:Oper),(x::r)[k]?=some p->
     ∃p',(y::rest)[k]?=some p'∧p'.dst=p.dst∧p'.op=p.op∧p'.guard=p.guard∧I0 b ps (i+k) p p':=by
    intro y m n o s;refine⟨by simp[t],λk p a=>?_⟩;cases k with
    |zero=>
     simp at a;subst a;exact⟨y,by simp,m,n,o,s⟩
    |succ k=>exact tail y k p (by simpa using a)
   split at hn
   ·rename_i d;injection hn with hn;subst hn;simp only[dq]at d;exact fin x rfl rfl rfl ⟨d.elim .inl λh=>.inr (.inl h),.inr λh=>mo h (by decide)⟩
   ·split at hn
    ·simp at hn
    ·rename_i f;split at hn
     ·rename_i hm;split at hn
      ·rename_i z B;split at hn
       ·rename_i c d;split at hn
        ·rename_i hp;injection hn with hn;subst hn;simp only[aH]at hp;exact fin _ rfl rfl rfl ⟨.inr (.inr (.inr ⟨z,Xp hp.2,hp.1⟩)),.inl hm⟩
        ·simp at hn
       ·simp at hn
      ·injection hn with hn;subst hn;refine fin _ rfl rfl rfl ⟨.inr (.inr (.inl ⟨by simpa using f,.inr λj=>?_⟩)),.inl hm⟩;have:∀q:Nat,q<=1->((q+2)/2==1)=true:=by intro q v;rcases Nat.le_one_iff_eq_zero_or_eq_one.1 v with e|e<;>subst e<;>decide
       exact this x.type j
     ·rename_i hm;injection hn with hn;subst hn;exact fin x rfl rfl rfl ⟨.inr (.inr (.inl ⟨by simpa using f,.inl (by simpa using hm)⟩)),.inr λh=>mo h (by decide)⟩
  ·simp at hn
theorem ZX(h:ZW loc pb env=true):AO pb env∧∀d a,iq env d=some a->own loc d=true:=by
 have key:∀d a,iq env d=some a->own loc d=true∧pb.contains a=true∧pb.contains d=false:=by
  intro d a b;unfold iq at b;cases c:env.find? (·.1==d)with
  |none=>simp[c]at b
  |some p=>
   simp only[c,dC,aI]at b;have h1:=mR c;have e:=List.find?_some c;simp only[ZW,bV,aH]at h
   grind
 exact⟨λd a b=>(key d a b).2,λd a b=>(key d a b).1⟩
theorem NW:∀{l:List Oper},Ta env l=true->∀(j k:Nat) (x y:Oper) (d a:Nat),j<k->l[j]?=some x->l[k]?=some y->x.dst=some d->iq env d=some a->y.dst≠some d∧y.dst≠some a
 |[],_,j,k,x,y,d,a,_,b,_,_,_=>by simp at b
 |o::r,h,j,k,x,y,d,a,f,b,g,hx,c=>by
  unfold Ta at h;simp only[aH]at h;obtain⟨k,rfl⟩:∃m,k=m+1:=⟨k-1,by omega⟩;have e:r[k]?=some y:=by simpa using g
  cases j with
  |zero=>
   simp at b;subst b;have h1:=h.1;simp only[hx,c,bV,aH,bne_iff_ne,ne_eq]at h1;exact h1 y (fP e)
  |succ j=>exact NW h.2 j k x y d a (by omega) (by simpa using b) e hx c
end norm
structure Hy (A:iG) (loc pb:List Nat) (env:List (Nat×Nat)) (ops:Array Oper) (l:List Oper) (m:Nat):Prop where
 len:l.length=ops.size
 op:∀(k:Nat) (o:Oper),ops[k]?=some o->∃p p0,l[k]?=some p∧FO A loc pb env ops o=some p0∧p.dst=p0.dst∧p.op=p0.op∧p.guard=p0.guard
 wf:AO pb env
 own:∀d a,iq env d=some a->own loc d=true
 env:∀(j k:Nat) (x y:Oper) (d a:Nat),j<k->ops[j]?=some x->ops[k]?=some y->x.dst=some d->iq env d=some a->y.dst≠some d∧y.dst≠some a
 dst:∀(k:Nat) (o:Oper) (d:Nat),ops[k]?=some o->o.dst=some d->d<m
section text
variable {A : iG} {loc pb : List Nat} {env : List (Nat × Nat)} {ops : Array Oper} {l : List Oper} {m : Nat} {qz : a9 -> a9 -> Bool} {call : oh} {Sq : Nat -> Nat -> Value} {Hq : Nat -> a9} {V : Nat -> Value} {base lo : Nat}
theorem xS.mono(b:ue call)(c:xS qz call l Sq Hq V){i j:Nat}(e:i<=j)(f:j<=l.length):(Hq i).length<=(Hq j).length:=by
 obtain⟨d,rfl⟩:∃d,j=i+d:=⟨j-i,by omega⟩
 induction d with
 |zero=>exact aa _
 |succ d ih=>
  have a:i+d<l.length:=by omega
  have h1:=(c.step (i+d) l[i+d] (ah a)).1;exact a7 (ih (by omega) (by omega)) (Wm b h1)
theorem written(R:Hy A loc pb env ops l m)(n:xS qz call l Sq Hq V)(h0:∀d,own loc d=true->Sq 0 d=fI):
  ∀k,k<=ops.size->∀e a,iq env e=some a->Sq k e≠fI->∃(j:Nat) (x:Oper),j<k∧ops[j]?=some x∧x.dst=some e:=by
 intro k
 induction k with
 |zero=>intro _ e a he hp;exact absurd (h0 e (R.own e a he)) hp
 |succ k ih=>
  intro t e a he hp;have q:ops[k]?=some ops[k]:=bS (by omega);obtain⟨p,p0,h1,g,i,r,s⟩:=R.op k _ q;obtain⟨_,o⟩:=n.step k p h1;rw[o]at hp;by_cases b:p.dst=some e
  ·have:=(CS R.wf g).2 e (by rw[<-i];exact b) (R.wf e a he).2
   grind
  ·have:pT (Sq k) p.dst (V k) e=Sq k e:=by
    cases c:p.dst with
    |none=>rfl
    |some d=>
     have f:e≠d:=λh=>b (by rw[c,h]);simp[pT,il,f]
   grind
theorem Xm(R:Hy A loc pb env ops l m)(K:kV A)(J:zu A base call)(u:ue call)(g:xS qz call l Sq Hq V)(h0:∀d,own loc d=true->Sq 0 d=fI)
  {φ0:dS} {w0:World} (M:base<=lo) (s:lo<=w0.heap.size) {Q:Exit->Act->World->Prop} {ds:List Deferred}
  (L:∀(tm:Array Value) (w:World) (φ:dS),tm.size=m->SR A pb env φ (Sq ops.size) tm w lo->bG A φ (Hq ops.size) w base->Ext lo φ0 (Hq 0) w0 φ (Hq ops.size) w->Q .normal ⟨tm,ds⟩ w):
  ∀(r k:Nat),k+r=ops.size->∀(tm:Array Value) (w:World) (φ:dS),tm.size=m->SR A pb env φ (Sq k) tm w lo->bG A φ (Hq k) w base->Ext lo φ0 (Hq 0) w0 φ (Hq k) w->
   (∀b,(Hq k).length<=b->b<(Hq ops.size).length->φ b=none)->wpOps A.P ops Q (List.range' k r) ⟨tm,ds⟩ w:=by
 intro r
 induction r with
 |zero=>
  intro k O tm w φ f S H X _;have:k=ops.size:=by omega
  subst this;exact L tm w φ f S H X
 |succ r ih=>
  intro k O tm w φ f S H X n;rw[List.range'_succ,wpOps_cons];have c:ops[k]?=some ops[k]:=bS (by omega);obtain⟨p,p0,h1,t,F,G,I⟩:=R.op k _ c;obtain⟨v,T⟩:=g.step k p h1;have C:(Hq (k+1)).length<=(Hq ops.size).length:=g.mono u (by omega) (by rw[R.len];exact aa _);have B:(Hq k).length<=(Hq (k+1)).length:=Wm u v;have y:lo<=w.heap.size:=a7 s X.size;refine Dm (a:=⟨tm,ds⟩) K J R.wf S H M y (λb h1 t=>n b h1 (by omega)) c t F G I ?_ ?_ v ?_
  ·intro i hi e he;by_cases hp:Sq k e=fI
   ·exact hp
   ·obtain⟨j,x,N,hx,h⟩:=written R g h0 k (by omega) e i he hp;exact absurd hi (R.env j k x _ e i N hx c h he).2
  ·intro i hi;rw[show(⟨tm,ds⟩:Act).tmps.size=m from f];exact R.dst k _ i c hi
  ·rintro U w'⟨D,φ',o,z,q,_⟩;rw[<-T]at o;refine ih (k+1) (by omega) U w' φ' (D.trans f) o z (X.trans s q) ?_;intro b E W;rw[q.same b (.inr E)]
   grind
end text
end Am
namespace Am
open Go
section grow
variable {A : iG} {φ φ' : dS} {h h' hR : a9} {w w' : World} {base lo : Nat}
theorem ae.get(g:ae h h'){b:Nat}(a:b<h.length):h'[b]?=h[b]?:=by
 obtain⟨l,rfl⟩:=g
 grind
theorem ae.get'(g:ae h h'){b:Nat}{k:mm}(a:h[b]?=some k):h'[b]?=some k:=by rw[g.get (au.1 a).1];exact a
theorem ae.len(g:ae h h'):h.length<=h'.length:=by obtain⟨l,rfl⟩:=g;simp
theorem bG.Lj(g:ae h h')(hp:0<h.length)(H:bG A φ h' w base):bG A φ h w base where
 pos:=hp
 low:=H.low
 cells:=λb l k hl a=>H.cells b l k hl (g.get' a)
 row:=λb l k hl a=>H.row b l k hl (g.get' a)
 one:=λb b' l l' k k' h1 c d e=>H.one b b' l l' k k' h1 c (g.get' d) (g.get' e)
 old:=λb l k hl a=>H.old b l k hl (g.get' a)
theorem bG.extend(g:ae h h')(hn:∀b,h.length<=b->b<h'.length->φ b=none)(H:bG A φ h w base):bG A φ h' w base:=by
 have back:∀b l k,φ b=some l->h'[b]?=some k->h[b]?=some k:=by
  intro b l k hl a;have i:=(au.1 a).1;by_cases f:b<h.length
  ·rw[<-g.get f];exact a
  ·grind
 exact⟨bQ H.pos g.len,H.low,λb l k hl a=>H.cells b l k hl (back b l k hl a),λb l k hl a=>H.row b l k hl (back b l k hl a),
  λb b' l l' k k' h1 c d e=>H.one b b' l l' k k' h1 c (back b l k h1 d) (back b' l' k' c e),λb l k hl a=>H.old b l k hl (back b l k hl a)⟩
theorem bG.merge(g1:ae h h')(g2:ae h' hR)(d:bG A φ hR w base)(H:bG A φ' h' w' base)(E:Ext w.heap.size φ h w φ' h' w'):bG A φ' hR w' base:=by
 have hlen:=g1.len;have o:∀b l,h'.length<=b->φ' b=some l->φ b=some l:=λb l c hl=>by rw[<-E.same b (.inr c)];exact hl
 have stay:∀b l k,h'.length<=b->φ b=some l->hR[b]?=some k->(k.rw=true∨k.cells≠[])->w'.heap[l.g]?=w.heap[l.g]?:=by
  intro b l k c hl a y;refine E.frame l.g (d.low b l hl) λb0 l0 k0 h1 j m n=>?_;have I:b0<h.length:=(au.1 j).1;have C:=(g1.trans g2).get' j;cases F:k.rw with
  |true=>
   have:=d.one b0 b l0 l k0 k h1 hl C a m F n;omega
  |false=>
   rcases y with y|y
   ·grind
   ·have q1:=d.old b l k hl a F y;have q2:=(d.row b0 l0 k0 h1 C m).1;omega
 have p:∀b k,b<h'.length->hR[b]?=some k->h'[b]?=some k:=λb k c a=>by rw[<-g2.get c];exact a
 refine⟨d.pos,H.low,λb l k hl a i v s=>?_,λb l k hl a f=>?_,λb b' l l' k k' h1 j m n x q he=>?_,λb l k hl a f D=>?_⟩
 ·by_cases c:b<h'.length
  ·exact H.cells b l k hl (p b k c a) i v s
  ·have r:=o b l (by omega) hl;obtain⟨u,hu,f⟩:=d.cells b l k r a i v s;refine⟨u,?_,f.mono A E.sub⟩;rw[pK (w:=w) (w':=w') (stay b l k (by omega) r a (.inr λe=>by rw[e]at s;simp at s))];exact hu
 ·by_cases c:b<h'.length
  ·exact H.row b l k hl (p b k c a) f
  ·have r:=o b l (by omega) hl;rw[stay b l k (by omega) r a (.inl f)];exact d.row b l k r a f
 ·have mixed:∀b b' l l' k k',b<h'.length->h'.length<=b'->φ' b=some l->φ' b'=some l'->hR[b]?=some k->hR[b']?=some k'->k.rw=true->k'.rw=true->l.g=l'.g->b=b':=by
   intro b b' l l' k k' c t h1 j m n x q he;have B:=o b' l' t j;by_cases z:b<h.length
   ·rw[E.same b (.inl z)]at h1;exact d.one b b' l l' k k' h1 B m n x q he
   ·rcases E.fresh b l (by omega) c h1 with G|⟨b0,l0,k0,f1,f2,f3,f4⟩
    ·have:=d.low b' l' B;omega
    ·have:=d.one b0 b' l0 l' k0 k' f1 B ((g1.trans g2).get' f2) n f3 q (f4.trans he)
     grind
  by_cases c:b<h'.length
  ·by_cases t:b'<h'.length
   ·exact H.one b b' l l' k k' h1 j (p b k c m) (p b' k' t n) x q he
   ·grind
  ·by_cases t:b'<h'.length
   ·grind
   ·exact d.one b b' l l' k k' (o b l (by omega) h1) (o b' l' (by omega) j) m n x q he
 ·by_cases c:b<h'.length
  ·exact H.old b l k hl (p b k c a) f D
  ·exact d.old b l k (o b l (by omega) hl) a f D
theorem UL(hl:h.length<=h'.length)(a:∀b,b<h.length->h'[b]?=h[b]?):ae h h':=by
 refine⟨h'.drop h.length,?_⟩;apply afb
 grind
theorem ago(g:ae h h'):h++h'.drop h.length=h':=by obtain⟨t,rfl⟩:=g;simp
theorem bG.swap(hp:0<h'.length)(he:∀b l,φ b=some l->h'[b]?=h[b]?)(H:bG A φ h w base):bG A φ h' w base:=
 ⟨hp,H.low,λb l k hl a=>H.cells b l k hl (by rw[<-he b l hl];exact a),λb l k hl a=>H.row b l k hl (by rw[<-he b l hl];exact a),
  λb b' l l' k k' h1 c d e=>H.one b b' l l' k k' h1 c (by rw[<-he b l h1];exact d) (by rw[<-he b' l' c];exact e),λb l k hl a=>H.old b l k hl (by rw[<-he b l hl];exact a)⟩
theorem Cr{h T:a9}{b:Nat}(a:b<h.length):(h++T.drop h.length)[b]?=h[b]?:=ai a
theorem AI{h T:a9}{b:Nat}(a:h.length<=b):(h++T.drop h.length)[b]?=T[b]?:=by
 grind
theorem Fe{h T:a9}(hl:h.length<=T.length):(h++T.drop h.length).length=T.length:=by
 grind
theorem bG.over{T:a9}(g:ae h T)(hn:∀b,h.length<=b->b<h'.length->φ b=none)(d:bG A φ T w base)(H:bG A φ' h' w' base)(E:Ext w.heap.size φ h w φ' h' w'):bG A φ' (h'++T.drop h'.length) w' base:=by
 have hlen:=E.len;have o:∀b l,h'.length<=b->φ' b=some l->φ b=some l:=λb l a hl=>by rw[<-E.same b (.inr a)];exact hl
 have p:∀b k,b<h'.length->(h'++T.drop h'.length)[b]?=some k->h'[b]?=some k:=λb k a c=>by rw[<-Cr a];exact c
 have q:∀b k,h'.length<=b->(h'++T.drop h'.length)[b]?=some k->T[b]?=some k:=λb k a c=>by rw[<-AI a];exact c
 have stay:∀b l k,h'.length<=b->φ b=some l->T[b]?=some k->(k.rw=true∨k.cells≠[])->w'.heap[l.g]?=w.heap[l.g]?:=by
  intro b l k a hl c C;refine E.frame l.g (d.low b l hl) λb0 l0 k0 h1 j m n=>?_;have K:b0<h.length:=(au.1 j).1;have F:=g.get' j;cases I:k.rw with
  |true=>
   have:=d.one b0 b l0 l k0 k h1 hl F c m I n;omega
  |false=>
   rcases C with C|C
   ·grind
   ·have q1:=d.old b l k hl c I C;have q2:=(d.row b0 l0 k0 h1 F m).1;omega
 refine⟨?_,H.low,λb l k hl c i v y=>?_,λb l k hl c f=>?_,λb b' l l' k k' h1 j m n B t he=>?_,λb l k hl c f G=>?_⟩
 ·rw[af];have:=H.pos;omega
 ·by_cases a:b<h'.length
  ·exact H.cells b l k hl (p b k a c) i v y
  ·have x:=o b l (by omega) hl;have s:=q b k (by omega) c;obtain⟨u,hu,f⟩:=d.cells b l k x s i v y;refine⟨u,?_,f.mono A E.sub⟩;rw[pK (w:=w) (w':=w') (stay b l k (by omega) x s (.inr λe=>by rw[e]at y;simp at y))];exact hu
 ·by_cases a:b<h'.length
  ·exact H.row b l k hl (p b k a c) f
  ·have x:=o b l (by omega) hl;have s:=q b k (by omega) c;rw[stay b l k (by omega) x s (.inl f)];exact d.row b l k x s f
 ·have mixed:∀b b' l l' k k',b<h'.length->h'.length<=b'->φ' b=some l->φ' b'=some l'->h'[b]?=some k->T[b']?=some k'->k.rw=true->k'.rw=true->l.g=l'.g->b=b':=by
   intro b b' l l' k k' a z h1 j m n B t he;have D:=o b' l' z j;by_cases r:b<h.length
   ·rw[E.same b (.inl r)]at h1;have hx:=ah r;exact d.one b b' l l' _ k' h1 D (g.get' hx) n (E.mode b _ k hx m B) t he
   ·rcases E.fresh b l (by omega) a h1 with J|⟨b0,l0,k0,f1,f2,f3,f4⟩
    ·have:=d.low b' l' D;omega
    ·have:=d.one b0 b' l0 l' k0 k' f1 D (g.get' f2) n f3 t (f4.trans he)
     grind
  by_cases a:b<h'.length
  ·by_cases z:b'<h'.length
   ·exact H.one b b' l l' k k' h1 j (p b k a m) (p b' k' z n) B t he
   ·grind
  ·by_cases z:b'<h'.length
   ·grind
   ·exact d.one b b' l l' k k' (o b l (by omega) h1) (o b' l' (by omega) j) (q b k (by omega) m) (q b' k' (by omega) n) B t he
 ·by_cases a:b<h'.length
  ·exact H.old b l k hl (p b k a c) f G
  ·exact d.old b l k (o b l (by omega) hl) (q b k (by omega) c) f G
end grow
section runs
variable {call : oh} {s : Nat -> Value} {h h' : a9} {p : Oper} {v : Value}
theorem Xo{h g:a9}{v:Value}(x:sameAt h h v=true):sameAt g g v=true:=by
 unfold sameAt at x ⊢
 grind
theorem ajI{q:Nat}{ρ:Operand->Value}{h g:a9}(x:xc kh q ρ h h=true):xc kh q ρ g g=true:=by
 unfold xc at x ⊢;simp only[aH,dq,fp]at x ⊢;refine⟨.inr (Cw.2 (ae.refl g)),?_⟩;have:=x.2;split at this
 ·rfl
 ·exact Xo this
theorem R0{q:Nat}{ρ:Operand->Value}{h g:a9}(a:q<4)(x:ae h g):xc kh q ρ h g=true:=by rw[De a];exact .inr (Cw.2 x)
theorem F4(b:gP p.op=true∨qu s p.guard=some false)(a:ni kh call s h p=some (v,h')):h'=h∧∀g,ni kh call s g p=some (v,g):=by
 unfold ni at a ⊢;split at a
 ·simp at a
 ·grind
 ·rename_i hw;rcases b with b|b
  ·simp only[SS b]at a ⊢;unfold pY at a;split at a
   ·rename_i v1 h1 heq;split at a
    ·rename_i e;injection a with a;injection a with c d;subst c;subst d;obtain⟨rfl,f⟩:=IU b heq;refine⟨rfl,λg=>?_⟩;rw[f g];simp only[pY];rw[if_pos (ajI e)]
    ·simp at a
   ·simp at a
  ·rw[b]at hw;cases hw
theorem am5{ρ:Operand->Value}{o:Op}(d:rV o=true)(a:dA ρ h o=some (v,h')):kt ρ o=none∧∃new,h'=h++new∧∀g:a9,g.length=h.length->dA ρ g o=some (v,g++new):=by
 cases o with
 |box n x=>
  refine⟨rfl,?_⟩;simp only[dA,Ai]at a ⊢
  grind
 |buildSlice z n ps=>
  refine⟨rfl,?_⟩;simp only[dA]at a ⊢;generalize (ps.toList.map λp=>(p.1,ρ p.2))=L at a ⊢;unfold aW at a ⊢;split at a
  ·rename_i c r;split at a
   ·rename_i hl;obtain⟨cs,b,e⟩:=bF.1 a
    grind
   ·simp at a
  ·simp at a
 |mapUpdate z l c e=>
  refine⟨rfl,?_⟩;simp only[dA]at a ⊢;generalize ρ l=l at a ⊢;generalize ρ c=c at a ⊢;generalize ρ e=e at a ⊢;unfold nR at a ⊢
  grind
 |convert s c x=>
  refine⟨rfl,?_⟩;have b:c=20:=by simpa [rV]using d
  subst b;simp only[dA,kr,if_true]at a ⊢
  grind
 |_=>simp[rV]at d
theorem agQ(f:p.type<4)(b:rV p.op=true)(hw:qu s p.guard≠some false)(a:ni kh call s h p=some (v,h')):∃new,h'=h++new∧∀g:a9,g.length=h.length->ni kh call s g p=some (v,g++new):=by
 unfold ni at a ⊢;split at a
 ·simp at a
 ·grind
 ·have c:kt (lW s) p.op=none:=by cases j:p.op<;>first|rfl|(rw[j]at b;simp[rV]at b)
  rw[c]at a ⊢;simp only[pY]at a ⊢;split at a
  ·rename_i v1 h1 heq;split at a
   ·injection a with a;injection a with d e;subst d;subst e;obtain⟨_,new,rfl,k⟩:=am5 b heq;refine⟨new,rfl,λg i=>?_⟩;rw[k g i];simp only;rw[if_pos (R0 f ⟨new,rfl⟩)]
   ·simp at a
  ·simp at a
theorem af1{k:Nat}{g:a9}{v:Value}(x:sameAt h g v=true):su k g v=su k h v:=by
 cases v with
 |pointer o=>
  cases o with
  |none=>cases x
  |some a=>
   have e:=yR.1 x;simp only[su,cell,aZ,e]
 |_=>cases x
theorem adH{k:Nat}{v w:Value}(x:su k h v=some w):∃a,v=.pointer (some a)∧a.block<h.length:=by
 unfold su at x;split at x
 ·rename_i a;refine⟨a,rfl,?_⟩;by_cases b:a.block<h.length
  ·exact b
  ·have e:h[a.block]?=none:=dX (fO b);simp only[cell,aZ,e]at x
   grind
 ·cases x
theorem agR{n:Nat}{y:Operand}(e:p.type<4)(hp:p.op=.load n y)(hw:qu s p.guard≠some false)(b:ni kh call s h p=some (v,h')):
  h'=h∧(∃a,lW s y=.pointer (some a)∧a.block<h.length)∧∀g,sameAt h g (lW s y)=true->ni kh call s g p=some (v,g):=by
 unfold ni at b ⊢;split at b
 ·simp at b
 ·grind
 ·have f:kt (lW s) p.op=none:=by rw[hp];rfl
  rw[f]at b ⊢;rw[hp]at b ⊢;simp only[dA,pY]at b ⊢;cases hl:su n h (lW s y)with
  |none=>simp[hl,iu]at b
  |some u=>
   simp only[hl,iu,dC]at b;split at b
   ·injection b with b;injection b with c d;subst c;subst d;refine⟨rfl,adH hl,λg i=>?_⟩;rw[af1 i,hl]
    show(if xc kh p.type (lW s) g g=true then some (u,g)else none)=_
    rw[if_pos (R0 e (ae.refl g))]
   ·simp at b
theorem agS{y:Operand}(e:tG p.type=some y)(hn:¬ae h h')(a:ni kh call s h p=some (v,h')):sameAt h h' (lW s y)=true:=by
 unfold ni at a;split at a
 ·simp at a
 ·injection a with a;injection a with c b;subst b;exact absurd (ae.refl h) hn
 ·unfold pY at a;split at a
  ·split at a
   ·rename_i d;injection a with a;injection a with c b;subst b;exact ajJ d e
   ·simp at a
  ·simp at a
theorem agP(i:turns p.op=false)(hm:sS p.op=false∨jz p.type=true)(a:ni kh call s h p=some (v,h')):ae h h':=by
 unfold ni at a;split at a
 ·simp at a
 ·injection a with a;injection a with g c;subst c;exact ae.refl h
 ·unfold pY at a;split at a
  ·rename_i v1 h1 heq;split at a
   ·rename_i b;have b:=agi b;injection a with a;injection a with g c;subst g;subst c;by_cases e:jz p.type=true
    ·rcases b with b|b
     ·grind
     ·exact Cw.1 b
    ·rcases hm with hm|hm
     ·split at heq
      ·rename_i f args d;exfalso;unfold kt at d;split at d
       ·rename_i j;rw[j]at hm;simp[sS]at hm
       ·simp at d
      ·exact(Mk heq).2 i hm
     ·exact absurd hm e
   ·simp at a
  ·simp at a
end runs
def uP(l:List Oper)(k:Nat):Option Nat:=(l[k]?).bind (·.dst)
def nQ(l:List Oper)(s:Nat->Value)(V:Nat->Value)(D:Nat->Bool):Nat->Nat->Value
 |0=>s
 |k+1=>if D k then pT (nQ l s V D k) (uP l k) (V k)else nQ l s V D k
theorem pU{s:Nat->Value}{d:Option Nat}{v:Value}{t:Nat}(h:d≠some t):pT s d v t=s t:=by
 cases d with
 |none=>rfl
 |some i=>
  have:t≠i:=λe=>h (by rw[e]);simp[pT,il,this]
theorem ahj{s:Nat->Value}{d e:Option Nat}{u v:Value}(h:∀t,d=some t->e≠some t):pT (pT s d u) e v=pT (pT s e v) d u:=by
 funext t
 by_cases h1:d=some t
 ·rw[pU (h t h1)];subst h1;simp[pT,il]
 ·rw[pU h1];by_cases a:e=some t
  ·subst a;simp[pT,il]
  ·rw[pU a,pU h1,pU a]
section aj9
variable {qz : a9 -> a9 -> Bool} {call : oh} {l : List Oper} {Sq : Nat -> Nat -> Value} {Hq : Nat -> a9} {V : Nat -> Value} {D D' : Nat -> Bool}
theorem M7(b:xS qz call l Sq Hq V){k:Nat}(a:k<l.length):Sq (k+1)=pT (Sq k) (uP l k) (V k):=by have:=(b.step k l[k] (ah a)).2;rw[this];simp[uP,ah a]
theorem WH(b:xS qz call l Sq Hq V):∀k,k<=l.length->(∀j,j<k->D j=true)->nQ l (Sq 0) V D k=Sq k
 |0,_,_=>rfl
 |k+1,d,a=>by
  rw[nQ,if_pos (a k (by omega)),WH b k (by omega) λj c=>a j (by omega),M7 b (by omega)]
theorem Sy (d : xS qz call l Sq Hq V) {k t : Nat} (e : k ≤ l.length) (h1 : ∀ j, j < k → uP l j = some t → D j = true) (c : ∀ j, k ≤ j → uP l j = some t → D j = false) :
    ∀ m, m ≤ l.length → (m ≤ k → nQ l (Sq 0) V D m t = Sq m t) ∧ (k ≤ m → nQ l (Sq 0) V D m t = Sq k t)
  | 0, _ => ⟨fun _ => rfl, fun hm => by have : k = 0 := by omega
                                        subst this; rfl⟩
  | m + 1, hm => by
    obtain ⟨g, b⟩ := Sy d e h1 c m (by omega)
    have first : m + 1 ≤ k → nQ l (Sq 0) V D (m + 1) t = Sq (m + 1) t := by
      intro h
      rw [nQ, M7 d (by omega)]
      by_cases a : uP l m = some t
      · rw [if_pos (h1 m (by omega) a), a]; simp [pT, il]
      · rw [pU a, ← g (by omega)]
        split
        · rw [pU a]
        · rfl
    refine ⟨first, fun f => ?_⟩
    by_cases he : k = m + 1
    · rw [he]; exact first (by omega)
    · rw [nQ]
      by_cases a : uP l m = some t
      · rw [if_neg (by rw [c m (by omega) a]; simp)]; exact b (by omega)
      · split
        · rw [pU a]; exact b (by omega)
        · exact b (by omega)
theorem WI{s:Nat->Value}{k:Nat}(e:D k=false)(d:∀j,D' j=if j=k then true else D j)(c:∀t j,uP l k=some t->k<j->uP l j=some t->D j=false):
  ∀m,nQ l s V D' m=if m<=k then nQ l s V D m else pT (nQ l s V D m) (uP l k) (V k)
 |0=>by simp[nQ]
 |m+1=>by
  have ih:=WI (s:=s) e d c m;rw[nQ,d m];by_cases he:m=k
  ·subst he;rw[if_pos rfl,if_pos rfl,ih,if_pos (aa _),if_neg (by omega),nQ,if_neg (by rw[e];simp)]
  ·rw[if_neg he,ih];by_cases b:m<=k
   ·have a:m+1<=k:=by omega
    simp only[b,a,if_true,nQ]
   ·have a:¬(m+1<=k):=by omega
    simp only[b,a,if_false,nQ];cases f:D m with
    |false=>simp
    |true=>
     simp only[if_true];refine ahj λt g h=>?_;have:=c t m g (by omega) h;rw[f]at this;cases this
end aj9
def bit(ops:Array Oper)(j i:Nat):Prop:=((Region.before ops).getD j 0).testBit i=true
structure KQ (env:List (Nat×Nat)) (ops:Array Oper) (l:List Oper):Prop where
 ZT:Cd ops=true
 apart:∀(i j:Nat) (x y:Oper),i<j->l[i]?=some x->l[j]?=some y->bit ops j i∨((∀d,x.dst=some d->d∉BE y∧y.dst≠some d)∧(∀d,y.dst=some d->d∉BE x))
 first:∀(i j:Nat) (x y:Oper) (a d:Nat),ops[i]?=some x->ops[j]?=some y->x.dst=some a->y.dst=some d->iq env d=some a->j<i∨bit ops j i
 flat:∀(k:Nat) (p:Oper),l[k]?=some p->sS p.op=true∨p.type<4
 kind:∀(k:Nat) (p:Oper),l[k]?=some p->gP p.op=true∨(∀(j:Nat) (q:Oper),l[j]?=some q->j≠k->gP q.op=true∨(j<k∧bit ops k j)∨(k<=j∧(bit ops j k∨rV q.op=true)))∨
  (turns p.op=false∧(sS p.op=false∨jz p.type=true))∨
  (∃y,tG p.type=some y∧∀(j:Nat) (q:Oper),l[j]?=some q->j≠k->gP q.op=true∨(j<k∧bit ops k j)∨(k<=j∧(bit ops j k∨rV q.op=true))∨(j<k∧(∃n,q.op=.load n y)∧∀(m:Nat) (z:Oper),j<=m->m<k->l[m]?=some z->z.dst≠KB y))
structure Mi (lo:Nat) (φ0:dS) (h0:a9) (w0:World) (N:Nat) (φ:dS) (w:World):Prop where
 sub:Sub φ0 φ
 same:∀b,b<h0.length∨N<=b->φ b=φ0 b
 size:w0.heap.size<=w.heap.size
 os:w.os=w0.os
 tape:w.tape=w0.tape
 output:w.output=w0.output
 frame:∀g,g<lo->(∀b l k,φ0 b=some l->h0[b]?=some k->k.rw=true->l.g≠g)->w.heap[g]?=w0.heap[g]?
 fresh:∀b l,h0.length<=b->b<N->φ b=some l->w0.heap.size<=l.g∨∃b0 l0 k0,φ0 b0=some l0∧h0[b0]?=some k0∧k0.rw=true∧l0.g=l.g
theorem Mi.refl{lo:Nat}{φ0:dS}{h0:a9}{w0:World}{N:Nat}(hn:∀b,h0.length<=b->b<N->φ0 b=none):Mi lo φ0 h0 w0 N φ0 w0:=
 ⟨Sub.refl _,λ_ _=>rfl,aa _,rfl,rfl,rfl,λ_ _ _=>rfl,λb l h1 c a=>by rw[hn b h1 c]at a;cases a⟩
theorem Mi.step{lo:Nat}{φ0 φ φ':dS}{h0 h h':a9}{w0 w w':World}{N:Nat}(p:lo<=w0.heap.size)(X:Mi lo φ0 h0 w0 N φ w)(E:Ext lo φ h w φ' h' w')(h1:h0.length<=h.length)(q:h.length<=h'.length)(r:h'.length<=N)
  (a:∀(b:Nat) (x y:mm),h0[b]?=some x->h[b]?=some y->y.rw=true->x.rw=true):Mi lo φ0 h0 w0 N φ' w':=by
 have old:∀b l k,φ b=some l->h[b]?=some k->k.rw=true->w0.heap.size<=l.g∨∃b0 l0 k0,φ0 b0=some l0∧h0[b0]?=some k0∧k0.rw=true∧l0.g=l.g:=by
  intro b l k hl f o;have d:=(au.1 f).1;by_cases c:b<h0.length
  ·exact .inr ⟨b,l,_,by rw[<-X.same b (.inl c)];exact hl,ah c,a b _ k (ah c) f o,rfl⟩
  ·exact X.fresh b l (by omega) (by omega) hl
 refine⟨X.sub.trans E.sub,λb d=>?_,a7 X.size E.size,E.os.trans X.os,E.tape.trans X.tape,E.output.trans X.output,λg e hn=>?_,λb l m j hl=>?_⟩
 ·rw[E.same b (by omega),X.same b d]
 ·rw[E.frame g e,X.frame g e hn]
  grind
 ·by_cases i:h.length<=b∧b<h'.length
  ·rcases E.fresh b l i.1 i.2 hl with n|⟨b0,l0,k0,f1,f2,f3,f4⟩
   ·exact .inl (a7 X.size n)
   ·grind
  ·rw[E.same b (by omega)]at hl;exact X.fresh b l m j hl
theorem amD{f:Nat->Nat}{i j b:Nat}(c:i<=j)(h1:f i<=b)(a:b<f j):∃k,i<=k∧k<j∧f k<=b∧b<f (k+1):=by
 obtain⟨d,rfl⟩:∃d,j=i+d:=⟨j-i,by omega⟩
 induction d with
 |zero=>simp at a;omega
 |succ d ih=>
  grind
end Am
namespace Am
open Go
section
variable {A : iG} {loc pb : List Nat} {env : List (Nat × Nat)} {ops : Array Oper} {l : List Oper} {m : Nat} {call : oh} {Sq : Nat -> Nat -> Value} {Hq : Nat -> a9} {V : Nat -> Value} {base lo : Nat}
def Calm(Hq:Nat->a9)(k:Nat):Prop:=ae (Hq k) (Hq (k+1))
theorem DY{i j:Nat}(b:i<=j)(a:∀k,i<=k->k<j->Calm Hq k):ae (Hq i) (Hq j):=by
 obtain⟨d,rfl⟩:∃d,j=i+d:=⟨j-i,by omega⟩
 induction d with
 |zero=>exact ae.refl _
 |succ d ih=>exact(ih (by omega) λk h1 c=>a k h1 (by omega)).trans (a (i+d) (by omega) (by omega))
theorem Ib(Hq:Nat->a9)(n:Nat):∀(r k:Nat),k+r=n->∃R,k<=R∧R<=n∧(R<n->¬Calm Hq R)∧∀j,k<=j->j<R->Calm Hq j
 |0,k,h=>⟨k,aa _,by omega,λh'=>by omega,λj h1 a=>by omega⟩
 |r+1,k,h=>by
  by_cases b:Calm Hq k
  ·obtain⟨R,h1,a,d,e⟩:=Ib Hq n r (k+1) (by omega);refine⟨R,by omega,a,d,λj f c=>?_⟩;by_cases he:j=k
   ·rw[he];exact b
   ·exact e j (by omega) c
  ·exact⟨k,aa _,by omega,λ_=>b,λj h1 a=>by omega⟩
abbrev AN(iT:Array Bool):Nat->Bool:=λj=>iT.getD j false
structure PM (A:iG) (pb:List Nat) (env:List (Nat×Nat)) (ops:Array Oper) (l:List Oper) (m:Nat) (Sq:Nat->Nat->Value) (Hq:Nat->a9) (V:Nat->Value) (base lo:Nat) (φ0:dS) (w0:World)
  (D:Nat->Bool) (R:Nat) (tm:Array Value) (w:World) (φ:dS):Prop where
 closed:∀(j:Nat) (o:Oper),ops[j]?=some o->D j=true->∀e∈o.after,Region.binds .any e=true->D e.on=true
 le:R<=ops.size
 mover:R<ops.size->¬Calm Hq R∧D R=false
 Ct:∀j,j<R->¬Calm Hq j->D j=true
 QF:tm.size=m
 It:SR A pb env φ (nQ l (Sq 0) V D ops.size) tm w lo
 heap:∃Hv,bG A φ Hv w base∧ae (Hq R) Hv∧Hv.length=(Hq ops.size).length∧∀k,R<=k->k<ops.size->D k=true->∀b,(Hq k).length<=b->b<(Hq (k+1)).length->Hv[b]?=(Hq (k+1))[b]?
 CT:∀k,k<ops.size->D k=false->∀b,(Hq k).length<=b->b<(Hq (k+1)).length->φ b=none
 PB:∀k,k<ops.size->D k=true->∀b,(Hq k).length<=b->b<(Hq (k+1)).length->φ b≠none
 mode:∀k,k<ops.size->D k=true->∀(b:Nat) (x y:mm),(Hq k)[b]?=some x->(Hq (k+1))[b]?=some y->y.rw=true->x.rw=true
 ext:Mi lo φ0 (Hq 0) w0 (Hq ops.size).length φ w
variable {φ0 : dS} {w0 : World} {D : Nat -> Bool} {R : Nat} {tm : Array Value} {w : World} {φ : dS}
theorem PM.OX(I:PM A pb env ops l m Sq Hq V base lo φ0 w0 D R tm w φ)(hl:∀i j,i<=j->j<=ops.size->(Hq i).length<=(Hq j).length):∀k,k<=R->∀(b:Nat) (x y:mm),(Hq 0)[b]?=some x->(Hq k)[b]?=some y->y.rw=true->x.rw=true:=by
 intro k
 induction k with
 |zero=>intro _ b x y hx hy a;rw[hx]at hy;injection hy with hy;subst hy;exact a
 |succ k ih=>
  intro f b x y hx hy a;have hle:=I.le;have c:b<(Hq k).length:=bQ (au.1 hx).1 (hl 0 k (by omega) (by omega));have e:=ah c;by_cases d:Calm Hq k
  ·have:(Hq k)[b]?=some y:=by rw[<-ae.get d c];exact hy
   exact ih (by omega) b x y hx this a
  ·exact ih (by omega) b x _ hx e (I.mode k (by omega) (I.Ct k (by omega) d) b _ y e hy a)
theorem akf(R:Hy A loc pb env ops l m)(h0:∀d,own loc d=true->Sq 0 d=fI):
  ∀k,k<=ops.size->∀e a,iq env e=some a->nQ l (Sq 0) V D k e≠fI->∃(j:Nat) (x:Oper),D j=true∧ops[j]?=some x∧x.dst=some e:=by
 intro k
 induction k with
 |zero=>intro _ e a he hp;exact absurd (h0 e (R.own e a he)) hp
 |succ k ih=>
  intro q e a he hp;have f:ops[k]?=some ops[k]:=bS (by omega);obtain⟨p,p0,h1,h,i,n,o⟩:=R.op k _ f;rw[nQ]at hp;cases b:D k with
  |false=>
   rw[if_neg (by rw[b];simp)]at hp;exact ih (by omega) e a he hp
  |true=>
   rw[if_pos b]at hp;by_cases c:uP l k=some e
   ·have g:p.dst=some e:=by simpa [uP,h1]using c
    have:=(CS R.wf h).2 e (by rw[<-i];exact g) (R.wf e a he).2;exact⟨k,_,b,f,this⟩
   ·rw[pU c]at hp;exact ih (by omega) e a he hp
theorem agm(RO:Hy A loc pb env ops l m)(RP:KQ env ops l)(hE:kV A)(hC:zu A base call)(hL:ue call)(hq:xS kh call l Sq Hq V)(h0:∀d,own loc d=true->Sq 0 d=fI)
  (hp0:0<(Hq 0).length) (hb:base<=lo) (fh:lo<=w0.heap.size) {Q:Exit->Act->World->Prop} {ds:List Deferred} (I:PM A pb env ops l m Sq Hq V base lo φ0 w0 D R tm w φ)
  {i:Nat} {o:Oper} (hi:ops[i]?=some o) (II:D i=false) (Tb:∀e∈o.after,Region.binds .any e=true->D e.on=true) {K:Act->World->Prop} {D':Nat->Bool} (uU:∀j,D' j=if j=i then true else D j)
  (hK:∀R' tH w' φ',PM A pb env ops l m Sq Hq V base lo φ0 w0 D' R' tH w' φ'->K ⟨tH,ds⟩ w'):wpOp A.P ops Q i K ⟨tm,ds⟩ w:=by
 have mN:i<ops.size:=(cN.1 hi).1
 have Yh:=RO.len
 have hlen:∀i j,i<=j->j<=ops.size->(Hq i).length<=(Hq j).length:=λi j h1 h2=>hq.mono hL h1 (by omega)
 obtain⟨p,p0,h1,h2,h3,h4,h5⟩:=RO.op i o hi
 obtain⟨hr,hs⟩:=hq.step i p h1
 have ai7:=I.le
 -- what stands before i has run
 have aqI:∀j,bit ops i j->D j=true:=λj hj=>
  ID (D:=λj=>D j=true) RP.ZT (λj o hj hd=>I.closed j o hj hd) i j o hi Tb hj
 have K3:∀j,j<ops.size->D j=true->bit ops j i->False:=λj hj hd Jy=>by
  have:=ID (D:=λj=>D j=true) RP.ZT (λj o hj hd=>I.closed j o hj hd) j i ops[j] (bS hj) (I.closed j _ (bS hj) hd) Jy
  rw[II]at this;cases this
 -- the slots that it reads
 have axZ:∀t∈BE p,nQ l (Sq 0) V D ops.size t=Sq i t:=by
  intro t ht
  refine(Sy (D:=D) hq (k:=i) (t:=t) (by omega) ?_ ?_ ops.size (by omega)).2 (by omega)
  ·intro j hj hd
   have zK:j<l.length:=by omega
   have Rq:=ah zK
   rcases RP.apart j i _ p hj Rq h1 with Jy|⟨ha,_⟩
   ·exact aqI j Jy
   ·exact absurd ht (ha t (by simpa [uP,Rq]using hd)).1
  ·intro j hj hd
   by_cases he:j=i
   ·rw[he];exact II
   ·by_cases zK:j<l.length
    ·have Rq:=ah zK
     rcases RP.apart i j p _ (by omega) h1 Rq with Jy|⟨_,fC⟩
     ·cases UY:D j with
      |false=>rfl
      |true=>exact(K3 j (by omega) UY Jy).elim
     ·exact absurd ht (fC t (by simpa [uP,Rq]using hd))
    ·simp[uP,dX (fO zK)]at hd
 have di:∀g,ni kh call (nQ l (Sq 0) V D ops.size) g (bare p)=ni kh call (Sq i) g (bare p):=λg=>ad3 rfl axZ
 have Rx:uP l i=p.dst:=by simp[uP,h1]
 have EO:nQ l (Sq 0) V D' ops.size=pT (nQ l (Sq 0) V D ops.size) (bare p).dst (V i):=by
  show _=pT _ p.dst _
  rw[WI (k:=i) II uU ?_ ops.size,if_neg (by omega),Rx]
  intro t j ht hj hd
  by_cases zK:j<l.length
  ·have Rq:=ah zK
   rcases RP.apart i j p _ hj h1 Rq with Jy|⟨ha,_⟩
   ·cases UY:D j with
    |false=>rfl
    |true=>exact(K3 j (by omega) UY Jy).elim
   ·exact absurd (by simpa [uP,Rq]using hd) (ha t (by rw[<-Rx];exact ht)).2
  ·simp[uP,dX (fO zK)]at hd
 have wE:∀a,o.dst=some a->∀e,iq env e=some a->nQ l (Sq 0) V D ops.size e=fI:=by
  intro a ha e he
  by_cases hp:nQ l (Sq 0) V D ops.size e=fI
  ·exact hp
  ·exfalso
   obtain⟨j,x,hj,hx,hxd⟩:=akf RO h0 ops.size (aa _) e a he hp
   have zK:j<ops.size:=(cN.1 hx).1
   have hji:j≠i:=λe'=>by rw[e',II]at hj;cases hj
   rcases fV j i with bB|dG
   ·exact(RO.env j i x o e a bB hx hi hxd he).2 ha
   ·rcases RP.first i j o x a e hi hx ha hxd he with bB|Jy
    ·omega
    ·exact K3 j zK hj Jy
 have JA:∀d,o.dst=some d->d<(⟨tm,ds⟩:Act).tmps.size:=λd hd=>by
  rw[show(⟨tm,ds⟩:Act).tmps.size=m from I.QF];exact RO.dst i o d hi hd
 have Ap:lo<=w.heap.size:=a7 fh I.ext.size
 have HX:∀(j:Nat) (o:Oper),ops[j]?=some o->D' j=true->∀e∈o.after,Region.binds .any e=true->D' e.on=true:=by
  intro j o' hj hd e he GP
  rw[uU]at hd ⊢
  split
  ·rfl
  ·split at hd
   ·rename_i hji
    subst hji
    rw[hi]at hj;injection hj with hj;subst hj
    exact Tb e he GP
   ·exact I.closed j o' hj hd e he GP
 have MF:∀k b,k<ops.size->k≠i->(Hq k).length<=b->b<(Hq (k+1)).length->b<(Hq i).length∨(Hq (i+1)).length<=b:=by
  intro k b hk qJ gu fC
  rcases fV k i with h|h
  ·have:=hlen (k+1) i (by omega) (by omega);omega
  ·have:=hlen (i+1) k (by omega) (by omega);omega
 -- a mover stands before or behind all others that do not hang on their slots alone
 have Te:∀r,r<ops.size->¬Calm Hq r->∀(j:Nat) (q:Oper),l[j]?=some q->j≠r->gP q.op=true∨(j<r∧bit ops r j)∨(r<=j∧(bit ops j r∨rV q.op=true))∨(j<r∧∃n y rp,q.op=.load n y∧l[r]?=some rp∧tG rp.type=some y∧∀(m:Nat) (z:Oper),j<=m->m<r->l[m]?=some z->z.dst≠KB y):=by
  intro r hrn rC
  have hrl:r<l.length:=by omega
  have hrx:=ah hrl
  have hrr:=(hq.step r _ hrx).1
  rcases RP.kind r _ hrx with hk|hk|⟨sk,Rs⟩|⟨y,hy,hk⟩
  ·obtain⟨e,_⟩:=F4 (.inl hk) hrr
   exact absurd (by unfold Calm;rw[e];exact ae.refl _) rC
  ·intro j q C5 hjr
   rcases hk j q C5 hjr with h|h|h
   ·exact .inl h
   ·exact .inr (.inl h)
   ·exact .inr (.inr (.inl h))
  ·exact absurd (agP sk Rs hrr) rC
  ·intro j q C5 hjr
   rcases hk j q C5 hjr with h|h|h|⟨h1,⟨n,h2⟩,h3⟩
   ·exact .inl h
   ·exact .inr (.inl h)
   ·exact .inr (.inr (.inl h))
   ·exact .inr (.inr (.inr ⟨h1,n,y,_,h2,hrx,hy,h3⟩))
 have aw1:∀r q,l[r]?=some q->¬Calm Hq r->gP q.op=false:=by
  intro r q hrx rC
  cases vI:gP q.op with
  |false=>rfl
  |true=>
   obtain⟨e,_⟩:=F4 (.inl vI) (hq.step r _ hrx).1
   exact absurd (by unfold Calm;rw[e];exact ae.refl _) rC
 obtain⟨Hv,HH,gv,lv,mv⟩:=I.heap
 have hRn:(Hq R).length<=(Hq ops.size).length:=hlen R ops.size ai7 (aa _)
 have h0R:(Hq 0).length<=(Hq R).length:=hlen 0 R (by omega) ai7
 have al6:∀(g:a9),(∀b,b<(Hq 0).length->g[b]?=(Hq R)[b]?)->∀(b:Nat) (x y:mm),(Hq 0)[b]?=some x->g[b]?=some y->y.rw=true->x.rw=true:=by
  intro g hg b x y hx hy hr
  rw[hg b (au.1 hx).1]at hy
  exact I.OX hlen R (aa _) b x y hx hy hr
 by_cases Tc:Hq (i+1)=Hq i∧ni kh call (Sq i) Hv p=some (V i,Hv)
 · -- whatever the heap, or as it reads
  obtain⟨u6,ax2⟩:=Tc
  have K4:Calm Hq i:=by unfold Calm;rw[u6];exact ae.refl _
  have hrR:ni kh call (nQ l (Sq 0) V D ops.size) Hv (bare p)=some (V i,Hv):=by rw[di];exact F3 ax2
  refine Dm (a:=⟨tm,ds⟩) (p:=bare p) hE hC RO.wf I.It HH hb Ap (λb h1 h2=>by omega) hi h2 h3 h4 h5 wE JA hrR ?_
  rintro tH w'⟨fc,φ',S',H',X',_⟩
  rw[<-EO]at S'
  have hsm:∀b,φ' b=φ b:=λb=>X'.same b (by omega)
  refine hK R tH w' φ' ⟨HX,I.le,?_,?_,fc.trans I.QF,S',⟨Hv,H',gv,lv,?_⟩,?_,?_,?_,?_⟩
  ·intro hR
   obtain⟨q1,q2⟩:=I.mover hR
   refine⟨q1,?_⟩
   rw[uU,if_neg (λe=>q1 (by rw[e];exact K4))];exact q2
  ·intro j hj rC
   rw[uU];split
   ·rfl
   ·exact I.Ct j hj rC
  ·intro k sk hk hd b gu fC
   rw[uU]at hd
   split at hd
   ·rename_i qJ;rw[qJ,u6]at fC;rw[qJ]at gu;omega
   ·exact mv k sk hk hd b gu fC
  ·intro k hk hd b gu fC
   rw[uU]at hd
   split at hd
   ·cases hd
   ·rw[hsm];exact I.CT k hk hd b gu fC
  ·intro k hk hd b gu fC
   rw[uU]at hd
   split at hd
   ·rename_i qJ;rw[qJ,u6]at fC;rw[qJ]at gu;omega
   ·rw[hsm];exact I.PB k hk hd b gu fC
  ·intro k hk hd b x y hx hy sO
   rw[uU]at hd
   split at hd
   ·rename_i qJ;rw[qJ]at hx hy;rw[u6,hx]at hy;injection hy with hy;subst hy;exact sO
   ·exact I.mode k hk hd b x y hx hy sO
  ·exact I.ext.step fh X' (by omega) (aa _) (by omega) (al6 Hv λb hb=>gv.get (by omega))
 ·have vI:gP p.op=false:=by
   cases vI:gP p.op with
   |false=>rfl
   |true=>
    obtain⟨u6,ia⟩:=F4 (.inl vI) hr
    exact absurd ⟨u6,ia _⟩ Tc
  have Tg:qu (Sq i) p.guard≠some false:=by
   intro hw
   obtain⟨u6,ia⟩:=F4 (.inr hw) hr
   exact Tc ⟨u6,ia _⟩
  -- a reader beside movers that leave its block reads as it should
  have Ym:∀n y,p.op=.load n y->i<=R->False:=by
   intro n y xI hiR
   have h4:p.type<4:=by
    rcases RP.flat i p h1 with hm|hm
    ·rw[xI]at hm;simp[sS]at hm
    ·exact hm
   obtain⟨u6,⟨a,ha,BT⟩,ia⟩:=agR h4 xI Tg hr
   have DK:Calm Hq i:=by unfold Calm;rw[u6];exact ae.refl _
   have chain:∀k,i<=k->k<=R->(Hq k)[a.block]?=(Hq i)[a.block]?:=by
    intro k sk
    obtain⟨d,rfl⟩:∃d,k=i+d:=⟨k-i,by omega⟩
    clear sk
    induction d with
    |zero=>intro _;rfl
    |succ d ih=>
     intro Rs
     have ih:=ih (by omega)
     rw[<-ih]
     have Rt:a.block<(Hq (i+d)).length:=bQ BT (hlen i (i+d) (by omega) (by omega))
     by_cases hc:Calm Hq (i+d)
     ·exact ae.get hc Rt
     ·have cG:i≠i+d:=λe=>hc (by rw[<-e];exact DK)
      have UY:=I.Ct (i+d) (by omega) hc
      rcases Te (i+d) (by omega) hc i p h1 cG with hk|⟨_,hk⟩|⟨hk,_⟩|⟨_,n',y',rp,ady,hrp,hsd,hnw⟩
      ·rw[vI]at hk;cases hk
      ·exact(K3 (i+d) (by omega) UY hk).elim
      ·omega
      ·rw[xI]at ady
       injection ady with _ hyy
       subst hyy
       have OD:=agS hsd hc (hq.step (i+d) rp hrp).1
       have ES:∀m,i<=m->m<=i+d->lW (Sq m) y=lW (Sq i) y:=by
        intro m hm1
        obtain⟨e,rfl⟩:∃e,m=i+e:=⟨m-i,by omega⟩
        clear hm1
        induction e with
        |zero=>intro _;rfl
        |succ e ihe=>
         intro hm2
         rw[<-ihe (by omega)]
         have Yj:i+e<l.length:=by omega
         have IM:=ah Yj
         have arn:=hnw (i+e) _ (by omega) (by omega) IM
         have hsq:=M7 hq Yj
         rw[show i+(e+1)=i+e+1 by omega,hsq]
         cases y with
         |tmp t=>exact pU (by simpa [uP,IM,KB]using arn)
         |global t=>exact pU (by simpa [uP,IM,KB]using arn)
         |_=>rfl
       rw[ES (i+d) (by omega) (aa _),ha]at OD
       exact yR.1 OD
   refine Tc ⟨u6,ia Hv ?_⟩
   rw[ha]
   have e1:=chain R hiR (aa _)
   have hlR:a.block<(Hq R).length:=bQ BT (hlen i R hiR ai7)
   have e2:=gv.get hlR
   exact yR.2 (e2.trans e1)
  by_cases aIm:R<i
  · -- it lays a block ahead of its time
   have hly:rV p.op=true:=by
    obtain⟨q1,q2⟩:=I.mover (by omega)
    rcases Te R (by omega) q1 i p h1 (by omega)with hk|⟨hk,_⟩|⟨_,hk|hk⟩|⟨hk,_⟩
    ·rw[vI]at hk;cases hk
    ·omega
    ·rw[aqI R hk]at q2;cases q2
    ·exact hk
    ·omega
   have ht4:p.type<4:=by
    rcases RP.flat i p h1 with hm|hm
    ·exfalso
     cases ho:p.op<;>rw[ho]at hly hm<;>simp[rV,sS]at hly hm
    ·exact hm
   obtain⟨new,aid,ia⟩:=agQ ht4 hly Tg hr
   obtain⟨hs,es⟩:∃hs,hs=Hv.take (Hq i).length:=⟨_,rfl⟩
   have MG:(Hq i).length<=(Hq ops.size).length:=hlen i ops.size (by omega) (aa _)
   have aLW:(Hq (i+1)).length<=(Hq ops.size).length:=hlen (i+1) ops.size (by omega) (aa _)
   have hRi:(Hq R).length<=(Hq i).length:=hlen R i (by omega) (by omega)
   have ls:hs.length=(Hq i).length:=by rw[es,bu];omega
   have ls':(hs++new).length=(Hq (i+1)).length:=by rw[aid,af,af,ls]
   have nY:∀b,b<(Hq i).length->hs[b]?=Hv[b]?:=λb hb=>by rw[es,bO hb]
   have gs:ae hs Hv:=UL (by omega) λb hb=>(nY b (by omega)).symm
   have Hst:bG A φ hs w base:=bG.Lj gs (by have:=hlen 0 i (by omega) (by omega);omega) HH
   have hrS:ni kh call (nQ l (Sq 0) V D ops.size) hs (bare p)=some (V i,hs++new):=by rw[di];exact F3 (ia hs ls)
   have Yk:∀b,hs.length<=b->b<(hs++new).length->φ b=none:=λb gu fC=>I.CT i mN II b (by omega) (by omega)
   refine Dm (a:=⟨tm,ds⟩) (p:=bare p) hE hC RO.wf I.It Hst hb Ap Yk hi h2 h3 h4 h5 wE JA hrS ?_
   rintro tH w'⟨fc,φ',S',H',X',On⟩
   rw[<-EO]at S'
   have U3:Ext w.heap.size φ hs w φ' (hs++new) w':=by
    rcases On with hf|hf
    ·rw[show gP (bare p).op=false from vI]at hf;cases hf
    ·exact hf
   have alH:∀b,b<(Hq i).length->((hs++new)++Hv.drop (hs++new).length)[b]?=Hv[b]?:=λb hb=>by
    rw[Cr (by rw[af];omega),ai (by omega)];exact nY b hb
   refine hK R tH w' φ' ⟨HX,I.le,?_,?_,fc.trans I.QF,S',⟨_,bG.over gs Yk HH H' U3,?_,?_,?_⟩,?_,?_,?_,?_⟩
   ·intro hR
    obtain⟨q1,q2⟩:=I.mover hR
    refine⟨q1,?_⟩
    rw[uU,if_neg (by omega)];exact q2
   ·intro j hj rC
    rw[uU];split
    ·rfl
    ·exact I.Ct j hj rC
   ·refine UL (by rw[Fe (by omega)];omega) λb hb=>?_
    rw[alH b (by omega)];exact gv.get hb
   ·rw[Fe (by omega)];exact lv
   ·intro k sk hk hd b gu fC
    rw[uU]at hd
    split at hd
    ·rename_i qJ
     subst qJ
     rw[Cr (by omega),aid,aX (by omega),aX gu,ls]
    ·rename_i qJ
     rw[<-mv k sk hk hd b gu fC]
     rcases MF k b hk qJ gu fC with hq|hq
     ·exact alH b hq
     ·exact AI (by omega)
   ·intro k hk hd b gu fC
    rw[uU]at hd
    split at hd
    ·cases hd
    ·rename_i qJ
     rw[X'.same b (by have:=MF k b hk qJ gu fC;omega)];exact I.CT k hk hd b gu fC
   ·intro k hk hd b gu fC
    rw[uU]at hd
    split at hd
    ·rename_i qJ;rw[qJ]at gu fC;exact X'.DF b (by omega) (by omega)
    ·rename_i qJ
     rw[X'.same b (by have:=MF k b hk qJ gu fC;omega)];exact I.PB k hk hd b gu fC
   ·intro k hk hd b x y hx hy sO
    rw[uU]at hd
    split at hd
    ·rename_i qJ
     rw[qJ]at hx hy
     rw[aid,ai (au.1 hx).1,hx]at hy
     injection hy with hy;subst hy;exact sO
    ·exact I.mode k hk hd b x y hx hy sO
   ·exact I.ext.step fh X' (by omega) (by rw[af];omega) (by omega) (al6 hs λb hb=>by rw[nY b (by omega)];exact gv.get (by omega))
  have hiR:i<=R:=by omega
  by_cases K4:Calm Hq i
  · -- it lays blocks, or reads
   have cG:i<R:=by
    rcases fV i R with h|h
    ·exact h
    ·have:i=R:=by omega
     obtain⟨q1,_⟩:=I.mover (by omega)
     rw[<-this]at q1
     exact absurd K4 q1
   have UW:∀j,i<=j->j<R->Calm Hq j:=by
    intro j LL LM
    by_cases hc:Calm Hq j
    ·exact hc
    ·exfalso
     have UY:=I.Ct j LM hc
     have hji:i≠j:=λe=>hc (by rw[<-e];exact K4)
     rcases Te j (by omega) hc i p h1 hji with hk|⟨_,hk⟩|⟨hk,_⟩|⟨_,n,y,_,xI,_⟩
     ·rw[vI]at hk;cases hk
     ·exact K3 j (by omega) UY hk
     ·omega
     ·exact Ym n y xI hiR
   have U4:ae (Hq i) (Hq (i+1)):=K4
   have Bg:ae (Hq (i+1)) Hv:=(DY (by omega) λk h1 h2=>UW k (by omega) h2).trans gv
   have jV:0<(Hq i).length:=bQ hp0 (hlen 0 i (by omega) (by omega))
   have hHi:bG A φ (Hq i) w base:=bG.Lj (U4.trans Bg) jV HH
   have hrI:ni kh call (nQ l (Sq 0) V D ops.size) (Hq i) (bare p)=some (V i,Hq (i+1)):=by rw[di];exact F3 hr
   refine Dm (a:=⟨tm,ds⟩) (p:=bare p) hE hC RO.wf I.It hHi hb Ap (I.CT i mN II) hi h2 h3 h4 h5 wE JA hrI ?_
   rintro tH w'⟨fc,φ',S',H',X',On⟩
   rw[<-EO]at S'
   have U3:Ext w.heap.size φ (Hq i) w φ' (Hq (i+1)) w':=by
    rcases On with hf|hf
    ·rw[show gP (bare p).op=false from vI]at hf;cases hf
    ·exact hf
   have HV:=bG.over (U4.trans Bg) (I.CT i mN II) HH H' U3
   rw[ago Bg]at HV
   refine hK R tH w' φ' ⟨HX,I.le,?_,?_,fc.trans I.QF,S',⟨Hv,HV,gv,lv,?_⟩,?_,?_,?_,?_⟩
   ·intro hR
    obtain⟨q1,q2⟩:=I.mover hR
    refine⟨q1,?_⟩
    rw[uU,if_neg (by omega)];exact q2
   ·intro j hj rC
    rw[uU];split
    ·rfl
    ·exact I.Ct j hj rC
   ·intro k sk hk hd b gu fC
    rw[uU,if_neg (by omega)]at hd
    exact mv k sk hk hd b gu fC
   ·intro k hk hd b gu fC
    rw[uU]at hd
    split at hd
    ·cases hd
    ·rename_i qJ
     rw[X'.same b (MF k b hk qJ gu fC)];exact I.CT k hk hd b gu fC
   ·intro k hk hd b gu fC
    rw[uU]at hd
    split at hd
    ·rename_i qJ;rw[qJ]at gu fC;exact X'.DF b gu fC
    ·rename_i qJ
     rw[X'.same b (MF k b hk qJ gu fC)];exact I.PB k hk hd b gu fC
   ·intro k hk hd b x y hx hy sO
    rw[uU]at hd
    split at hd
    ·rename_i qJ;rw[qJ]at hx hy;exact X'.mode b x y hx hy sO
    ·exact I.mode k hk hd b x y hx hy sO
   ·exact I.ext.step fh X' (hlen 0 i (by omega) (by omega)) (hlen i (i+1) (by omega) (by omega)) (hlen (i+1) ops.size (by omega) (aa _)) (I.OX hlen i (by omega))
  · -- it turns a block
   have aEv:i=R:=by
    rcases fV i R with h|h
    ·have:=I.Ct i h K4
     rw[II]at this;cases this
    ·omega
   subst aEv
   have hrI:ni kh call (nQ l (Sq 0) V D ops.size) (Hq i) (bare p)=some (V i,Hq (i+1)):=by rw[di];exact F3 hr
   have jV:0<(Hq i).length:=bQ hp0 h0R
   refine Dm (a:=⟨tm,ds⟩) (p:=bare p) hE hC RO.wf I.It (bG.Lj gv jV HH) hb Ap (I.CT i mN II) hi h2 h3 h4 h5 wE JA hrI ?_
   rintro tH w'⟨fc,φ',S',H',X',On⟩
   rw[<-EO]at S'
   have U3:Ext w.heap.size φ (Hq i) w φ' (Hq (i+1)) w':=by
    rcases On with hf|hf
    ·rw[show gP (bare p).op=false from vI]at hf;cases hf
    ·exact hf
   have HV:=bG.over gv (I.CT i mN II) HH H' U3
   obtain⟨R',r1,r2,r3,r4⟩:=Ib Hq ops.size (ops.size-(i+1)) (i+1) (by omega)
   have Bh:(Hq (i+1)).length<=(Hq ops.size).length:=hlen (i+1) ops.size (by omega) (aa _)
   have hR1:(Hq (i+1)).length<=(Hq R').length:=hlen (i+1) R' r1 r2
   have hR2:(Hq R').length<=(Hq ops.size).length:=hlen R' ops.size r2 (aa _)
   have gR:ae (Hq (i+1)) (Hq R'):=DY r1 r4
   have HV':bG A φ' (Hq R'++Hv.drop (Hq R').length) w' base:=by
    refine HV.swap (by rw[af];have:=hlen 0 R' (by omega) r2;omega) λb l hl=>?_
    by_cases gu:b<(Hq (i+1)).length
    ·rw[Cr (by omega),Cr gu];exact gR.get gu
    ·by_cases fC:b<(Hq R').length
     ·obtain⟨k,k1,k2,k3,k4⟩:=amD (f:=λk=>(Hq k).length) r1 (fO gu) fC
      rw[X'.same b (.inr (fO gu))]at hl
      cases hdk:D k with
      |false=>
       have:=I.CT k (by omega) hdk b k3 k4
       rw[this]at hl;cases hl
      |true=>
       have e1:=mv k (by omega) (by omega) hdk b k3 k4
       have gk:ae (Hq (k+1)) (Hq R'):=DY (by omega) λj h1 h2=>r4 j (by omega) h2
       rw[Cr fC,AI (fO gu),e1]
       exact gk.get k4
     ·rw[AI (fO fC),AI (fO gu)]
   refine hK R' tH w' φ' ⟨HX,r2,?_,?_,fc.trans I.QF,S',⟨_,HV',?_,?_,?_⟩,?_,?_,?_,?_⟩
   ·intro hR
    refine⟨r3 hR,?_⟩
    rw[uU,if_neg (by omega)]
    cases hdR:D R' with
    |false=>rfl
    |true=>
     exfalso
     rcases Te R' hR (r3 hR) i p h1 (by omega)with hs|⟨_,hs⟩|⟨hs,_⟩|⟨_,n,y,_,xI,_⟩
     ·rw[vI]at hs;cases hs
     ·exact K3 R' hR hdR hs
     ·omega
     ·exact Ym n y xI (aa _)
   ·intro j hj rC
    rw[uU];split
    ·rfl
    ·rename_i hji
     rcases fV j i with h|h
     ·exact I.Ct j h rC
     ·exact absurd (r4 j (by omega) hj) rC
   ·exact⟨_,rfl⟩
   ·rw[Fe (by omega)];exact lv
   ·intro k sk hk hd b gu fC
    rw[uU,if_neg (by omega)]at hd
    have:=hlen R' k sk (by omega)
    rw[AI (by omega)]
    exact mv k (by omega) hk hd b gu fC
   ·intro k hk hd b gu fC
    rw[uU]at hd
    split at hd
    ·cases hd
    ·rename_i qJ
     rw[X'.same b (MF k b hk qJ gu fC)];exact I.CT k hk hd b gu fC
   ·intro k hk hd b gu fC
    rw[uU]at hd
    split at hd
    ·rename_i qJ;rw[qJ]at gu fC;exact X'.DF b gu fC
    ·rename_i qJ
     rw[X'.same b (MF k b hk qJ gu fC)];exact I.PB k hk hd b gu fC
   ·intro k hk hd b x y hx hy sO
    rw[uU]at hd
    split at hd
    ·rename_i qJ;rw[qJ]at hx hy;exact X'.mode b x y hx hy sO
    ·exact I.mode k hk hd b x y hx hy sO
   ·exact I.ext.step fh X' (hlen 0 i (by omega) (by omega)) (hlen i (i+1) (by omega) (by omega)) (hlen (i+1) ops.size (by omega) (aa _)) (I.OX hlen i (aa _))
theorem N5:∀(a:List Bool) (i:Nat),a[i]?=some false->((a.set i true).filter (! ·)).length+1=(a.filter (! ·)).length
 |[],i,h=>by simp at h
 |b::r,0,h=>by simp at h;subst h;simp
 |b::r,i+1,h=>by
  have:=N5 r i (by simpa using h);cases b<;>simp[List.filter_cons]<;>omega
theorem agJ{a:Array Bool}(l:a.size=ops.size)(he:Cd ops=true)(i:Region.ready .any ops a=[]):∀j,j<ops.size->AN a j=true:=by
 intro j
 induction j using Nat.strongRecOn with
 |_ j ih=>
  intro c;cases d:AN a j with
  |true=>rfl
  |false=>
   exfalso;have f:j∈Region.ready .any ops a:=by
    rw[mem_ready];have k:j<a.size:=by omega
    refine⟨?_,ops[j],bS c,λe b h=>?_⟩
    ·simp only[AN,cg,bS k,lu]at d ⊢;exact d
    ·have g:e.on<j:=by unfold Cd at he;simp only[bV,da]at he;have:=he j c;simp only[bS c,bV]at this;have:=this e (by simpa using b);simpa [h]using this
     exact ih e.on g (by omega)
   rw[i]at f;cases f
theorem ajO(RO:Hy A loc pb env ops l m)(v:KQ env ops l)(L:kV A)(K:zu A base call)(y:ue call)(t:xS kh call l Sq Hq V)(h0:∀d,own loc d=true->Sq 0 d=fI)
  (q:0<(Hq 0).length) (O:base<=lo) (J:lo<=w0.heap.size) {Q:Exit->Act->World->Prop} {ds:List Deferred}
  (M:∀(tm:Array Value) (w:World) (φ:dS),tm.size=m->SR A pb env φ (Sq ops.size) tm w lo->bG A φ (Hq ops.size) w base->Ext lo φ0 (Hq 0) w0 φ (Hq ops.size) w->Q .normal ⟨tm,ds⟩ w):
  ∀(fuel:Nat) (a:Array Bool),a.size=ops.size->(a.toList.filter (! ·)).length<=fuel->∀(R:Nat) (tm:Array Value) (w:World) (φ:dS),PM A pb env ops l m Sq Hq V base lo φ0 w0 (AN a) R tm w φ->
   wpAny A.P .any ops Q fuel a ⟨tm,ds⟩ w:=by
 have Yh:=RO.len;have hlen:∀i j,i<=j->j<=ops.size->(Hq i).length<=(Hq j).length:=λi j h1 n=>t.mono y h1 (by omega);have fin:∀(a:Array Bool),a.size=ops.size->∀(R:Nat) (tm:Array Value) (w:World) (φ:dS),PM A pb env ops l m Sq Hq V base lo φ0 w0 (AN a) R tm w φ->(∀j,j<ops.size->AN a j=true)->Q .normal ⟨tm,ds⟩ w:=by
  intro a g R tm w φ I p;have hR:R=ops.size:=by
   rcases fV R ops.size with h|h
   ·have:=(I.mover h).2;rw[p R h]at this;cases this
   ·have:=I.le;omega
  have N:nQ l (Sq 0) V (AN a) ops.size=Sq ops.size:=WH t ops.size (by omega) p;have S:=I.It;rw[N]at S;obtain⟨Hv,C,gv,lv,_⟩:=I.heap;rw[hR]at gv;have H:bG A φ (Hq ops.size) w base:=bG.Lj gv (bQ q (hlen 0 ops.size (by omega) (aa _))) C;refine M tm w φ I.QF S H ⟨I.ext.sub,λb h1 n=>?_,I.ext.same,hlen 0 _ (by omega) (aa _),?_,I.ext.size,I.ext.os,I.ext.tape,I.ext.output,I.ext.frame,I.ext.fresh⟩
  ·obtain⟨k,k1,z,U,W⟩:=amD (f:=λk=>(Hq k).length) (iE ops.size) h1 n;exact I.PB k z (p k z) b U W
  ·have:=I.OX hlen R (aa _);rw[hR]at this;exact this
 intro fuel
 induction fuel with
 |zero=>
  intro a g T R tm w φ I;have p:∀j,j<ops.size->AN a j=true:=by
   intro j hj;have Z:j<a.size:=by omega
   have B:a.toList.filter (! ·)=[]:=dI (by omega);have:=List.filter_eq_nil_iff.1 B a[j] (by simp);simp only[AN,cg,bS Z,lu];simpa using this
  refine⟨?_,fin a g R tm w φ I p⟩;cases u:Region.ready .any ops a with
  |nil=>rfl
  |cons i r=>
   exfalso;have hm:i∈Region.ready .any ops a:=by rw[u];simp
   obtain⟨h1,o,s,_⟩:=mem_ready.1 hm;have hi:=(cN.1 s).1;have n:=p i hi;have c:i<a.size:=by omega
   simp only[AN,cg,bS c,lu]at h1 n;rw[h1]at n;cases n
 |succ fuel ih=>
  intro a g T R tm w φ I;refine⟨λu=>fin a g R tm w φ I (agJ g v.ZT u),λi hm=>?_⟩;obtain⟨h1,o,s,G⟩:=mem_ready.1 hm;have hi:=(cN.1 s).1;have c:i<a.size:=by omega
  have x:a[i]=false:=by simpa [cg,bS c]using h1
  have E:AN a i=false:=by simp[AN,cg,bS c,x]
  have Y:∀j,AN (a.setIfInBounds i true) j=if j=i then true else AN a j:=by
   intro j;by_cases h:j=i
   ·subst h;simp[AN,cg,c]
   ·have:i≠j:=λe=>h e.symm;simp[AN,cg,Array.getElem?_setIfInBounds_ne this,h]
  refine agm RO v L K y t h0 q O J I s E G Y λF X w' φ' D=>ih _ (by simp[g]) ?_ F X w' φ' D;have hf:=N5 a.toList i (by simp[bS c,x]);rw[mE];omega
theorem Xl(RO:Hy A loc pb env ops l m)(x:KQ env ops l)(E:kV A)(D:zu A base call)(q:ue call)(s:xS kh call l Sq Hq V)(h0:∀d,own loc d=true->Sq 0 d=fI)
  (G:base<=lo) (z:lo<=w0.heap.size) {Q:Exit->Act->World->Prop} {ds:List Deferred} (K:tm.size=m) (S:SR A pb env φ0 (Sq 0) tm w0 lo) (H:bG A φ0 (Hq 0) w0 base)
  (c:∀b,(Hq 0).length<=b->b<(Hq ops.size).length->φ0 b=none)
  (F:∀(tm:Array Value) (w:World) (φ:dS),tm.size=m->SR A pb env φ (Sq ops.size) tm w lo->bG A φ (Hq ops.size) w base->Ext lo φ0 (Hq 0) w0 φ (Hq ops.size) w->Q .normal ⟨tm,ds⟩ w):
  wpAny A.P .any ops Q ops.size (Array.replicate ops.size false) ⟨tm,ds⟩ w0:=by
 have L:=RO.len;have hlen:∀i j,i<=j->j<=ops.size->(Hq i).length<=(Hq j).length:=λi j h1 f=>s.mono q h1 (by omega);have e:∀j,AN (Array.replicate ops.size false) j=false:=by
  intro j;simp only[AN,cg];cases h:(Array.replicate ops.size false)[j]? with
  |none=>rfl
  |some b=>
   obtain⟨M,t⟩:=cN.1 h;simp at t;subst t;rfl
 have v:∀k,nQ l (Sq 0) V (AN (Array.replicate ops.size false)) k=Sq 0:=by
  intro k
  induction k with
  |zero=>rfl
  |succ k ih=>rw[nQ,if_neg (by rw[e];simp)];exact ih
 obtain⟨R,N,p,I,u⟩:=Ib Hq ops.size ops.size 0 (by omega);refine ajO RO x E D q s h0 H.pos G z F ops.size _ (by simp) ?_ R tm w0 φ0 ⟨?_,p,?_,?_,K,?_,?_,?_,?_,?_,Mi.refl c⟩
 ·refine a7 (mY _ _) (by simp)
 ·intro j o r a;rw[e]at a;cases a
 ·exact λhR=>⟨I hR,e R⟩
 ·intro j r J;exact absurd (u j (by omega) r) J
 ·rw[v];exact S
 ·refine⟨Hq R++(Hq ops.size).drop (Hq R).length,?_,⟨_,rfl⟩,Fe (hlen R ops.size p (aa _)),λk _ n a=>by rw[e]at a;cases a⟩;have g:=hlen R ops.size p (aa _);have B:ae (Hq 0) (Hq R):=DY (by omega) u;refine bG.extend (B.trans ⟨_,rfl⟩) (λb h1 f=>c b h1 (by rw[Fe g]at f;exact f)) H
 ·intro k n _ b C y;exact c b (a7 (hlen 0 k (by omega) (by omega)) C) (bQ y (hlen (k+1) ops.size (by omega) (aa _)))
 ·intro k n a;rw[e]at a;cases a
 ·intro k n a;rw[e]at a;cases a
end
end Am
namespace Am
open Go
section norm
variable {A : iG} {loc pb : List Nat} {ops : Array Oper} {draw : Bool} {l : List Oper} {m : Nat}
theorem sI{α:Type}{f:α×Nat->Bool}{l:List α}(h:l.zipIdx.all f=true):∀(k:Nat) (x:α),l[k]?=some x->f (x,k)=true:=by
 grind
theorem WQ{b:Array Nat}{i j:Nat}{x y:Oper}(h:Tz b i j x y=true):(b.getD j 0).testBit i=true∨((∀d,x.dst=some d->d∉BE y∧y.dst≠some d)∧(∀d,y.dst=some d->d∉BE x)):=by
 unfold Tz at h
 grind
theorem adM(hn:K7 A loc pb ops draw=some l)(P:∀(k:Nat) (o:Oper) (d:Nat),ops[k]?=some o->o.dst=some d->d<m):
  l.all (Fu loc)=true∧∃env,Hy A loc pb env ops l m∧(draw=true->KQ env ops l):=by
 unfold K7 at hn;simp only at hn;split at hn
 ·rename_i e;simp only[aH]at e;obtain⟨c,O⟩:=ZX e.2;split at hn
  ·rename_i ps R;obtain⟨hlen,B⟩:=OZ R;have v:∀(j k:Nat) (x y:Oper) (d a:Nat),j<k->ops[j]?=some x->ops[k]?=some y->x.dst=some d->iq (FC loc pb [] ops.toList) d=some a->y.dst≠some d∧y.dst≠some a:=
    λj k x y d a h1 f G=>NW e.1 j k x y d a h1 (by simpa using f) (by simpa using G)
   split at hn
   ·rename_i l' t;split at hn
    ·rename_i hw;simp only[aH]at hw;injection hn with hn;subst hn;refine⟨hw.1,FC loc pb [] ops.toList,?_⟩;cases draw with
     |false=>
      simp only[ax,if_false,aI]at t;subst t;refine⟨⟨by simpa using hlen,λk o b=>?_,c,O,v,P⟩,λh=>by cases h⟩;obtain⟨p,h1,f⟩:=B k o (by simpa using b)
      grind
     |true=>
      simp only[if_true]at t;split at t
      ·rename_i C;simp only[aH]at C;obtain⟨IL,H⟩:=RT t;have w:∀(k:Nat) (p:Oper),l'[k]?=some p->∃p0,ps[k]?=some p0∧p.dst=p0.dst∧p.op=p0.op∧p.guard=p0.guard∧
         I0 (Region.before ops) ps k p0 p:=by
        intro k p b;have Q:k<ps.length:=by have:=(au.1 b).1;omega
        obtain⟨p',q1,q2,q3,q4,q5⟩:=H k _ (ah Q);rw[b]at q1;injection q1 with q1;subst q1
        exact⟨_,ah Q,q2,q3,q4,by simpa using q5⟩
       refine⟨⟨by simp at hlen;omega,λk o b=>?_,c,O,v,P⟩,λ_=>⟨C.1.1,?_,?_,?_,?_⟩⟩
       ·obtain⟨p,h1,f⟩:=B k o (by simpa using b)
        grind
       ·intro i j x y S hx hy;have nY:Nb (Region.before ops) l'=true:=by simpa using hw.2
        have:=sI (sI nY j y hy) i x hx;simp only[dq,fp,decide_eq_false_iff_not]at this;rcases this with h|h
        ·exact absurd S h
        ·exact WQ h
       ·intro i j x y a d hx hy J K T;have:=sI (sI C.2 i x (by simpa using hx)) j y (by simpa using hy);simp only[J,K,dq,bne_iff_ne,ne_eq,decide_eq_true_eq]at this;rcases this with(h|h)|h
        ·exact absurd T h
        ·exact .inl h
        ·exact .inr h
       ·intro k p b;obtain⟨p0,u,U,D,V,E⟩:=w k p b;rw[D];have r:k<ops.toList.length:=by have:=(au.1 u).1;omega
        obtain⟨L,h1,f⟩:=B k _ (ah r);rw[u]at h1;injection h1 with h1;subst h1
        have N:=(CS c f).1;exact E.2.imp id λh=>h N
       ·intro k p b;obtain⟨p0,u,U,D,V,E⟩:=w k p b;rw[D];have r:k<ops.toList.length:=by have:=(au.1 u).1;omega
        obtain⟨L,h1,f⟩:=B k _ (ah r);rw[u]at h1;injection h1 with h1;subst h1
        have N:=(CS c f).1;rcases E.1 with h|h|⟨h,h'⟩|⟨x,hx,h⟩
        ·exact .inl h
        ·refine .inr (.inl λj q I g=>?_);obtain⟨M,b1,b2,b3,W,_⟩:=w j q I;have:=sI h j M b1;simp only[dq,beq_iff_eq]at this;rw[b3];rcases this with(h|h)|h
         ·exact absurd h g
         ·exact .inl h
         ·split at h
          ·rename_i s;exact .inr (.inl ⟨s,h⟩)
          ·rename_i s;simp only[dq]at h;exact .inr (.inr ⟨by omega,h⟩)
        ·grind
        ·refine .inr (.inr (.inr ⟨x,hx,λj q I g=>?_⟩));obtain⟨M,b1,b2,b3,W,_⟩:=w j q I;have:=sI h j M b1;simp only[dq,beq_iff_eq]at this;rw[b3];rcases this with(h|h)|h
         ·exact absurd h g
         ·exact .inl h
         ·split at h
          ·rename_i s;simp only[dq]at h;rcases h with h|h
           ·exact .inr (.inl ⟨s,h⟩)
           ·unfold YR at h;simp only[aH]at h;obtain⟨⟨_,h1⟩,G⟩:=h;refine .inr (.inr (.inr ⟨s,?_,λm z X Y Z=>?_⟩))
            ·split at h1
             ·rename_i n y F;exact⟨n,by rw[F,L8 h1]⟩
             ·cases h1
            ·obtain⟨z0,c1,c2,_⟩:=w m z Z;have:=sI G m z0 c1
             grind
          ·rename_i s;simp only[dq]at h;exact .inr (.inr (.inl ⟨by omega,h⟩))
      ·simp at t
    ·simp at hn
   ·simp at hn
  ·simp at hn
 ·simp at hn
end norm
def ends(e:Nat):Exit->Prop
 |.normal=>e=0
 |.ret=>e=1
 |.exit id=>e=id+2
 |_=>False
section
variable {A : iG} {loc pb : List Nat} {m base lo : Nat} {call : oh}
def Tm(A:iG)(loc pb:List Nat)(m base lo:Nat)(φ:dS)(h:a9)(w:World)(ds:List Deferred)(r:Out)(e:Exit)(a:Act)(w':World):Prop:=
 ends r.e e∧a.defers=ds∧a.tmps.size=m∧∃φ',SR A pb [] φ' (comb loc r.σ nothing) a.tmps w' lo∧bG A φ' r.h w' base∧Ext lo φ h w φ' r.h w'
theorem AY{σ:Nat->Value}{d:Nat}(a:own loc d=true):comb loc σ nothing d=fI:=by simp[comb,a,nothing]
theorem sL{σ τ:Nat->Value}{d:Nat}(a:own loc d=false):comb loc σ τ d=σ d:=by simp[comb,a]
theorem SR.enter{env:List (Nat×Nat)}{φ:dS}{σ:Nat->Value}{tm:Array Value}{w:World}(S:SR A pb [] φ (comb loc σ nothing) tm w lo)(b:∀d a,iq env d=some a->own loc d=true):SR A pb env φ (comb loc σ nothing) tm w lo:=
 ⟨λt h1 _=>S.plain t h1 rfl,S.box,S.apart,λd a h hp=>absurd (AY (b d a h)) hp⟩
theorem SR.leave{env:List (Nat×Nat)}{φ:dS}{σ τ:Nat->Value}{tm:Array Value}{w:World}(S:SR A pb env φ (comb loc σ τ) tm w lo)(l:∀d a,iq env d=some a->own loc d=true)(j:∀a,pb.contains a=true->own loc a=false):
  SR A pb [] φ (comb loc σ nothing) tm w lo:=by
 have e:∀a,pb.contains a=true->comb loc σ nothing a=comb loc σ τ a:=λa b=>by rw[sL (j a b),sL (j a b)]
 refine⟨λt h1 _=>?_,λa b hp=>?_,λa a' g b k hp i=>?_,λd a h=>by simp[iq]at h⟩
 ·cases c:own loc t with
  |true=>rw[AY c];exact VR.fI
  |false=>
   have f:iq env t=none:=by
    cases f:iq env t with
    |none=>rfl
    |some a=>rw[l t a f]at c;cases c
   have:=S.plain t h1 f;rw[sL c]at this ⊢;exact this
 ·rw[e a b]at hp ⊢;exact S.box a b hp
 ·rw[e a b]at hp;rw[e a' k]at i;exact S.apart a a' g b k hp i
theorem ad0{id:Nat}{ops:Array Oper}{draw:Bool}{l:List Oper}{σ:Nat->Value}{h:a9}{st:St}{φ:dS}{w:World}{tm:Array Value}{ds:List Deferred}
  (F:A.P.follows .mixedOrders=true) (s:kV A) (r:zu A base call) (t:ue call) (E:∀a,pb.contains a=true->own loc a=false)
  (hn:K7 A loc pb ops draw=some l) (n:∀(k:Nat) (o:Oper) (d:Nat),ops[k]?=some o->o.dst=some d->d<m) (hx:jL kh call l ⟨σ,nothing,h⟩=some st)
  (u:base<=lo) (j:lo<=w.heap.size) (y:tm.size=m) (S:SR A pb [] φ (comb loc σ nothing) tm w lo) (H:bG A φ h w base) (e:∀b,h.length<=b->b<st.h.length->φ b=none):
  (Code.region id ops draw).wp A.P (Tm A loc pb m base lo φ h w ds ⟨0,st.σ,st.h⟩) ⟨tm,ds⟩ w:=by
 obtain⟨hw,env,RO,z⟩:=adM hn n;obtain⟨Sq,Hq,V,s1,s2,x,f,v⟩:=Pt (GO hw hx);have h0:∀d,own loc d=true->Sq 0 d=fI:=λd n=>by rw[s1];exact AY n
 rw[RO.len]at x f;have c:SR A pb env φ (Sq 0) tm w lo:=by rw[s1];exact S.enter RO.own
 have fin:∀(w0:World),Ext lo φ h w φ h w0->∀(g:Array Value) (w':World) (φ':dS),g.size=m->SR A pb env φ' (Sq ops.size) g w' lo->bG A φ' (Hq ops.size) w' base->Ext lo φ (Hq 0) w0 φ' (Hq ops.size) w'->
   Tm A loc pb m base lo φ h w ds ⟨0,st.σ,st.h⟩ .normal ⟨g,ds⟩ w':=by
  intro w0 C g w' φ' D q p i;rw[x]at q;rw[f]at p i;rw[s2]at i;exact⟨rfl,rfl,D,φ',q.leave RO.own E,p,C.trans j i⟩
 cases draw with
 |false=>
  refine wp_region ?_;rw[List.range_eq_range'];exact Xm (Q:=Tm A loc pb m base lo φ h w ds ⟨0,st.σ,st.h⟩) (ds:=ds) RO s r t v h0 (φ0:=φ) (w0:=w) u j (fin w (Ext.refl _ _ _ _)) ops.size 0 (by omega) tm w φ y c (by rw[s2];exact H) (Ext.refl _ _ _ _) (by rw[s2,f];exact e)
 |true=>
  refine wp_region_any F ?_;have B:SR A pb env φ (Sq 0) tm {w with drawn:=w.drawn+1} lo:=⟨c.plain,c.box,c.apart,c.ET⟩;exact Xl (Q:=Tm A loc pb m base lo φ h w ds ⟨0,st.σ,st.h⟩) (ds:=ds) RO (z rfl) s r t v h0 (φ0:=φ) (w0:={w with drawn:=w.drawn+1}) u j y B (by rw[s2];exact H.Io rfl) (by rw[s2,f];exact e)
   (fin _ (Ext.others (aa _) (λ_ _=>rfl) rfl rfl rfl))
theorem Ly(b:ue call):∀{l:List Oper} {s st:St},jL kh call l s=some st->s.h.length<=st.h.length
 |[],s,st,hx=>by simp only[jL,aI]at hx;subst hx;exact aa _
 |o::r,s,st,hx=>by
  simp only[jL]at hx;cases h1:qt kh call o s with
  |none=>simp[h1]at hx
  |some s1=>
   simp only[h1]at hx;refine a7 ?_ (Ly b hx);have a:∀v h',(St.put s o.type o.dst v h').h=h':=by
    intro v h';cases g:o.dst with
    |none=>rfl
    |some d=>cases c:gQ o.type<;>simp[St.put,c]
   unfold qt at h1;split at h1
   ·simp at h1
   ·injection h1 with h1;subst h1;rw[a];exact aa _
   ·split at h1
    ·split at h1
     ·rename_i e;split at h1
      ·injection h1 with h1;subst h1;rw[a];exact b _ _ _ _ _ e
      ·simp at h1
     ·simp at h1
    ·split at h1
     ·rename_i f;split at h1
      ·injection h1 with h1;subst h1;rw[a];exact(Mk f).1
      ·simp at h1
     ·simp at h1
theorem JZ{body:(Nat->Value)->a9->Option Out}(a:∀σ h r,body σ h=some r->h.length<=r.h.length):∀(n:Nat) (σ:Nat->Value) (h:a9) (r:Out),u7 body n σ h=some r->h.length<=r.h.length
 |0,σ,h,r,hx=>by simp[u7]at hx
 |n+1,σ,h,r,hx=>by
  simp only[u7]at hx;cases h1:body σ h with
  |none=>simp[h1]at hx
  |some x=>
   simp only[h1]at hx;split at hx
   ·exact a7 (a _ _ _ h1) (JZ a n _ _ _ hx)
   ·injection hx with hx;subst hx;exact a _ _ _ h1
theorem MA(g:ue call){n:Nat}:∀(c:Code) (σ:Nat->Value) (h:a9) (r:Out),exec kh call n c σ h=some r->h.length<=r.h.length:=by
 intro c
 induction c with
 |skip=>intro σ h r hx;simp only[exec,aI]at hx;subst hx;exact aa _
 |region id ops draw=>
  intro σ h r hx;simp only[exec]at hx;split at hx
  ·rename_i st f;injection hx with hx;subst hx;exact Ly g f
  ·simp at hx
 |seq a b d e=>
  intro σ h r hx;simp only[exec]at hx
  grind
 |cond c a b d e=>
  intro σ h r hx;simp only[exec]at hx
  grind
 |block id c ih=>
  intro σ h r hx;simp only[exec]at hx
  grind
 |loop c ih=>intro σ h r hx;simp only[exec]at hx;exact JZ ih n _ _ _ hx
 |exit id=>intro σ h r hx;simp only[exec,aI]at hx;subst hx;exact aa _
 |ret=>intro σ h r hx;simp only[exec,aI]at hx;subst hx;exact aa _
 |_=>intro σ h r hx;simp[exec]at hx
theorem ar4{p:Nat->Prop}:∀k,p k->∃j,p j∧∀i,p i->j<=i:=by
 intro k
 induction k using Nat.strongRecOn with
 |_ k ih=>
  grind
open Classical in
theorem ake{P:Program}{c:Code}{Q:Exit->Act->World->Prop}(I:Nat->Act->World->Prop)(round:∀k a w,I k a w->c.wp P (Exit.then (λa' w'=>∃j,j<k∧I j a' w') Q) a w){k:Nat}{a:Act}{w:World}(h:I k a w):
  (Code.loop c).wp P Q a w:=by
 let f:Act->World->Nat:=λa w=>if h:∃j,I j a w∧∀i,I i a w->j<=i then Classical.choose h else 0
 have d:∀a w k,I k a w->I (f a w) a w∧f a w<=k:=by
  intro a w k b;have hex:=ar4 (p:=λk=>I k a w) k b
  grind
 refine wp_loop (λa w=>∃k,I k a w) f ⟨k,h⟩ λa w ⟨k,b⟩=>?_;obtain⟨h1,_⟩:=d a w k b;refine wp_mono (round _ a w h1) λe a' w' he=>?_
 grind
theorem ah3{n:Nat}(zh:A.P.follows .mixedOrders=true)(hE:kV A)(hC:zu A base call)(hL:ue call)(qK:∀a,pb.contains a=true->own loc a=false)(hb:base<=lo):
  ∀(c D:Code),sE A loc pb c=some D->uA m c=true->∀(σ:Nat->Value) (h:a9) (r:Out),exec kh call n D σ h=some r->∀(tm:Array Value) (ds:List Deferred) (w:World) (φ:dS),lo<=w.heap.size->tm.size=m->
   SR A pb [] φ (comb loc σ nothing) tm w lo->bG A φ h w base->(∀b,h.length<=b->b<r.h.length->φ b=none)->c.wp A.P (Tm A loc pb m base lo φ h w ds r) ⟨tm,ds⟩ w:=by
 intro c
 induction c with
 |skip=>
  intro D hn s σ h r hx tm ds w φ j u S H g;simp only[sE,aI]at hn;subst hn;simp only[exec,aI]at hx;subst hx;exact wp_skip ⟨rfl,rfl,u,φ,S,H,Ext.refl _ _ _ _⟩
 |exit id=>
  intro D hn s σ h r hx tm ds w φ j u S H g;simp only[sE,aI]at hn;subst hn;simp only[exec,aI]at hx;subst hx;exact wp_exit ⟨rfl,rfl,u,φ,S,H,Ext.refl _ _ _ _⟩
 |ret=>
  intro D hn s σ h r hx tm ds w φ j u S H g;simp only[sE,aI]at hn;subst hn;simp only[exec,aI]at hx;subst hx;exact wp_ret ⟨rfl,rfl,u,φ,S,H,Ext.refl _ _ _ _⟩
 |region id ops draw=>
  intro D hn s σ h r hx tm ds w φ j u S H g;simp only[sE,bF]at hn;obtain⟨l,hl,rfl⟩:=hn;simp only[exec]at hx;split at hx
  ·rename_i st ft;injection hx with hx;subst hx;refine ad0 zh hE hC hL qK hl (λk o d B ho=>?_) ft hb j u S H g;simp only[uA,bV]at s
   grind
  ·simp at hx
 |seq x y U V=>
  intro D hn s σ h r hx tm ds w φ j u S H g;simp only[sE]at hn;split at hn
  ·rename_i x' y' N Vn;injection hn with hn;subst hn;simp only[uA,aH]at s;simp only[exec]at hx;split at hx
   ·rename_i q T;have hlen:q.h.length<=r.h.length:=by
     split at hx
     ·exact MA hL _ _ _ _ hx
     ·grind
    refine wp_seq (wp_mono (U x' N s.1 σ h q T tm ds w φ j u S H λb h1 h2=>g b h1 (by omega)) λe a w' J=>?_);obtain⟨he,i,z,φ',I,G,C⟩:=J;split at hx
    ·rename_i h0;cases e with
     |normal=>
      obtain⟨L,K⟩:=a;simp only at i z;subst i;refine wp_mono (V y' Vn s.2 q.σ q.h r hx L K w' φ' (a7 j C.size) z I G λb h1 h2=>?_) λe a w'' J=>?_
      ·rw[C.same b (.inr h1)];exact g b (a7 C.len h1) h2
      ·obtain⟨he,i,z,W,S'',H'',X''⟩:=J;exact⟨he,i,z,W,S'',H'',C.trans j X''⟩
     |exit id=>simp only[ends]at he;omega
     |ret=>simp only[ends]at he;omega
     |goto l=>exact he.elim
     |panic ch=>exact he.elim
     |outgrown=>exact he.elim
    ·rename_i h0;injection hx with hx;subst hx;cases e with
     |normal=>exact absurd he h0
     |_=>exact⟨he,i,z,φ',I,G,C⟩
   ·simp at hx
  ·simp at hn
 |cond cnd x y U V=>
  intro D hn s σ h r hx tm ds w φ j u S H g;simp only[sE]at hn;split at hn
  ·rename_i Q x' y' M N Vn;injection hn with hn;subst hn;simp only[uA,aH]at s;simp only[exec]at hx;split at hx
   ·rename_i p hp;have hr:=tC (a:=⟨tm,ds⟩) S M;have hev:lW (comb loc σ nothing) Q=.bool p:=by
     cases Q with
     |tmp t=>
      have ho:own loc t=false:=by
       unfold cV at M;split at M
       ·grind
       ·simp at M
       ·simp at M
       ·simp at M
      simp only[lW,sL ho];exact hp
     |global t=>simp[ev,nothing]at hp
     |const v=>exact hp
     |func f=>simp[ev]at hp
    rw[hev]at hr;have kI:=VR.Al hr;refine wp_cond kI ?_
    grind
   ·simp at hx
  ·simp at hn
 |block id x ih=>
  intro D hn s σ h r hx tm ds w φ j u S H g;simp only[sE,bF]at hn;obtain⟨x',N,rfl⟩:=hn;simp only[exec]at hx;split at hx
  ·rename_i q T;have hqr:q.h=r.h∧q.σ=r.σ∧r.e=(if q.e=id+2 then 0 else q.e):=by
    grind
   obtain⟨q1,q2,Z⟩:=hqr;refine wp_block (wp_mono (ih x' N (by simpa [uA]using s) σ h q T tm ds w φ j u S H (by rw[q1];exact g)) λe a w' J=>?_);obtain⟨he,i,z,φ',I,G,C⟩:=J;rw[q1]at G C;rw[q2]at I;cases e with
   |exit id'=>
    simp only[ends]at he;simp only[Exit.inBlock];split
    ·rename_i R;subst R;exact⟨by simp only[ends];rw[Z,if_pos he],i,z,φ',I,G,C⟩
    ·rename_i R;exact⟨by simp only[ends];rw[Z,if_neg (by omega)];exact he,i,z,φ',I,G,C⟩
   |normal=>simp only[ends]at he;exact⟨by simp only[ends];rw[Z,if_neg (by omega)];exact he,i,z,φ',I,G,C⟩
   |ret=>simp only[ends]at he;exact⟨by simp only[ends];rw[Z,if_neg (by omega)];exact he,i,z,φ',I,G,C⟩
   |_=>exact he.elim
  ·simp at hx
 |loop x ih=>
  intro D hn s σ h r hx tm ds w φ j u S H g;simp only[sE,bF]at hn;obtain⟨x',N,rfl⟩:=hn;simp only[exec]at hx;refine ake (λk a w1=>a.defers=ds∧a.tmps.size=m∧∃F h1 E,u7 (exec kh call n x') k F h1=some r∧SR A pb [] E (comb loc F nothing) a.tmps w1 lo∧bG A E h1 w1 base∧Ext lo φ h w E h1 w1) ?_
   (k:=n) (a:=⟨tm,ds⟩) ⟨rfl,u,σ,h,φ,hx,S,H,Ext.refl _ _ _ _⟩
  rintro k a w1⟨i,z,F,h1,E,B,S1,H1,Y⟩;obtain⟨L,K⟩:=a;simp only at i z S1;subst i;cases k with
  |zero=>simp[u7]at B
  |succ k=>
   simp only[u7]at B;split at B
   ·rename_i q T;have hlen:q.h.length<=r.h.length:=by
     split at B
     ·exact JZ (λσ h r hh=>MA hL _ _ _ _ hh) k _ _ _ B
     ·grind
    refine wp_mono (ih x' N (by simpa [uA]using s) F h1 q T L K w1 E (a7 j Y.size) z S1 H1 λb g1 g2=>?_) λe a w2 J=>?_
    ·rw[Y.same b (.inr g1)];exact g b (a7 Y.len g1) (by omega)
    ·obtain⟨he,i,IP,X,S2,H2,X2⟩:=J;have O:=Y.trans j X2;split at B
     ·rename_i h0;cases e with
      |normal=>exact⟨k,by omega,i,IP,q.σ,q.h,X,B,S2,H2,O⟩
      |exit id=>simp only[ends]at he;omega
      |ret=>simp only[ends]at he;omega
      |goto l=>exact he.elim
      |panic ch=>exact he.elim
      |outgrown=>exact he.elim
     ·rename_i h0;injection B with B;subst B;cases e with
      |normal=>exact absurd he h0
      |_=>exact⟨he,i,IP,X,S2,H2,O⟩
   ·simp at B
 |_=>intro D hn;simp[sE]at hn
end
end Am
namespace Am
open Go
section
variable {A : iG} {loc pb : List Nat} {base lo : Nat}
theorem VR.ve{φ:dS}{x u:Value}(a:ve x=true)(h:VR A φ x u):GB A φ x u:=by cases x<;>first|exact h|simp[Am.ve,scalar]at a
theorem ad2{φ:dS}{σ:Nat->Value}{h:a9}{tm:Array Value}{w:World}{k:ResultVar}{p:Nat×Nat}{v:Value}(S:SR A pb [] φ (comb loc σ nothing) tm w lo)(H:bG A φ h w base)(G:∀a,pb.contains a=true->own loc a=false)
  (hn:yp A loc pb [k]=some [p]) (b:cO σ h p=some v):
  ∃u,((match k with|.tmp t=>pure (tm.getD t undef)|.cell a t=>do loadVar t (<-asAddr (tm.getD a undef))):Sem Value).run A.P w=.ok u w∧VR A φ v u:=by
 cases k with
 |tmp t=>
  simp only[yp]at hn;split at hn
  ·simp at hn
  ·rename_i f;simp only[dq,not_or,o6]at f;simp at hn;subst hn;simp only[cO,if_true,aI]at b;subst b;have:=S.plain t f.2 rfl;rw[sL f.1]at this
   simp_all
 |cell a t=>
  simp only[yp]at hn;split at hn
  ·simp at hn
  ·rename_i c;have c:own loc a=false:=by simpa using c
   split at hn
   ·rename_i n o;split at hn
    ·rename_i D;simp only[yp,dC,aI,ru,and_true]at hn;subst hn;unfold cO at b;by_cases hp:pb.contains a=true
     ·simp only[hp,if_true]at b;rw[if_neg (by omega),if_pos (by omega)]at b;have y:1000000+(if qy A t=true then n+1 else 0)-1000000=(if qy A t=true then n+1 else 0):=by omega
      rw[y]at b;have x:comb loc σ nothing a≠fI:=by rw[sL c];intro e;rw[e]at b;simp[bD]at b
      obtain⟨cs,g,cur,ty,b1,b2,b3,r,s,E⟩:=S.box a hp x;rw[sL c]at b1;rw[b1]at b;obtain⟨u,d,hu⟩:=RK o r s b;exact⟨u,by simp[b2,asAddr,d],hu⟩
     ·have q:pb.contains a=false:=by simpa using hp
      simp only[q,ax,if_false]at b;have F:(if qy A t=true then n+1 else 0)<1001:=by split<;>omega
      rw[if_neg (by omega),if_neg (by omega)]at b;have j:=S.plain a q rfl;rw[sL c]at j;split at b
      ·rename_i m i;rw[i]at j;obtain⟨C,l,hl,hu⟩:=VR.uR j;have z:su (if qy A t then n+1 else 0) h (pt m.block m.off)=some v:=by
        unfold su
        grind
       obtain⟨u,d,B⟩:=LQ H o hl z;exact⟨u,by simp[hu,asAddr,d],B⟩
      ·simp at b
    ·simp at hn
   ·simp at hn
def We(tm:Array Value):ResultVar->Sem Value
 |.tmp t=>pure (tm.getD t undef)
 |.cell a t=>do loadVar t (<-asAddr (tm.getD a undef))
theorem Ps{φ:dS}{σ:Nat->Value}{h:a9}{tm:Array Value}{w:World}(S:SR A pb [] φ (comb loc σ nothing) tm w lo)(H:bG A φ h w base)(j:∀a,pb.contains a=true->own loc a=false):
  ∀{d:List ResultVar} {ps:List (Nat×Nat)} {vs:List Value},yp A loc pb d=some ps->cJ σ h ps=some vs->∃us,(d.mapM (We tm)).run A.P w=.ok us w∧cM (VR A φ) vs us
 |[],ps,vs,hn,b=>by
  simp[yp]at hn;subst hn;simp[cJ]at b;subst b;exact⟨[],by simp,trivial⟩
 |e::r,ps,vs,hn,b=>by
  have key:∃p c,ps=p::c∧yp A loc pb [e]=some [p]∧yp A loc pb r=some c:=by
   cases e with
   |tmp t=>
    simp only[yp]at hn;split at hn
    ·simp at hn
    ·rename_i g;simp only[bF]at hn;obtain⟨c,h1,rfl⟩:=hn;exact⟨_,c,rfl,by simp only[yp];rw[if_neg g];rfl,h1⟩
   |cell a t=>
    simp only[yp]at hn;split at hn
    ·simp at hn
    ·rename_i g;split at hn
     ·rename_i n q;split at hn
      ·rename_i m;simp only[bF]at hn;obtain⟨c,h1,rfl⟩:=hn;exact⟨_,c,rfl,by simp only[yp];rw[if_neg g];simp only[q];rw[if_pos m];rfl,h1⟩
      ·simp at hn
     ·simp at hn
  obtain⟨p,c,rfl,h1,o⟩:=key;simp only[cJ]at b;split at b
  ·rename_i v x s k;injection b with b;subst b;obtain⟨u,hu,i⟩:=ad2 S H j h1 s;obtain⟨us,l,f⟩:=Ps S H j o k;refine⟨u::us,?_,i,f⟩;have y:(We tm e).run A.P w=.ok u w:=by cases e<;>exact hu
   simp[List.mapM_cons,y,l]
  ·simp at b
theorem Xn{φ:dS}{σ:Nat->Value}{h:a9}{tm:Array Value}{w:World}{F:Func}{ps:List (Nat×Nat)}{v:Value}(S:SR A pb [] φ (comb loc σ nothing) tm w lo)(H:bG A φ h w base)(o:∀a,pb.contains a=true->own loc a=false)
  (hn:yp A loc pb F.results.toList=some ps) (d:cY σ h ps=some v):∃u,(results F tm).run A.P w=.ok u w∧VR A φ v u:=by
 unfold cY at d;have key:∀vs,cJ σ h ps=some vs->∃us,(results F tm).run A.P w=.ok (if h:us.toArray.size=1 then us.toArray[0]else .tuple us.toArray) w∧cM (VR A φ) vs us:=by
  intro vs g;obtain⟨us,h1,f⟩:=Ps S H o hn g;refine⟨us,?_,f⟩;have e:results F tm=(F.results.mapM (We tm) >>= λvs=>pure (if h:vs.size=1 then vs[0]else .tuple vs)):=by
   unfold results
   congr 1
  rw[e,Array.mapM_eq_mapM_toList]
  simp_all
 split at d
 ·rename_i q g;injection d with d;subst d;obtain⟨us,h1,f⟩:=key _ g;obtain⟨u,rfl,hu⟩:=VO f
  grind
 ·rename_i vs p g;split at d
  ·rename_i n;injection d with d;subst d;obtain⟨us,h1,f⟩:=key _ g;have hl:=f.length;have l:us.toArray.size≠1:=by
    intro e;have:vs.length=1:=by rw[hl];simpa using e
    obtain⟨x,hx⟩:=List.length_eq_one_iff.1 this
    grind
   refine⟨.tuple us.toArray,?_,us.toArray,rfl,?_⟩
   ·rw[h1,dif_neg l]
   ·refine cM.Bv (by simpa using hl) λi a b k j=>?_;obtain⟨c,m,d⟩:=f.get i a k;rw[show us.toArray.toList=us from rfl,m]at j;injection j with j;subst j
    exact VR.ve (bV.1 n a (fP k)) d
  ·simp at d
 ·simp at d
end
def GA(A:iG)(base:Nat)(g:Nat)(F:mC):Prop:=∃p,vM F.code=some p∧(∀args h v h',p args h=some (v,h')->h.length<=h'.length)∧∀(args:List Value) (h:a9) (v:Value) (h':a9) (φ:dS) (w:World) (us:List Value),args.length=F.ar->p args h=some (v,h')->
 bG A φ h w base->base<=w.heap.size->(∀b,h.length<=b->b<h'.length->φ b=none)->cM (VR A φ) args us->
 (callFunc g us.toArray).run A.P w=.ok (.enter g us.toArray) w∧
  Calls A.P g us.toArray w λe w'=>∃u φ',e=.returned u∧VR A φ' v u∧bG A φ' h' w' base∧Ext w.heap.size φ h w φ' h' w'
theorem G9{z:Nat}{args:List Value}{h h':a9}{v:Value}(x:sG z args h=some (v,h')):h.length<=h'.length:=by
 unfold sG at x;split at x
 ·split at x
  ·split at x
   ·cases x
   ·split at x
    ·grind
    ·split at x
     ·grind
     ·cases x
  ·cases x
 ·cases x
theorem G8{z:Nat}{args:List Value}{h h':a9}{v:Value}(x:wM z args h=some (v,h')):h.length<=h'.length:=by
 unfold wM at x;split at x
 ·split at x
  ·cases x
  ·split at x
   ·grind
   ·cases x
 ·cases x
theorem adW{c:Code}{p:List Value->a9->Option (Value×a9)}(hp:vM c=some p){args:List Value}{h h':a9}{v:Value}(x:p args h=some (v,h')):h.length<=h'.length:=by
 unfold vM at hp;split at hp
 ·split at hp
  ·injection hp with hp;subst hp;exact G9 x
  ·injection hp with hp;subst hp;exact G8 x
 ·cases hp
theorem SG{A:iG}{loc pb:List Nat}{c a:Code}(h:sE A loc pb c=some a):vM a=none:=by
 cases hp:vM a with
 |none=>rfl
 |some p=>
  exfalso;unfold vM at hp;split at hp
  ·rename_i k;cases c<;>simp only[sE]at h<;>(try cases h)
   all_goals (first|(simp only[bF]at h;obtain⟨_,_,h⟩:=h;cases h)|(split at h<;>cases h))
  ·cases hp
theorem VF{A:iG}{loc pb:List Nat}{fn:Func}{F:mC}(h:MP A loc pb fn=some F):vM F.code=none:=by
 unfold MP at h;split at h
 ·split at h
  ·rename_i a _;split at h
   ·injection h with h;subst h;exact SG a
   ·simp at h
  ·simp at h
 ·simp at h
def I2(A:iG)(base:Nat)(Γ:Nat->Option mC):Prop:=∀f F g,Γ f=some F->FM A g=some f->(∃fn loc pb,A.P.funcs[g]?=some fn∧MP A loc pb fn=some F)∨GA A base g F
section
variable {A : iG} {base : Nat} {Γ : Nat -> Option mC}
theorem QS:∀n,ue (nC kh Γ n)
 |0=>λf a h v h' hx=>by simp[nC]at hx
 |n+1=>λf a h v h' hx=>by
  simp only[nC]at hx;split at hx
  ·simp at hx
  ·split at hx
   ·rename_i b;split at hx
    ·exact adW b hx
    ·simp at hx
   ·split at hx
    ·split at hx
     ·rename_i r c;split at hx
      ·simp only[bF]at hx;obtain⟨u,_,hx⟩:=hx;injection hx with _ hx;subst hx;exact MA (QS n) _ _ _ _ c
      ·simp at hx
     ·simp at hx
    ·simp at hx
theorem am0{n:Nat}{call:oh}{loc pb:List Nat}{fn:Func}{F:mC}{g:Nat}{args:List Value}{h:a9}{r:Out}{v:Value}{φ:dS}{w:World}{us:List Value}(zh:A.P.follows .mixedOrders=true)(hE:kV A)(hC:zu A base call)(hL:ue call)
  (hf:A.P.funcs[g]?=some fn) (hn:MP A loc pb fn=some F) (hlen:args.length=F.ar) (hx:exec kh call n F.code (init args) h=some r) (he:r.e<=1) (hv:cY r.σ r.h F.res=some v)
  (H:bG A φ h w base) (hb:base<=w.heap.size) (hφ:∀b,h.length<=b->b<r.h.length->φ b=none) (qm:cM (VR A φ) args us):
  (callFunc g us.toArray).run A.P w=.ok (.enter g us.toArray) w∧Calls A.P g us.toArray w λe w'=>∃u φ',e=.returned u∧VR A φ' v u∧bG A φ' r.h w' base∧Ext w.heap.size φ h w φ' r.h w':=by
 unfold MP at hn;split at hn
 ·rename_i c adr;split at hn
  ·rename_i c' ps hc BW;split at hn
   ·rename_i aqM;injection hn with hn;subst hn;simp only[aH,bV,bne_iff_ne,ne_eq,adr,dC,lu]at aqM;obtain⟨⟨⟨sk,Rs⟩,JF⟩,hk4⟩:=aqM;have qK:∀a,pb.contains a=true->own loc a=false:=λa ha=>by
     have:=Rs a (by simpa using ha);simpa using this
    have hal:=qm.length;constructor
    ·have hnr:(fn.name== "runtime.NumGoroutine")=false:=by simpa using JF
     simp[callFunc,hf,show fn.name≠ "runtime.NumGoroutine" from JF,adr]
    ·refine calls_of_wp hf adr ?_;have fc:(us.toArray++Array.replicate (fn.ntmps-us.toArray.size) undef).size=(us.toArray++Array.replicate (fn.ntmps-us.toArray.size) undef).size:=rfl;have hm:fn.ntmps<=(us.toArray++Array.replicate (fn.ntmps-us.toArray.size) undef).size:=by simp;omega
     have JA:∀(m:Nat) (c:Code),fn.ntmps<=m->uA fn.ntmps c=true->uA m c=true:=by
      intro m c hm
      induction c with
      |region id ops draw=>
       intro hd;simp only[uA,bV]at hd ⊢
       grind
      |seq a b Vq Vs=>intro hd;simp only[uA,aH]at hd ⊢;exact⟨Vq hd.1,Vs hd.2⟩
      |cond x a b Vq Vs=>intro hd;simp only[uA,aH]at hd ⊢;exact⟨Vq hd.1,Vs hd.2⟩
      |block id c ih=>intro hd;simp only[uA]at hd ⊢;exact ih hd
      |loop c ih=>intro hd;simp only[uA]at hd ⊢;exact ih hd
      |_=>intro _;rfl
     have Ap:∀i,i<args.length->own loc i=false∧pb.contains i=false:=by
      grind
     have S0:SR A pb [] φ (comb loc (init args) nothing) (us.toArray++Array.replicate (fn.ntmps-us.toArray.size) undef) w w.heap.size:=by
      have hpz:∀i,args.length<=i->comb loc (init args) nothing i=fI:=by
       intro i hi;cases ho:own loc i with
       |true=>exact AY ho
       |false=>
        rw[sL ho];simp[init,dX hi]
      refine⟨λt h1 _=>?_,λa ha hp=>?_,λa a' g ha _ hp=>?_,λd a hd=>by simp[iq]at hd⟩
      ·by_cases ht:t<args.length
       ·rw[sL (Ap t ht).1];have hx:=ah ht;obtain⟨u,hu,hr⟩:=qm.get t _ hx;have hi:init args t=args[t]:=by simp[init,hx]
        have ht':t<us.length:=by omega
        have zO:(us.toArray++Array.replicate (fn.ntmps-us.toArray.size) undef).getD t undef=u:=by rw[cg,iV (by simpa using ht')];simp[hu]
        rw[hi,zO];exact hr
       ·rw[hpz t (by omega)];exact VR.fI
      ·grind
      ·grind
     have aEM:=ah3 (lo:=w.heap.size) (m:=(us.toArray++Array.replicate (fn.ntmps-us.toArray.size) undef).size) zh hE hC hL qK hb c c' hc (JA _ c hm hk4) (init args) h r hx _ [] w φ (aa _) rfl S0 H hφ;refine wp_mono aEM λe a w' D2=>?_;obtain⟨JC,zH,_,φ',S',H',X'⟩:=D2;obtain⟨u,hu,hur⟩:=Xn S' H' qK BW hv;cases e with
     |normal=>exact⟨zH,u,hu,u,φ',rfl,hur,H',X'⟩
     |ret=>exact⟨zH,u,hu,u,φ',rfl,hur,H',X'⟩
     |exit id=>simp only[ends]at JC;omega
     |_=>exact JC.elim
   ·simp at hn
  ·simp at hn
 ·simp at hn
theorem Ua(t:A.P.follows .mixedOrders=true)(k:kV A)(i:I2 A base Γ):∀n,zu A base (nC kh Γ n)
 |0=>λf args h v h' g φ w us hx=>by simp[nC]at hx
 |n+1=>λf args h v h' g φ w us hx o H m e s=>by
  simp only[nC]at hx;split at hx
  ·simp at hx
  ·rename_i F l;split at hx
   ·rename_i p c;split at hx
    ·rename_i hlen;rcases i f F g l o with⟨fn,loc,pb,d,a⟩|⟨q,b,_,j⟩
     ·rw[VF a]at c;cases c
     ·rw[c]at b;injection b with b;subst b
      exact j args h v h' φ w us hlen hx H m e s
    ·simp at hx
   ·rename_i c;split at hx
    ·rename_i hlen;split at hx
     ·rename_i r z;split at hx
      ·rename_i he;simp only[bF]at hx;obtain⟨u,hu,hx⟩:=hx;injection hx with x y;subst x;subst y;rcases i f F g l o with⟨fn,loc,pb,d,a⟩|⟨q,b,_⟩
       ·exact am0 t k (Ua t k i n) (QS n) d a hlen z he hu H m e s
       ·rw[c]at b;cases b
      ·simp at hx
     ·simp at hx
    ·simp at hx
theorem aeh{f g:Nat}{args us:List Value}{h:a9}{R:Value->a9->Prop}{φ:dS}{w:World}(m:A.P.follows .mixedOrders=true)(d:kV A)(c:I2 A base Γ)(k:FM A g=some f)(x:aN Γ f args h R)(H:bG A φ h w base)(i:base<=w.heap.size)
  (a:∀b,h.length<=b->φ b=none) (l:cM (VR A φ) args us):
  Calls A.P g us.toArray w λe w'=>∃u φ' v h',R v h'∧e=.returned u∧VR A φ' v u∧bG A φ' h' w' base∧Ext w.heap.size φ h w φ' h' w':=by
 obtain⟨n,v,h',j,hR⟩:=x;refine Calls.mono (Ua m d c n f args h v h' g φ w us j k H i (λb h1 _=>a b h1) l).2 ?_
 grind
end
end Am

/- One operation that is no call: what 'Am' says of it holds of the model's. -/
import Derived.Test.YtpgioncclmancaaGreatPOps
set_option linter.unusedVariables false
set_option linter.unusedSimpArgs false
namespace Am
open Go
section
variable {A : iG} {φ : dS} {h : a9} {w : World} {base : Nat} {loc pb : List Nat} {env : List (Nat × Nat)}
theorem bG.others{w':World}(H:bG A φ h w base)(e:w.heap.size<=w'.heap.size)(hold:∀b l,φ b=some l->w'.heap[l.g]?=w.heap[l.g]?):bG A φ h w' base where
 pos:=H.pos
 low:=λb l a=>bQ (H.low b l a) e
 cells:=λb l k a c i v f=>by
  obtain⟨u,hu,d⟩:=H.cells b l k a c i v f;exact⟨u,by rw[pK (w:=w) (w':=w') (hold b l a)];exact hu,d⟩
 row:=λb l k a c d=>by rw[hold b l a];exact H.row b l k a c d
 one:=H.one
 old:=H.old
theorem Ext.others{lo:Nat}{w':World}(c:w.heap.size<=w'.heap.size)(hold:∀g,g<lo->w'.heap[g]?=w.heap[g]?)(f:w'.os=w.os)(i:w'.tape=w.tape)(hp:w'.output=w.output):
  Ext lo φ h w φ h w' where
 sub:=Sub.refl φ
 DF:=λb h1 a=>by omega
 same:=λ_ _=>rfl
 len:=aa _
 mode:=λb k k' h1 a d=>by rw[h1]at a;injection a with a;subst a;exact d
 size:=c
 os:=f
 tape:=i
 output:=hp
 frame:=λg e _=>hold g e
 fresh:=λb l h1 a=>by omega
theorem HC(k:Obj)(H:bG A φ h w base):bG A φ h (w.alloc k) base∧Ext w.heap.size φ h w φ h (w.alloc k):=
 ⟨H.others (by simp) λb l a=>heap_alloc_old w _ _ (H.low b l a),Ext.others (by simp) (λg c=>heap_alloc_old w _ g c) rfl rfl rfl⟩
def rh(A:iG)(φ:dS)(h:a9)(w:World)(base:Nat)(v:Value)(h':a9)(s:Sem Next):Prop:=
 ∃r w' a,s.run A.P w=.ok r w'∧((∃u,r=.value u∧VR A a v u)∨(r=.skip∧v=fI))∧bG A a h' w' base∧Ext w.heap.size φ h w a h' w'
theorem gy.value{v:Value}{h':a9}{s:Sem Value}(x:gy A φ h w base v h' s):rh A φ h w base v h' (s >>= λu=>Pure.pure (Next.value u)):=by obtain⟨u,w',a,d,e,c,b⟩:=x;exact⟨Next.value u,w',a,by simp[d],.inl ⟨u,rfl,e⟩,c,b⟩
section lists
variable {ρa ρm : Operand -> Value} (hρ : ∀ x y, cV A loc pb env x = some y -> VR A φ (ρa y) (ρm x))
include hρ
theorem w7:∀{l m:List Operand},uF A loc pb env l=some m->cM (VR A φ) (m.map ρa) (l.map ρm)
 |[],m,hn=>by simp[uF]at hn;subst hn;exact trivial
 |x::r,m,hn=>by
  unfold uF at hn;split at hn
  ·rename_i y b h1 a;injection hn with hn;subst hn;exact⟨hρ _ _ h1,w7 a⟩
  ·simp at hn
theorem MQ{x:Option Operand}{y:Option Operand}(hn:Ql A loc pb env x=some y):B2 A φ (y.map ρa) (x.map ρm):=by
 cases x with
 |none=>simp[Ql]at hn;subst hn;exact trivial
 |some x=>
  simp only[Ql]at hn;cases hx:cV A loc pb env x with
  |none=>simp[hx]at hn
  |some z=>simp[hx]at hn;subst hn;exact hρ _ _ hx
theorem D7{f:Nat->Option Nat}:∀{l m:List (Nat×Operand)},E6 A loc pb env f l=some m->
  cM (λp q=>f q.1=some p.1∧VR A φ p.2 q.2) (m.map λp=>(p.1,ρa p.2)) (l.map λp=>(p.1,ρm p.2))
 |[],m,hn=>by simp[E6]at hn;subst hn;exact trivial
 |(i,x)::r,m,hn=>by
  unfold E6 at hn;split at hn
  ·rename_i n y c h1 a b;injection hn with hn;subst hn;exact⟨⟨h1,hρ _ _ a⟩,D7 b⟩
  ·simp at hn
end lists
theorem Yr{d:Option TypeDesc}(a:adD d=true):d=some (.int .u8):=by
 unfold adD at a
 grind
theorem ji{o:Option Value}{v:Value}{h':a9}(a:iu o h=some (v,h')):o=some v∧h=h':=by
 unfold iu at a;cases o with
 |none=>simp at a
 |some x=>simp at a;exact⟨by rw[a.1],a.2⟩
theorem ag3{c:Nat}{x:Value}{lo hi d:Option Value}{r:Value×a9}(e:1000000<=c)(b:gS c h x lo hi d=some r):∃a,x=.pointer (some a):=by
 unfold gS at b
 grind
theorem SF{c:Nat}{x i:Value}{r:Value}(d:1000000<=c)(b:oF c x i=some r):∃a,x=.pointer (some a):=by
 unfold oF at b
 grind
theorem Tu{n:Nat}{x:Value}{r:Value×a9}(a:Ai n x h=some r):h.length<r.2.length:=by
 unfold Ai at a
 grind
theorem aep{z:Nat}{x y e:Value}{r:Value×a9}(a:nR z h x y e=some r):h.length<r.2.length:=by
 unfold nR at a
 grind
theorem Nx{z n:Nat}{ps:List (Nat×Value)}{r:Value×a9}(a:aW z n h ps=some r):h.length<r.2.length:=by
 unfold aW at a;split at a
 ·split at a
  ·simp only[bF]at a
   grind
  ·simp at a
 ·simp at a
theorem WO{x:Value}{r:Value×a9}(a:kr 20 x h=some r):h.length<r.2.length:=by
 unfold kr at a
 grind
section ops
variable {ρa ρm : Operand -> Value} {v : Value} {h' : a9} {dst : Option Tmp} {ty : TypeId} {pos : String} {after : Array Edge} {guard : Option (Nat × Bool)}
abbrev mk(dst:Option Tmp)(o:Op)(ty:TypeId)(pos:String)(after:Array Edge)(guard:Option (Nat×Bool)):Oper:={dst:=dst,op:=o,type:=ty,pos:=pos,after:=after,guard:=guard}
theorem adT(c:kV A)(H:bG A φ h w base)(d:base<=w.heap.size)(b:h.length<h'.length->φ h.length=none)(g:∀v,ρa (.const v)=v)(e:∀f,ρa (.func f)=.func (.func f) #[] #[])
  (hρ:∀x y,cV A loc pb env x=some y->VR A φ (ρa y) (ρm x)) {p:Op} {x:Operand} (hn:kJ A loc pb env (.move x)=some p)
  (a:dA ρa h p=some (v,h')):rh A φ h w base v h' (execOp ρm (mk dst (.move x) ty pos after guard)):=by
 simp only[kJ]at hn;cases hx:cV A loc pb env x with
 |none=>simp[hx]at hn
 |some y=>
  simp[hx]at hn;subst hn;simp only[dA,aI,cF]at a;obtain⟨rfl,rfl⟩:=a;exact⟨Next.value (ρm x),w,φ,by simp[execOp],.inl ⟨_,rfl,hρ _ _ hx⟩,H,Ext.refl _ _ _ _⟩
theorem V3(c:kV A)(H:bG A φ h w base)(d:base<=w.heap.size)(b:h.length<h'.length->φ h.length=none)(g:∀v,ρa (.const v)=v)(e:∀f,ρa (.func f)=.func (.func f) #[] #[])
  (hρ:∀x y,cV A loc pb env x=some y->VR A φ (ρa y) (ρm x)) {p:Op} {x:Operand} (hn:kJ A loc pb env (.assign x)=some p)
  (a:dA ρa h p=some (v,h')):rh A φ h w base v h' (execOp ρm (mk dst (.assign x) ty pos after guard)):=by
 simp only[kJ]at hn;cases hx:cV A loc pb env x with
 |none=>simp[hx]at hn
 |some y=>
  simp[hx]at hn;subst hn;simp only[dA,aI,cF]at a;obtain⟨rfl,rfl⟩:=a;exact⟨Next.value (ρm x),w,φ,by simp[execOp],.inl ⟨_,rfl,hρ _ _ hx⟩,H,Ext.refl _ _ _ _⟩
theorem adU(o:kV A)(H:bG A φ h w base)(q:base<=w.heap.size)(j:h.length<h'.length->φ h.length=none)(s:∀v,ρa (.const v)=v)(r:∀f,ρa (.func f)=.func (.func f) #[] #[])
  (hρ:∀x y,cV A loc pb env x=some y->VR A φ (ρa y) (ρm x)) {p:Op} {c a b:Operand} (hn:kJ A loc pb env (.pick c a b)=some p)
  (g:dA ρa h p=some (v,h')):rh A φ h w base v h' (execOp ρm (mk dst (.pick c a b) ty pos after guard)):=by
 simp only[kJ]at hn;split at hn
 ·rename_i l a' b' h1 m n;injection hn with hn;subst hn;simp only[dA]at g;obtain⟨d,he⟩:=ji g;subst he;unfold Pd at d;split at d
  ·rename_i t k;have i:=hρ _ _ h1;rw[k]at i;have e:=VR.Al i;injection d with d;subst d;refine⟨Next.value (if t then ρm a else ρm b),w,φ,by simp[execOp,e,asBool],.inl ⟨_,rfl,?_⟩,H,Ext.refl _ _ _ _⟩
   grind
  ·simp at d
 ·simp at hn
theorem Xd(i:kV A)(H:bG A φ h w base)(d:base<=w.heap.size)(b:h.length<h'.length->φ h.length=none)(g:∀v,ρa (.const v)=v)(j:∀f,ρa (.func f)=.func (.func f) #[] #[])
  (hρ:∀x y,cV A loc pb env x=some y->VR A φ (ρa y) (ρm x)) {p:Op} {e:TypeId} (hn:kJ A loc pb env (.alloc e)=some p)
  (a:dA ρa h p=some (v,h')):rh A φ h w base v h' (execOp ρm (mk dst (.alloc e) ty pos after guard)):=by
 simp only[kJ]at hn;split at hn
 ·rename_i n z h1 c;injection hn with hn;subst hn;simp only[dA,g]at a;exact(ajL H d (b (Tu a)) c a).value
 ·simp at hn
theorem agx(g:kV A)(H:bG A φ h w base)(d:base<=w.heap.size)(b:h.length<h'.length->φ h.length=none)(j:∀v,ρa (.const v)=v)(i:∀f,ρa (.func f)=.func (.func f) #[] #[])
  (hρ:∀x y,cV A loc pb env x=some y->VR A φ (ρa y) (ρm x)) {p:Op} {e:TypeId} {x:Operand} (hn:kJ A loc pb env (.box e x)=some p)
  (a:dA ρa h p=some (v,h')):rh A φ h w base v h' (execOp ρm (mk dst (.box e x) ty pos after guard)):=by
 simp only[kJ]at hn;split at hn
 ·rename_i n y h1 c;injection hn with hn;subst hn;simp only[dA]at a;exact(ash H d (b (Tu a)) (hρ _ _ c) a).value
 ·simp at hn
theorem Xf(G:kV A)(H:bG A φ h w base)(I:base<=w.heap.size)(D:h.length<h'.length->φ h.length=none)(r:∀v,ρa (.const v)=v)(J:∀f,ρa (.func f)=.func (.func f) #[] #[])
  (hρ:∀x y,cV A loc pb env x=some y->VR A φ (ρa y) (ρm x)) {p:Op} {t:TypeId} {ps:Array (Nat×Operand)} (hn:kJ A loc pb env (.build t ps)=some p)
  (c:dA ρa h p=some (v,h')):rh A φ h w base v h' (execOp ρm (mk dst (.build t ps) ty pos after guard)):=by
 simp only[kJ]at hn;have o:(ps.map λ(i,x)=>(i,ρm x))=((ps.toList.map λp=>(p.1,ρm p.2))).toArray:=by apply iU;simp
 split at hn
 ·rename_i F z h1 g;split at hn
  ·rename_i l j;split at hn
   ·rename_i u;injection hn with hn;subst hn;simp only[dA]at c;obtain⟨b,he⟩:=ji c;subst he;simp only[bX,r]at b;have d:=D7 hρ j;have:=O7 H h1 g u (d.mono λp q a=>by
     obtain⟨hp,m⟩:=a;refine⟨?_,m⟩;split at hp
     ·rename_i f E;cases C:fj A f.type with
      |none=>simp[C]at hp
      |some n=>
       grind
     ·simp at hp) b
    simpa [execOp,o]using this.value
   ·simp at hn
  ·simp at hn
 ·rename_i k e z h1 g;split at hn
  ·rename_i n B;split at hn
   ·rename_i l j;split at hn
    ·rename_i s;injection hn with hn;subst hn;simp only[dA]at c;obtain⟨b,he⟩:=ji c;subst he;simp only[bX,r]at b;have d:=D7 hρ j;have:=Qp H h1 g B s (d.mono λp q a=>by
      obtain⟨hp,m⟩:=a;injection hp with hp;exact⟨hp.symm,m⟩) b
     simpa [execOp,o]using this.value
    ·simp at hn
   ·simp at hn
  ·simp at hn
 ·simp at hn
theorem MY(Q:kV A)(H:bG A φ h w base)(K:base<=w.heap.size)(s:h.length<h'.length->φ h.length=none)(F:∀v,ρa (.const v)=v)(R:∀f,ρa (.func f)=.func (.func f) #[] #[])
  (hρ:∀x y,cV A loc pb env x=some y->VR A φ (ρa y) (ρm x)) {p:Op} {t:TypeId} {n:Nat} {ps:Array (Nat×Operand)} (hn:kJ A loc pb env (.buildSlice t n ps)=some p)
  (a:dA ρa h p=some (v,h')):rh A φ h w base v h' (execOp ρm (mk dst (.buildSlice t n ps) ty pos after guard)):=by
 simp only[kJ]at hn;have C:(ps.map λ(i,x)=>(i,ρm x))=((ps.toList.map λp=>(p.1,ρm p.2))).toArray:=by apply iU;simp
 split at hn
 ·rename_i e h1;split at hn
  ·rename_i z c j E;split at hn
   ·rename_i l I;have B:=D7 hρ I;split at hn
    ·rename_i d;split at hn
     ·rename_i hl;injection hn with hn;subst hn;subst d;simp only[dA,aI,cF,F]at a;obtain⟨rfl,rfl⟩:=a;have g:z≠0:=by simp at hl;exact hl.2
      have G:l=[]:=by simp at hl;exact hl.1
      subst G;have L:ps.toList.map (λp=>(p.1,ρm p.2))=[]:=dI (by rw[<-B.length];rfl);obtain⟨i,u,hi,N,O⟩:=qG (φ:=φ) E;have D:=uJ j;obtain⟨S,iY,D⟩:=D;rw[hi]at iY;injection iY with iY;subst iY
      obtain⟨J,k⟩:=HC (.cells #[] e) H;refine⟨Next.value (.slice (some ⟨w.heap.size,0,none⟩) 0 0),w.alloc (.cells #[] e),φ,?_,.inl ⟨_,rfl,⟨rfl,_,0,rfl,aa _,λ_=>rfl,λh0=>absurd rfl h0,⟨λe=>(by cases e),λe=>absurd e.2 g⟩⟩⟩,J,k⟩;have m:(Instr.buildSlice t 0 #[]).run A.P w=.ok (.slice (some ⟨w.heap.size,0,none⟩) 0 0) (w.alloc (.cells #[] e)):=by simp only[Instr.buildSlice,Sem.run_bind,run_underlying h1,Result.andThen_ok,run_sizeOf j];have r:Array.range 0=#[]:=rfl;simp[Instr.fill,newRow,r]
      simp[execOp,C,L,m]
     ·simp at hn
    ·rename_i d;split at hn
     ·rename_i b;injection hn with hn;subst hn;simp only[dA,bX,F]at a;have:=SH H K (s (Nx a)) h1 j E b.1 b.2.2.1 b.2.2.2 d b.2.1 (B.mono λp q o=>by
       obtain⟨hp,M⟩:=o;injection hp with hp;exact⟨hp.symm,M⟩) a
      simpa [execOp,C]using this.value
     ·simp at hn
   ·simp at hn
  ·simp at hn
 ·simp at hn
theorem adS(o:kV A)(H:bG A φ h w base)(q:base<=w.heap.size)(j:h.length<h'.length->φ h.length=none)(s:∀v,ρa (.const v)=v)(r:∀f,ρa (.func f)=.func (.func f) #[] #[])
  (hρ:∀x y,cV A loc pb env x=some y->VR A φ (ρa y) (ρm x)) {p:Op} {t:TypeId} {a:Operand} (hn:kJ A loc pb env (.load t a)=some p)
  (d:dA ρa h p=some (v,h')):rh A φ h w base v h' (execOp ρm (mk dst (.load t a) ty pos after guard)):=by
 simp only[kJ]at hn;split at hn
 ·rename_i n y h1 i;injection hn with hn;subst hn;simp only[dA]at d;obtain⟨b,he⟩:=ji d;subst he;have e:=hρ _ _ i;cases hy:ρa y with
  |pointer p=>
   cases p with
   |none=>rw[hy]at b;simp[su]at b
   |some c=>
    rw[hy]at b e;obtain⟨m,l,hl,he⟩:=VR.uR e;have k:su (if qy A t then n+1 else 0) h (pt c.block c.off)=some v:=b;obtain⟨u,g,hu⟩:=LQ H h1 hl k;exact⟨Next.value u,w,φ,by simp[execOp,Instr.loadAt,Instr.sureAddr,he,g],.inl ⟨_,rfl,hu⟩,H,Ext.refl _ _ _ _⟩
  |_=>rw[hy]at b;simp[su]at b
 ·simp at hn
theorem Xk(s:kV A)(H:bG A φ h w base)(u:base<=w.heap.size)(m:h.length<h'.length->φ h.length=none)(C:∀v,ρa (.const v)=v)(B:∀f,ρa (.func f)=.func (.func f) #[] #[])
  (hρ:∀x y,cV A loc pb env x=some y->VR A φ (ρa y) (ρm x)) {p:Op} {t:TypeId} {a x:Operand} (hn:kJ A loc pb env (.store t a x)=some p)
  (c:dA ρa h p=some (v,h')):rh A φ h w base v h' (execOp ρm (mk dst (.store t a x) ty pos after guard)):=by
 simp only[kJ]at hn;split at hn
 ·rename_i n y z h1 i j;injection hn with hn;subst hn;simp only[dA]at c;have e:=hρ _ _ i;have hx:=hρ _ _ j;unfold behind at c;cases b:zv n h (ρa z) (ρa y)with
  |none=>simp[b]at c
  |some D=>
   simp[b]at c;obtain⟨rfl,rfl⟩:=c;cases hy:ρa y with
   |pointer p=>
    cases p with
    |none=>rw[hy]at b;simp[zv]at b
    |some r=>
     rw[hy]at b e;obtain⟨q,l,hl,he⟩:=VR.uR e;simp only[zv]at b;split at b
     ·rename_i cs o;split at b
      ·rename_i hlen;obtain⟨w',g,k,d⟩:=Wy H h1 hl o hlen b hx;exact⟨Next.skip,w',φ,by simp[execOp,Instr.storeAt,Instr.sureAddr,he,g],.inr ⟨rfl,rfl⟩,k,d⟩
      ·simp at b
     ·simp at b
   |_=>rw[hy]at b;simp[zv]at b
 ·simp at hn
theorem Qw(m:kV A)(H:bG A φ h w base)(n:base<=w.heap.size)(l:h.length<h'.length->φ h.length=none)(q:∀v,ρa (.const v)=v)(o:∀f,ρa (.func f)=.func (.func f) #[] #[])
  (hρ:∀x y,cV A loc pb env x=some y->VR A φ (ρa y) (ρm x)) {p:Op} {x:Operand} (hn:kJ A loc pb env (.nilCheck x)=some p)
  (b:dA ρa h p=some (v,h')):rh A φ h w base v h' (execOp ρm (mk dst (.nilCheck x) ty pos after guard)):=by
 simp only[kJ]at hn;cases hx:cV A loc pb env x with
 |none=>simp[hx]at hn
 |some y=>
  simp[hx]at hn;subst hn;simp only[dA]at b;obtain⟨k,he⟩:=ji b;subst he;have e:=hρ _ _ hx;obtain⟨rfl,j⟩:=Xb e k;refine⟨Next.value (ρm x),w,φ,?_,.inl ⟨_,rfl,e⟩,H,Ext.refl _ _ _ _⟩;rcases j with⟨a,i⟩|⟨g,c,d,i⟩<;>simp[execOp,i]
theorem Xe(j:kV A)(H:bG A φ h w base)(r:base<=w.heap.size)(k:h.length<h'.length->φ h.length=none)(u:∀v,ρa (.const v)=v)(s:∀f,ρa (.func f)=.func (.func f) #[] #[])
  (hρ:∀x y,cV A loc pb env x=some y->VR A φ (ρa y) (ρm x)) {p:Op} {o:BinOp} {t i:TypeId} {x y:Operand} (hn:kJ A loc pb env (.binOp o t x y i)=some p)
  (a:dA ρa h p=some (v,h')):rh A φ h w base v h' (execOp ρm (mk dst (.binOp o t x y i) ty pos after guard)):=by
 simp only[kJ]at hn;split at hn
 ·rename_i x' y' h1 g;have key:(∃m:Nat,p=.binOp o m x' y' 0∧(2<=m->A.Ra.contains t=true∧fj A t=some (m-2))∧(m=1->A.P.underlying t=some .bool))∨(p=.binOp o 0 x' y' 1∧∃e,A.P.underlying t=some (.slice e)):=by
   split at hn
   ·grind
   ·grind
   ·split at hn
    ·rename_i c;cases b:fj A t with
     |none=>simp[b]at hn
     |some n=>simp[b]at hn;subst hn;exact .inl ⟨n+2,rfl,λ_=>⟨c,by simp⟩,λ_=>by omega⟩
    ·simp at hn
   ·split at hn
    ·rename_i c;cases b:fj A t with
     |none=>simp[b]at hn
     |some n=>simp[b]at hn;subst hn;exact .inl ⟨n+2,rfl,λ_=>⟨c,by simp⟩,λ_=>by omega⟩
    ·simp at hn
   ·grind
  rcases key with⟨m,rfl,l,q⟩|⟨rfl,e,hu⟩
  rotate_left
  ·simp only[dA,if_true]at a;obtain⟨d,he⟩:=ji a;subst he;exact(agk x y H hu (hρ _ _ h1) (hρ _ _ g) d).value
  simp only[dA]at a;rw[if_neg (by decide)]at a;obtain⟨d,he⟩:=ji a;subst he;exact(ajM x y j H l q (hρ _ _ h1) (hρ _ _ g) d).value
 ·simp at hn
theorem adV(d:kV A)(H:bG A φ h w base)(e:base<=w.heap.size)(c:h.length<h'.length->φ h.length=none)(i:∀v,ρa (.const v)=v)(g:∀f,ρa (.func f)=.func (.func f) #[] #[])
  (hρ:∀x y,cV A loc pb env x=some y->VR A φ (ρa y) (ρm x)) {p:Op} {o:UnOp} {t:TypeId} {x:Operand} (hn:kJ A loc pb env (.unOp o t x)=some p)
  (a:dA ρa h p=some (v,h')):rh A φ h w base v h' (execOp ρm (mk dst (.unOp o t x) ty pos after guard)):=by
 simp only[kJ]at hn;cases hx:cV A loc pb env x with
 |none=>simp[hx]at hn
 |some y=>
  simp[hx]at hn;subst hn;simp only[dA]at a;obtain⟨b,he⟩:=ji a;subst he;exact(ani H (hρ _ _ hx) b).value
theorem SM(l:kV A)(H:bG A φ h w base)(j:base<=w.heap.size)(i:h.length<h'.length->φ h.length=none)(n:∀v,ρa (.const v)=v)(m:∀f,ρa (.func f)=.func (.func f) #[] #[])
  (hρ:∀x y,cV A loc pb env x=some y->VR A φ (ρa y) (ρm x)) {p:Op} {s d:TypeId} {x:Operand} (hn:kJ A loc pb env (.convert s d x)=some p)
  (a:dA ρa h p=some (v,h')):rh A φ h w base v h' (execOp ρm (mk dst (.convert s d x) ty pos after guard)):=by
 simp only[kJ]at hn;split at hn
 ·rename_i y k0 k h1 b c;injection hn with hn;subst hn;simp only[dA]at a;exact(ah6 H b c (hρ _ _ h1) a).value
 ·rename_i y h1 b c;injection hn with hn;subst hn;simp only[dA]at a;exact(aeR H b c (hρ _ _ h1) a).value
 ·rename_i y e h1 b c;split at hn
  ·rename_i g;injection hn with hn;subst hn;simp only[dA]at a;exact(ZO H j (i (WO a)) b c (Yr g.1) (hρ _ _ h1) a).value
  ·simp at hn
 ·rename_i y e h1 b c;split at hn
  ·rename_i g;injection hn with hn;subst hn;simp only[dA]at a;exact(aeS H b (Yr g) c (hρ _ _ h1) a).value
  ·simp at hn
 ·simp at hn
theorem Qv(i:kV A)(H:bG A φ h w base)(j:base<=w.heap.size)(e:h.length<h'.length->φ h.length=none)(m:∀v,ρa (.const v)=v)(k:∀f,ρa (.func f)=.func (.func f) #[] #[])
  (hρ:∀x y,cV A loc pb env x=some y->VR A φ (ρa y) (ρm x)) {p:Op} {g:FuncId} {first a:Array Operand} (hn:kJ A loc pb env (.makeFunc (.func g) first a)=some p)
  (b:dA ρa h p=some (v,h')):rh A φ h w base v h' (execOp ρm (mk dst (.makeFunc (.func g) first a) ty pos after guard)):=by
 simp only[kJ]at hn;split at hn
 ·rename_i f l0 l h1 h0 d;injection hn with hn;subst hn;simp only[dA]at b;have:=Xa H h1 (w7 hρ h0) (w7 hρ d) b;have hm:a.map ρm=(a.toList.map ρm).toArray:=by apply iU;simp
  have c:first.map ρm=(first.toList.map ρm).toArray:=by apply iU;simp
  simp only[execOp,hm,c];exact this.value
 ·simp at hn
theorem Ph(q:kV A)(H:bG A φ h w base)(m:base<=w.heap.size)(d:h.length<h'.length->φ h.length=none)(n:∀v,ρa (.const v)=v)(r:∀f,ρa (.func f)=.func (.func f) #[] #[])
  (hρ:∀x y,cV A loc pb env x=some y->VR A φ (ρa y) (ρm x)) {p:Op} {t:TypeId} {l c:Operand} (hn:kJ A loc pb env (.makeSlice t l c)=some p)
  (a:dA ρa h p=some (v,h')):rh A φ h w base v h' (execOp ρm (mk dst (.makeSlice t l c) ty pos after guard)):=by
 simp only[kJ]at hn;split at hn
 ·rename_i e h1;split at hn
  ·rename_i z cs l' o g i j k;split at hn
   ·rename_i b;injection hn with hn;subst hn;simp only[dA,n]at a;exact(anh H m (d (aep a)) h1 g i b.1 b.2.1 b.2.2 (hρ _ _ j) (hρ _ _ k) a).value
   ·simp at hn
  ·simp at hn
 ·simp at hn
theorem Xj(C:kV A)(H:bG A φ h w base)(D:base<=w.heap.size)(u:h.length<h'.length->φ h.length=none)(F:∀v,ρa (.const v)=v)(E:∀f,ρa (.func f)=.func (.func f) #[] #[])
  (hρ:∀x y,cV A loc pb env x=some y->VR A φ (ρa y) (ρm x)) {p:Op} {t:TypeId} {x:Operand} {lo hi m:Option Operand} (hn:kJ A loc pb env (.slice t x lo hi m)=some p)
  (b:dA ρa h p=some (v,h')):rh A φ h w base v h' (execOp ρm (mk dst (.slice t x lo hi m) ty pos after guard)):=by
 simp only[kJ]at hn;split at hn
 ·rename_i x' tu iY B h1 o q r;have i:=hρ _ _ h1;have j:=MQ hρ o;have k:=MQ hρ q;have l:=MQ hρ r;split at hn
  ·rename_i hu;injection hn with hn;subst hn;simp only[dA]at b;exact(SJ H hu i j k l b).value
  ·rename_i e hu;cases d:fj A e with
   |none=>simp[d]at hn
   |some z=>
    simp only[d,gB]at hn;split at hn
    ·rename_i s;injection hn with hn;subst hn;simp only[dA]at b;exact(Qs H hu d s i j k l b).value
    ·simp at hn
  ·rename_i n e hu;cases d:fj A e with
   |none=>simp[d]at hn
   |some z=>
    simp only[d,gB]at hn;cases g:pX n z with
    |none=>simp[g]at hn
    |some c=>
     simp[g]at hn;subst hn;simp only[dA]at b;obtain⟨a,hx⟩:=ag3 (yD g).2.2.2.2 b;rw[hx]at b i;exact(Qr H hu d g i j k l b).value
  ·simp at hn
 ·simp at hn
theorem Pf(k:kV A)(H:bG A φ h w base)(l:base<=w.heap.size)(i:h.length<h'.length->φ h.length=none)(o:∀v,ρa (.const v)=v)(n:∀f,ρa (.func f)=.func (.func f) #[] #[])
  (hρ:∀x y,cV A loc pb env x=some y->VR A φ (ρa y) (ρm x)) {p:Op} {t:TypeId} {x:Operand} {f:Nat} (hn:kJ A loc pb env (.fieldAddr t x f)=some p)
  (c:dA ρa h p=some (v,h')):rh A φ h w base v h' (execOp ρm (mk dst (.fieldAddr t x f) ty pos after guard)):=by
 simp only[kJ]at hn;split at hn
 ·rename_i x' j h1 d;split at hn
  ·rename_i fd e;split at hn
   ·rename_i m g;injection hn with hn;subst hn;simp only[dA,if_true]at c;obtain⟨b,he⟩:=ji c;subst he;have r:=hρ _ _ h1;unfold D0 at b;split at b
    ·rename_i a hx;injection b with b;rw[hx]at r;exact(VP H d e g r b.symm).value
    ·simp at b
   ·simp at hn
  ·simp at hn
 ·simp at hn
theorem Xh(j:kV A)(H:bG A φ h w base)(k:base<=w.heap.size)(g:h.length<h'.length->φ h.length=none)(n:∀v,ρa (.const v)=v)(l:∀f,ρa (.func f)=.func (.func f) #[] #[])
  (hρ:∀x y,cV A loc pb env x=some y->VR A φ (ρa y) (ρm x)) {p:Op} {t:TypeId} {x:Operand} {f:Nat} (hn:kJ A loc pb env (.field t x f)=some p)
  (a:dA ρa h p=some (v,h')):rh A φ h w base v h' (execOp ρm (mk dst (.field t x f) ty pos after guard)):=by
 simp only[kJ]at hn;split at hn
 ·rename_i x' i h1 b;split at hn
  ·rename_i fd c;split at hn
   ·rename_i m d;injection hn with hn;subst hn;simp only[dA]at a;obtain⟨e,he⟩:=ji a;subst he;exact(ajN H b c d (hρ _ _ h1) e).value
   ·simp at hn
  ·simp at hn
 ·simp at hn
theorem Pg(s:kV A)(H:bG A φ h w base)(u:base<=w.heap.size)(o:h.length<h'.length->φ h.length=none)(C:∀v,ρa (.const v)=v)(B:∀f,ρa (.func f)=.func (.func f) #[] #[])
  (hρ:∀x y,cV A loc pb env x=some y->VR A φ (ρa y) (ρm x)) {p:Op} {t:TypeId} {x i:Operand} (hn:kJ A loc pb env (.indexAddr t x i)=some p)
  (g:dA ρa h p=some (v,h')):rh A φ h w base v h' (execOp ρm (mk dst (.indexAddr t x i) ty pos after guard)):=by
 simp only[kJ]at hn;split at hn
 ·rename_i x' q e h1 k l;cases b:fj A e with
  |none=>simp[b]at hn
  |some z=>
   simp only[b,gB]at hn;split at hn
   ·rename_i m;injection hn with hn;subst hn;simp only[dA]at g;obtain⟨d,he⟩:=ji g;subst he;exact(Ko H l b m (hρ _ _ h1) (hρ _ _ k) d).value
   ·simp at hn
 ·rename_i x' q n e h1 k l;cases b:fj A e with
  |none=>simp[b]at hn
  |some z=>
   simp only[b,gB]at hn;cases j:pX n z with
   |none=>simp[j]at hn
   |some c=>
    simp[j]at hn;subst hn;simp only[dA]at g;obtain⟨d,he⟩:=ji g;subst he;have r:=hρ _ _ h1;obtain⟨a,hx⟩:=SF (yD j).2.2.2.2 d;rw[hx]at d r;exact(Kn H l b j r (hρ _ _ k) d).value
 ·simp at hn
theorem Xi(B:kV A)(H:bG A φ h w base)(C:base<=w.heap.size)(q:h.length<h'.length->φ h.length=none)(E:∀v,ρa (.const v)=v)(D:∀f,ρa (.func f)=.func (.func f) #[] #[])
  (hρ:∀x y,cV A loc pb env x=some y->VR A φ (ρa y) (ρm x)) {p:Op} {t:TypeId} {x i:Operand} (hn:kJ A loc pb env (.index t x i)=some p)
  (d:dA ρa h p=some (v,h')):rh A φ h w base v h' (execOp ρm (mk dst (.index t x i) ty pos after guard)):=by
 simp only[kJ]at hn;split at hn
 ·rename_i x' o h1 g j;injection hn with hn;subst hn;simp only[dA]at d;obtain⟨l,he⟩:=ji d;subst he;exact(SI H j (hρ _ _ h1) (hρ _ _ g) l).value
 ·rename_i x' o n e h1 g j;cases k:fj A e with
  |none=>simp[k]at hn
  |some z=>
   simp only[k,gB]at hn;have key:∃c,pX n (if qy A e then z else 0)=some c∧(qy A e=true->0<z)∧(qy A e=false->z=1)∧p=.index c x' o:=by
    split at hn
    ·rename_i b;split at hn
     ·rename_i m;cases a:pX n z with
      |none=>simp[a]at hn
      |some c=>simp[a]at hn;exact⟨c,by simp[b,a],λ_=>m,by simp[b],hn.symm⟩
     ·simp at hn
    ·rename_i b;split at hn
     ·rename_i m;cases a:pX n 0 with
      |none=>simp[a]at hn
      |some c=>simp[a]at hn;exact⟨c,by simp[b,a],λh'=>absurd h' b,λ_=>m,hn.symm⟩
     ·simp at hn
   obtain⟨c,r,s,u,rfl⟩:=key;simp only[dA]at d;obtain⟨l,he⟩:=ji d;subst he;exact(Qq H j k r s u (hρ _ _ h1) (hρ _ _ g) l).value
 ·simp at hn
theorem SN(d:kV A)(H:bG A φ h w base)(e:base<=w.heap.size)(c:h.length<h'.length->φ h.length=none)(j:∀v,ρa (.const v)=v)(g:∀f,ρa (.func f)=.func (.func f) #[] #[])
  (hρ:∀x y,cV A loc pb env x=some y->VR A φ (ρa y) (ρm x)) {p:Op} {x:Operand} {i:Nat} (hn:kJ A loc pb env (.extract x i)=some p)
  (a:dA ρa h p=some (v,h')):rh A φ h w base v h' (execOp ρm (mk dst (.extract x i) ty pos after guard)):=by
 simp only[kJ]at hn;cases hx:cV A loc pb env x with
 |none=>simp[hx]at hn
 |some y=>
  simp[hx]at hn;subst hn;simp only[dA]at a;obtain⟨b,he⟩:=ji a;subst he;exact(adN H (hρ _ _ hx) b).value
theorem awN{A:iG}{z:Nat}{s x v:Value}{h h':a9}(a:cu z h x s=some (v,h')):z≠0:=by
 unfold cu at a
 grind
theorem ahe{α β:Type}{R:α->β->Prop}{l:List β}{a b:α}(h:cM R [a,b] l):∃c d,l=[c,d]∧R a c∧R b d:=by
 match l,h with
 |[c,d],h=>exact⟨c,d,rfl,h.1,h.2.1⟩
theorem VO{α β:Type}{R:α->β->Prop}{l:List β}{a:α}(h:cM R [a] l):∃c,l=[c]∧R a c:=by
 match l,h with
 |[c],h=>exact⟨c,rfl,h.1⟩
theorem oi{b:Builtin}{z:Nat}{args:List Value}{v:Value}{h h':a9}(a:sY b z h args=some (v,h')):
  (b=.len∧∃x,args=[x]∧En z x=some v∧h=h')∨(b=.append∧∃s x,args=[s,x]∧cu z h x s=some (v,h'))∨
  (b=.copy∧∃s x,args=[s,x]∧Hz z h x s=some (v,h'))∨(b=.max∧Mj args=some v∧h=h')∨(b=.min∧I4 args=some v∧h=h'):=by
 unfold sY at a;split at a
 ·obtain⟨h1,c⟩:=ji a;exact .inl ⟨rfl,_,rfl,h1,c⟩
 ·grind
 ·grind
 ·obtain⟨h1,c⟩:=ji a;exact .inr (.inr (.inr (.inl ⟨rfl,h1,c⟩)))
 ·obtain⟨h1,c⟩:=ji a;exact .inr (.inr (.inr (.inr ⟨rfl,h1,c⟩)))
 ·simp at a
theorem Ax{b:Builtin}{args:Array Operand}{argTypes:Array TypeId}{us:List Value}(hu:args.toList.map ρm=us)(e:rh A φ h w base v h' (builtin b argTypes ty (args.map λ|.const _=>true|_=>false) us.toArray)):
  rh A φ h w base v h' (execOp ρm (mk dst (.call {callee:=.builtin b,args:=args,argTypes:=argTypes}) ty pos after guard)):=by
 have hm:args.map ρm=us.toArray:=by apply iU;simp[hu]
 have d:(execOp ρm (mk dst (.call {callee:=.builtin b,args:=args,argTypes:=argTypes}) ty pos after guard)).run A.P w=
   (builtin b argTypes ty (args.map λ|.const _=>true|_=>false) us.toArray).run A.P w:=by
  simp[execOp,resolve,invoke,hm];rfl
 obtain⟨r,w',a,c,rest⟩:=e;exact⟨r,w',a,d.trans c,rest⟩
theorem amL{α:Type}{a:Array α}{x:α}(h:a.toList=[x]):a=#[x]:=by apply iU;simp[h]
theorem XA{α:Type}{a:Array α}{x y:α}(h:a.toList=[x,y]):a=#[x,y]:=by apply iU;simp[h]
theorem Xg(I:kV A)(H:bG A φ h w base)(G:base<=w.heap.size)(C:h.length<h'.length->φ h.length=none)(K:∀v,ρa (.const v)=v)(J:∀f,ρa (.func f)=.func (.func f) #[] #[])
  (hρ:∀x y,cV A loc pb env x=some y->VR A φ (ρa y) (ρm x)) {p:Op} {b:Builtin} {args:Array Operand} {argTypes:Array TypeId} (hn:kJ A loc pb env (.call {callee:=.builtin b,args:=args,argTypes:=argTypes})=some p)
  (a:dA ρa h p=some (v,h')):rh A φ h w base v h' (execOp ρm (mk dst (.call {callee:=.builtin b,args:=args,argTypes:=argTypes}) ty pos after guard)):=by
 simp only[kJ]at hn;split at hn
 ·rename_i l h1;have i:=w7 hρ h1;split at hn
  ·rename_i t d;have d:=amL d;subst d;split at hn
   ·rename_i hu;injection hn with hn;subst hn;simp only[dA]at a;rcases oi a with⟨_,x,hx,g,rfl⟩|⟨h0,_⟩|⟨h0,_⟩|⟨h0,_⟩|⟨h0,_⟩<;>first|cases h0|skip
    simp only[hx]at i;obtain⟨u,m,j⟩:=VO i;exact Ax m (W9 H hu j g).value
   ·rename_i e hu;injection hn with hn;subst hn;simp only[dA]at a;rcases oi a with⟨_,x,hx,g,rfl⟩|⟨h0,_⟩|⟨h0,_⟩|⟨h0,_⟩|⟨h0,_⟩<;>first|cases h0|skip
    simp only[hx]at i;obtain⟨u,m,j⟩:=VO i;exact Ax m (VQ H hu j g).value
   ·simp at hn
  ·rename_i t t1 d;have d:=XA d;subst d;have key:∃e z c,A.P.underlying t=some (.slice e)∧((∃D,A.P.underlying t1=some (.slice D))∨A.P.underlying t1=some .string)∧fj A e=some z∧nG A e=some c∧c.length=z∧
     (A.P.info? e).map (decide<|·.bytes<=4096)=some true∧p=.call {callee:=.builtin .append,args:=l.toArray,argTypes:=#[z]}:=by
    split at hn
    ·rename_i e D hu n;split at hn
     ·rename_i z c k o;split at hn
      ·rename_i q;injection hn with hn;exact⟨e,z,c,hu,.inl ⟨_,n⟩,k,o,q.1,q.2,hn.symm⟩
      ·simp at hn
     ·simp at hn
    ·rename_i e hu n;split at hn
     ·rename_i z c k o;split at hn
      ·rename_i q;injection hn with hn;exact⟨e,z,c,hu,.inr n,k,o,q.1,q.2,hn.symm⟩
      ·simp at hn
     ·simp at hn
    ·simp at hn
   obtain⟨e,z,c,hu,n,k,o,E,F,rfl⟩:=key;simp only[dA]at a;rcases oi a with⟨h0,_⟩|⟨_,s,x,hx,g⟩|⟨h0,_⟩|⟨h0,_⟩|⟨h0,_⟩<;>first|cases h0|skip
   simp only[hx]at i;obtain⟨u1,u2,m,j,r⟩:=ahe i;have B:cu z h x s=some (v,h'):=by simpa using g
   exact Ax m (R5 H G C hu k o E F n j r B).value
  ·rename_i t t1 d;have d:=XA d;subst d;split at hn
   ·rename_i e hu;split at hn
    ·rename_i z k;injection hn with hn;subst hn;simp only[dA]at a;rcases oi a with⟨h0,_⟩|⟨h0,_⟩|⟨_,s,x,hx,g⟩|⟨h0,_⟩|⟨h0,_⟩<;>first|cases h0|skip
     simp only[hx]at i;obtain⟨u1,u2,m,j,r⟩:=ahe i;have B:Hz z h x s=some (v,h'):=by simpa using g
     exact Ax m (ang H hu k j r B).value
    ·simp at hn
   ·simp at hn
  ·injection hn with hn;subst hn;simp only[dA]at a;rcases oi a with⟨h0,_⟩|⟨h0,_⟩|⟨h0,_⟩|⟨_,g,rfl⟩|⟨h0,_⟩<;>first|cases h0|skip
   exact Ax rfl (asi H i g).value
  ·injection hn with hn;subst hn;simp only[dA]at a;rcases oi a with⟨h0,_⟩|⟨h0,_⟩|⟨h0,_⟩|⟨h0,_⟩|⟨_,g,rfl⟩<;>first|cases h0|skip
   exact Ax rfl (asj H i g).value
  ·simp at hn
 ·simp at hn
theorem ajU(k:kV A)(H:bG A φ h w base)(u:base<=w.heap.size)(j:h.length<h'.length->φ h.length=none)(B:∀v,ρa (.const v)=v)(z:∀f,ρa (.func f)=.func (.func f) #[] #[])
  (hρ:∀x y,cV A loc pb env x=some y->VR A φ (ρa y) (ρm x)) {o p:Op} (C:∀f args ts,o≠.call {callee:=.value f,args:=args,argTypes:=ts}) (hn:kJ A loc pb env o=some p)
  (q:dA ρa h p=some (v,h')):rh A φ h w base v h' (execOp ρm (mk dst o ty pos after guard)):=by
 cases o with
 |move x=>exact adT k H u j B z hρ hn q
 |assign x=>exact V3 k H u j B z hρ hn q
 |pick c a b=>exact adU k H u j B z hρ hn q
 |alloc e=>exact Xd k H u j B z hρ hn q
 |box e x=>exact agx k H u j B z hρ hn q
 |build t ps=>exact Xf k H u j B z hρ hn q
 |buildSlice t n ps=>exact MY k H u j B z hρ hn q
 |load t a=>exact adS k H u j B z hρ hn q
 |store t a x=>exact Xk k H u j B z hρ hn q
 |nilCheck x=>exact Qw k H u j B z hρ hn q
 |binOp o t x y F=>exact Xe k H u j B z hρ hn q
 |unOp o t x=>exact adV k H u j B z hρ hn q
 |convert s d x=>exact SM k H u j B z hρ hn q
 |makeFunc f first D=>
  cases f with
  |func g=>exact Qv k H u j B z hρ hn q
  |_=>simp[kJ]at hn
 |makeSlice t l c=>exact Ph k H u j B z hρ hn q
 |slice t x lo hi E=>exact Xj k H u j B z hρ hn q
 |fieldAddr t x f=>exact Pf k H u j B z hρ hn q
 |field t x f=>exact Xh k H u j B z hρ hn q
 |indexAddr t x i=>exact Pg k H u j B z hρ hn q
 |index t x i=>exact Xi k H u j B z hρ hn q
 |extract x i=>exact SN k H u j B z hρ hn q
 |call c=>
  obtain⟨callee,args,ts⟩:=c;cases callee with
  |builtin b=>exact Xg k H u j B z hρ hn q
  |value f=>exact absurd rfl (C f args ts)
  |invoke r m=>simp[kJ]at hn
 |_=>simp[kJ]at hn
end ops
end
end Am
namespace Am
open Go
def comb(loc:List Nat)(σ τ:Nat->Value):Nat->Value:=λi=>if own loc i then τ i else σ i
def lW(s:Nat->Value):Operand->Value
 |.tmp i=>s i
 |.global i=>s i
 |.const v=>v
 |.func f=>.func (.func f) #[] #[]
def pT(s:Nat->Value)(d:Option Nat)(v:Value):Nat->Value:=match d with
 |some i=>il s i v
 |none=>s
def qu(s:Nat->Value):Option (Nat×Bool)->Option Bool
 |none=>some true
 |some (i,b)=>match s (i/4)with
  |.bool c=>some (c==b)
  |.tuple _=>some false
  |_=>none
section
variable (qz : a9 -> a9 -> Bool) (call : oh)
noncomputable def pY(q:Nat)(ρ:Operand->Value)(h:a9):Option (Value×a9)->Option (Value×a9)
 |some (v,h')=>if xc qz q ρ h h'=true then some (v,h')else none
 |none=>none
noncomputable def ni(s:Nat->Value)(h:a9)(p:Oper):Option (Value×a9):=match qu s p.guard with
 |none=>none
 |some false=>some (jr p.guard,h)
 |some true=>pY qz p.type (lW s) h (match kt (lW s) p.op with
  |some (f,args)=>call f args h
  |none=>dA (lW s) h p.op)
noncomputable def Hb:List Oper->(Nat->Value)->a9->Option ((Nat->Value)×a9)
 |[],s,h=>some (s,h)
 |p::r,s,h=>match ni qz call s h p with
  |some (v,h')=>Hb r (pT s p.dst v) h'
  |none=>none
end
section congr
variable {ρ ρ' : Operand -> Value} {h : a9}
theorem map_snd{ps:List (Nat×Operand)}(hp:∀x∈ps.map (·.2),ρ x=ρ' x):(ps.map λp=>(p.1,ρ p.2))=ps.map λp=>(p.1,ρ' p.2):=
 fe λp hm=>by rw[hp p.2 (bj.2 ⟨p,hm,rfl⟩)]
theorem Ji{o:Op}(hx:∀x∈o.operands,ρ x=ρ' x):kt ρ o=kt ρ' o:=by
 cases o with
 |call c=>
  obtain⟨callee,args,ts⟩:=c;cases callee with
  |value f=>
   have b:ρ f=ρ' f:=hx f (by simp[Op.operands,Call.operands]);have a:args.toList.map ρ=args.toList.map ρ':=fe λx hm=>hx x (by simp[Op.operands,Call.operands];exact .inr (by simpa using hm));simp only[kt,b,a]
  |_=>rfl
 |_=>rfl
theorem QK{o:Op}(hx:∀x∈o.operands,ρ x=ρ' x):dA ρ h o=dA ρ' h o:=by
 cases o with
 |call c=>
  obtain⟨callee,args,ts⟩:=c;cases callee with
  |builtin b=>
   have a:args.toList.map ρ=args.toList.map ρ':=fe λx hm=>hx x (by simp[Op.operands,Call.operands];simpa using hm);simp only[dA,a]
  |_=>rfl
 |makeFunc f first d=>
  cases f with
  |func g=>
   have a:d.toList.map ρ=d.toList.map ρ':=fe λx hm=>hx x (by simp[Op.operands];exact .inr (by simpa using hm));have e:first.toList.map ρ=first.toList.map ρ':=fe λx hm=>hx x (by simp[Op.operands];exact .inl (by simpa using hm))
   simp only[dA,a,e]
  |_=>rfl
 |build t ps=>
  simp only[dA];rw[map_snd (ρ:=ρ) (ρ':=ρ') λx hm=>hx x (by simp only[Op.operands];simpa using hm)]
 |buildSlice t n ps=>
  simp only[dA];rw[map_snd (ρ:=ρ) (ρ':=ρ') λx hm=>hx x (by simp only[Op.operands];simpa using hm)]
 |slice t x lo hi i=>
  simp only[Op.operands]at hx;cases lo<;>cases hi<;>cases i<;>simp_all [dA]
 |_=>simp only[Op.operands]at hx<;>first|rfl|(simp_all [dA];done)
end congr
def bare(p:Oper):Oper:={p with type:=0}
theorem F3{qz:a9->a9->Bool}{call:oh}{s:Nat->Value}{h:a9}{p:Oper}{r:Value×a9}(a:ni qz call s h p=some r):ni qz call s h (bare p)=some r:=by
 unfold ni at a ⊢
 show(match qu s p.guard with|none=>none|some false=>some (jr p.guard,h)|some true=>_)=some r
 split at a
 ·cases a
 ·exact a
 ·show pY qz 0 (lW s) h (match kt (lW s) p.op with|some (f,args)=>call f args h|none=>dA (lW s) h p.op)=some r
  unfold pY at a ⊢;split at a
  ·split at a
   ·rw[if_pos (by simp[xc,jz,tG])];exact a
   ·cases a
  ·cases a
theorem ad3{qz:a9->a9->Bool}{call:oh}{s a:Nat->Value}{h:a9}{p:Oper}(h0:tG p.type=none)(d:∀t∈BE p,s t=a t):ni qz call s h p=ni qz call a h p:=by
 have hw:qu s p.guard=qu a p.guard:=by
  cases i:p.guard with
  |none=>rfl
  |some f=>
   obtain⟨g,b⟩:=f;simp only[qu];rw[d (g/4) (by simp[BE,i])]
 have hx:∀x∈p.op.operands,lW s x=lW a x:=by
  intro x hx;have e:x∈p.op.operands.toList:=by simpa using hx
  cases x with
  |tmp t=>exact d t (List.mem_append_left _ (pq.2 ⟨.tmp t,e,rfl⟩))
  |global t=>exact d t (List.mem_append_left _ (pq.2 ⟨.global t,e,rfl⟩))
  |_=>rfl
 have j:∀h h',xc qz p.type (lW s) h h'=xc qz p.type (lW a) h h':=by intro h h';unfold xc;rw[h0]
 have c:∀r,pY qz p.type (lW s) h r=pY qz p.type (lW a) h r:=by
  intro r;cases r with
  |none=>rfl
  |some k=>simp only[pY,j]
 unfold ni;rw[hw,Ji hx,QK hx,c]
section step
variable {qz : a9 -> a9 -> Bool} {call : oh} {loc : List Nat}
theorem ap8{σ τ:Nat->Value}{p:Oper}(hw:Fu loc p=true):∀x∈p.op.operands,ev σ τ x=lW (comb loc σ τ) x:=by
 intro x hx;simp only[Fu,aH,bV]at hw;have:=hw.1.1.1 x (by simpa using hx);cases x with
 |tmp t=>simp at this;simp[ev,lW,comb,this]
 |global t=>simp only at this;simp[ev,lW,comb,this]
 |_=>rfl
theorem ah4{σ τ:Nat->Value}{d:Nat}{v:Value}{q:Nat}{h h':a9}(e:(gQ q==own loc d)=true)(s:St)(f:s=St.put ⟨σ,τ,h⟩ q (some d) v h'):comb loc s.σ s.τ=il (comb loc σ τ) d v:=by
 subst f;have c:gQ q=own loc d:=by simpa using e
 funext i
 unfold comb;simp only[St.put,il,c];by_cases a:i=d
 ·subst a;cases b:own loc i<;>simp[b,il]
 ·cases b:own loc i<;>cases g:own loc d<;>simp[a,il]
theorem ad9{σ τ:Nat->Value}{h:a9}{p:Oper}{st:St}(hw:Fu loc p=true)(a:qt qz call p ⟨σ,τ,h⟩=some st):
  ∃v,ni qz call (comb loc σ τ) h p=some (v,st.h)∧comb loc st.σ st.τ=pT (comb loc σ τ) p.dst v:=by
 have A:=ap8 (σ:=σ) (τ:=τ) hw;have j:=hw;simp only[Fu,aH]at j;have B:qF ⟨σ,τ,h⟩ p.guard=qu (comb loc σ τ) p.guard:=by
  cases l:p.guard with
  |none=>rfl
  |some D=>
   obtain⟨g,b⟩:=D;have u:=j.1.1.2;simp only[l]at u;have z:(g%2==1)=own loc (g/4):=by simpa using u
   simp only[qF,qu];by_cases c:g%2=1
   ·have:own loc (g/4)=true:=by rw[<-z];simp[c]
    simp[c,ev,comb,this];rfl
   ·have:own loc (g/4)=false:=by rw[<-z];simp[c]
    simp[c,ev,comb,this];rfl
 have s:∀v h',comb loc (St.put ⟨σ,τ,h⟩ p.type p.dst v h').σ (St.put ⟨σ,τ,h⟩ p.type p.dst v h').τ=pT (comb loc σ τ) p.dst v:=by
  intro v h';cases k:p.dst with
  |none=>rfl
  |some d=>
   have w:=j.1.2;simp only[k]at w;exact ah4 (h:=h) (h':=h') w _ (by cases n:gQ p.type<;>simp[St.put,n])
 have q:∀v h',(St.put ⟨σ,τ,h⟩ p.type p.dst v h').h=h':=by
  intro v h';cases k:p.dst with
  |none=>rfl
  |some d=>cases n:gQ p.type<;>simp[St.put,n]
 have m:∀h',xc qz p.type (ev σ τ) h h'=xc qz p.type (lW (comb loc σ τ)) h h':=by
  intro h';unfold xc;cases k:tG p.type with
  |none=>rfl
  |some x=>
   have e:=j.2;simp only[k]at e;have:ev σ τ x=lW (comb loc σ τ) x:=by
    cases x with
    |tmp t=>simp at e;simp[ev,lW,comb,e]
    |global t=>simp only at e;simp[ev,lW,comb,e]
    |_=>rfl
   simp only[this]
 unfold qt at a;simp only[m]at a;rw[B]at a;unfold ni;cases l:qu (comb loc σ τ) p.guard with
 |none=>simp[l]at a
 |some b=>
  cases b with
  |false=>
   grind
  |true=>
   simp only[l]at a ⊢;rw[Ji A]at a;cases y:kt (lW (comb loc σ τ)) p.op with
   |some C=>
    obtain⟨f,args⟩:=C;simp only[y]at a ⊢;cases i:call f args h with
    |none=>simp[i]at a
    |some r=>
     obtain⟨v,h'⟩:=r;simp only[i]at a;split at a
     ·rename_i o;injection a with a;subst a;exact⟨v,by simp only[pY,q];rw[if_pos o],s _ _⟩
     ·simp at a
   |none=>
    simp only[y]at a ⊢;rw[QK A]at a;cases i:dA (lW (comb loc σ τ)) h p.op with
    |none=>simp[i]at a
    |some r=>
     obtain⟨v,h'⟩:=r;simp only[i]at a;split at a
     ·rename_i o;injection a with a;subst a;exact⟨v,by simp only[pY,q];rw[if_pos o],s _ _⟩
     ·simp at a
theorem GO:∀{l:List Oper} {σ τ:Nat->Value} {h:a9} {st:St},l.all (Fu loc)=true->jL qz call l ⟨σ,τ,h⟩=some st->Hb qz call l (comb loc σ τ) h=some (comb loc st.σ st.τ,st.h)
 |[],σ,τ,h,st,_,a=>by simp only[jL,aI]at a;subst a;rfl
 |p::r,σ,τ,h,st,hw,a=>by
  simp only[sx,aH]at hw;simp only[jL]at a;cases h1:qt qz call p ⟨σ,τ,h⟩with
  |none=>simp[h1]at a
  |some s1=>
   simp only[h1]at a;obtain⟨v,c,b⟩:=ad9 hw.1 h1;simp only[Hb,c];rw[<-b];exact GO (σ:=s1.σ) (τ:=s1.τ) hw.2 a
end step
end Am
namespace Am
open Go
structure SR (A:iG) (pb:List Nat) (env:List (Nat×Nat)) (φ:dS) (s:Nat->Value) (tm:Array Value) (w:World) (lo:Nat):Prop where
 plain:∀t,pb.contains t=false->iq env t=none->VR A φ (s t) (tm.getD t undef)
 box:∀a,pb.contains a=true->s a≠fI->∃cs g cur ty,s a=.agg cs∧tm.getD a undef=.pointer (some ⟨g,0,none⟩)∧lo<=g∧w.heap[g]?=some (.cells cur ty (0,0))∧
  cM (iS A φ) cs.toList cur.toList∧∀b l,φ b=some l->l.g≠g
 apart:∀a a' g,pb.contains a=true->pb.contains a'=true->s a≠fI->s a'≠fI->tm.getD a undef=.pointer (some ⟨g,0,none⟩)->tm.getD a' undef=.pointer (some ⟨g,0,none⟩)->a=a'
 ET:∀d a,iq env d=some a->s d≠fI->pb.contains a=true∧s a≠fI∧∃(off:Nat) (g:Nat),s d=I off∧tm.getD d undef=.pointer (some ⟨g,off,none⟩)∧tm.getD a undef=.pointer (some ⟨g,0,none⟩)
def AO(pb:List Nat)(env:List (Nat×Nat)):Prop:=∀d a,iq env d=some a->pb.contains a=true∧pb.contains d=false
section
variable {A : iG} {φ : dS} {h : a9} {w : World} {base lo : Nat} {loc pb : List Nat} {env : List (Nat × Nat)} {s : Nat -> Value} {tm : Array Value}
theorem hU{tm:Array Value}{d t:Nat}{u:Value}(a:d<tm.size):(tm.setIfInBounds d u).getD t undef=if t=d then u else tm.getD t undef:=by
 by_cases h:t=d
 ·simp_all
 ·have:d≠t:=λe=>h e.symm
  simp_all
theorem SR.move{e:dS}{h':a9}{w':World}(S:SR A pb env φ s tm w lo)(c:Ext w.heap.size φ h w e h' w')(u:∀b l,φ b=some l->l.g<w.heap.size):SR A pb env e s tm w' lo where
 plain:=λt h1 i=>(S.plain t h1 i).mono A c.sub
 box:=λa h1 i=>by
  obtain⟨cs,g,cur,ty,n,o,p,j,q,f⟩:=S.box a h1 i;have r:g<w.heap.size:=(cN.1 j).1;refine⟨cs,g,cur,ty,n,o,p,?_,q.mono λ_ _=>iS.mono A c.sub,?_⟩
  ·rw[c.frame g r λb l k d _ _=>f b l d];exact j
  ·intro b l d;by_cases m:h.length<=b∧b<h'.length
   ·rcases c.fresh b l m.1 m.2 d with v|⟨b0,l0,k0,f1,_,_,f4⟩
    ·omega
    ·rw[<-f4];exact f b0 l0 f1
   ·rw[c.same b (by omega)]at d;exact f b l d
 apart:=S.apart
 ET:=S.ET
theorem SR.put{d:Nat}{v u:Value}(S:SR A pb env φ s tm w lo)(c:d<tm.size)(h1:pb.contains d=false)(p:iq env d=none)(q:VR A φ v u):
  SR A pb env φ (il s d v) (tm.setIfInBounds d u) w lo:=by
 have f:∀a,pb.contains a=true->a≠d:=λa b e=>by subst e;rw[h1]at b;cases b
 have m:∀e a,iq env e=some a->e≠d:=λe a b he=>by subst he;rw[p]at b;cases b
 refine⟨λt o n=>?_,λa b hp=>?_,λa a' g b l hp k h i=>?_,λe a b hp=>?_⟩
 ·rw[hU c,eK];split
  ·exact q
  ·exact S.plain t o n
 ·have:=f a b;rw[eK,if_neg this]at hp;rw[eK,if_neg this,hU c,if_neg this];exact S.box a b hp
 ·have n1:=f a b;have n2:=f a' l;rw[eK,if_neg n1]at hp;rw[eK,if_neg n2]at k;rw[hU c,if_neg n1]at h;rw[hU c,if_neg n2]at i;exact S.apart a a' g b l hp k h i
 ·have n1:=m e a b;rw[eK,if_neg n1]at hp;obtain⟨j,r,off,g,x,y,z⟩:=S.ET e a b hp;have n2:=f a j;exact⟨j,by rw[eK,if_neg n2];exact r,off,g,by rw[eK,if_neg n1];exact x,by rw[hU c,if_neg n1];exact y,by rw[hU c,if_neg n2];exact z⟩
theorem SR.drop{d:Nat}(S:SR A pb env φ s tm w lo)(c:d<tm.size)(v:∀e,iq env e=some d->s e=fI)(hw:AO pb env)(u:Value):
  SR A pb env φ (il s d fI) (tm.setIfInBounds d u) w lo:=by
 refine⟨λt l k=>?_,λa b hp=>?_,λa a' g b x hp h i j=>?_,λe a b hp=>?_⟩
 ·rw[hU c,eK];split
  ·exact VR.fI
  ·exact S.plain t l k
 ·by_cases n:a=d
  ·subst n;simp[il]at hp
  ·rw[eK,if_neg n]at hp;rw[eK,if_neg n,hU c,if_neg n];exact S.box a b hp
 ·by_cases n:a=d
  ·subst n;simp[il]at hp
  ·by_cases f:a'=d
   ·subst f;simp[il]at h
   ·rw[eK,if_neg n]at hp;rw[eK,if_neg f]at h;rw[hU c,if_neg n]at i;rw[hU c,if_neg f]at j;exact S.apart a a' g b x hp h i j
 ·by_cases n:e=d
  ·subst n;simp[il]at hp
  ·rw[eK,if_neg n]at hp;obtain⟨m,o,off,g,p,q,r⟩:=S.ET e a b hp;have n2:a≠d:=λhe=>by subst he;exact hp (v e b)
   exact⟨m,by rw[eK,if_neg n2];exact o,off,g,by rw[eK,if_neg n];exact p,by rw[hU c,if_neg n];exact q,by rw[hU c,if_neg n2];exact r⟩
theorem SR.make{a ty:Nat}{cs:Array Value}{cur:Array Value}(S:SR A pb env φ s tm w lo)(d:a<tm.size)(v:pb.contains a=true)(K:∀e,iq env e=some a->s e=fI)(hw:AO pb env)
  (z:∀b l,φ b=some l->l.g<w.heap.size) (C:lo<=w.heap.size) (D:cM (iS A φ) cs.toList cur.toList):
  SR A pb env φ (il s a (.agg cs)) (tm.setIfInBounds a (.pointer (some ⟨w.heap.size,0,none⟩))) (w.alloc (.cells cur ty)) lo:=by
 have L:∀b,pb.contains b=true->s b≠fI->∀g,tm.getD b undef=.pointer (some ⟨g,0,none⟩)->g<w.heap.size:=by
  intro b c hp g M;obtain⟨y,m,x,p,f,h,q,k,r,u⟩:=S.box b c hp
  grind
 refine⟨λt j B=>?_,λb c hp=>?_,λb b' g c J hp o f h=>?_,λe b c hp=>?_⟩
 ·have n:t≠a:=λe=>by subst e;rw[v]at j;cases j
  rw[hU d,eK,if_neg n,if_neg n];exact S.plain t j B
 ·by_cases n:b=a
  ·subst n;refine⟨cs,w.heap.size,cur,ty,by simp[il],by rw[hU d];simp,C,heap_alloc_new w _,D,λb l c=>dO (z b l c)⟩
  ·rw[eK,if_neg n]at hp;obtain⟨y,m,x,p,f,h,q,k,r,u⟩:=S.box b c hp;refine⟨y,m,x,p,by rw[eK,if_neg n];exact f,by rw[hU d,if_neg n];exact h,q,?_,r,u⟩;rw[heap_alloc_old w _ m (cN.1 k).1];exact k
 ·by_cases n:b=a
  ·subst n;by_cases i:b'=b
   ·exact i.symm
   ·rw[hU d]at f;simp at f;rw[eK,if_neg i]at o;rw[hU d,if_neg i]at h
    grind
  ·rw[eK,if_neg n]at hp;rw[hU d,if_neg n]at f;by_cases i:b'=a
   ·subst i;rw[hU d]at h
    grind
   ·rw[eK,if_neg i]at o;rw[hU d,if_neg i]at h;exact S.apart b b' g c J hp o f h
 ·have n:e≠a:=λhe=>by subst he;have:=(hw e b c).2;rw[v]at this;cases this
  rw[eK,if_neg n]at hp;obtain⟨E,F,off,g,G,H,I⟩:=S.ET e b c hp;have n2:b≠a:=λhe=>by subst he;exact hp (K e c)
  exact⟨E,by rw[eK,if_neg n2];exact F,off,g,by rw[eK,if_neg n];exact G,by rw[hU d,if_neg n];exact H,by rw[hU d,if_neg n2];exact I⟩
theorem SR.amj{d a off g:Nat}(S:SR A pb env φ s tm w lo)(f:d<tm.size)(hw:AO pb env)(l:iq env d=some a)(hp:s a≠fI)(v:tm.getD a undef=.pointer (some ⟨g,0,none⟩)):
  SR A pb env φ (il s d (I off)) (tm.setIfInBounds d (.pointer (some ⟨g,off,none⟩))) w lo:=by
 obtain⟨i,u⟩:=hw d a l;have h:∀a,pb.contains a=true->a≠d:=λa c e=>by subst e;rw[u]at c;cases c
 refine⟨λt r k=>?_,λa c hp=>?_,λa a' g c q hp j m o=>?_,λe b he j=>?_⟩
 ·have n:t≠d:=λe=>by subst e;rw[l]at k;cases k
  rw[hU f,eK,if_neg n,if_neg n];exact S.plain t r k
 ·have:=h a c;rw[eK,if_neg this]at hp;rw[eK,if_neg this,hU f,if_neg this];exact S.box a c hp
 ·have n1:=h a c;have n2:=h a' q;rw[eK,if_neg n1]at hp;rw[eK,if_neg n2]at j;rw[hU f,if_neg n1]at m;rw[hU f,if_neg n2]at o;exact S.apart a a' g c q hp j m o
 ·by_cases n:e=d
  ·subst n;rw[l]at he;injection he with he;subst he
   have n2:=h a i;exact⟨i,by rw[eK,if_neg n2];exact hp,off,g,by simp[il],by rw[hU f];simp,by rw[hU f,if_neg n2];exact v⟩
  ·rw[eK,if_neg n]at j;obtain⟨p,x,off,g,y,z,B⟩:=S.ET e b he j;have n2:=h b p;exact⟨p,by rw[eK,if_neg n2];exact x,off,g,by rw[eK,if_neg n];exact y,by rw[hU f,if_neg n];exact z,by rw[hU f,if_neg n2];exact B⟩
end
end Am
namespace Am
open Go
def zu(A:iG)(base:Nat)(call:oh):Prop:=∀f args h v h' g φ w us,call f args h=some (v,h')->FM A g=some f->bG A φ h w base->base<=w.heap.size->
 (∀b,h.length<=b->b<h'.length->φ b=none)->cM (VR A φ) args us->
 (callFunc g us.toArray).run A.P w=.ok (.enter g us.toArray) w∧
  Calls A.P g us.toArray w λe w'=>∃u a,e=.returned u∧VR A a v u∧bG A a h' w' base∧Ext w.heap.size φ h w a h' w'
section
variable {A : iG} {φ : dS} {h : a9} {w : World} {base lo : Nat} {loc pb : List Nat} {env : List (Nat × Nat)} {s : Nat -> Value} {a : Act}
theorem tC(S:SR A pb env φ s a.tmps w lo){x y:Operand}(hn:cV A loc pb env x=some y):VR A φ (lW s y) (a.eval x):=by
 unfold cV at hn;cases x with
 |tmp t=>
  simp only at hn;split at hn
  ·simp at hn
  ·rename_i b;simp only[dq,not_or,o6,ot,kX]at b;have:=S.plain t b.1 b.2;injection hn with hn;subst hn;split<;>exact this
 |const v=>
  simp only at hn;cases b:cv v with
  |none=>simp[b]at hn
  |some x=>simp[b]at hn;subst hn;exact NS b
 |func g=>
  simp only at hn;cases b:FM A g with
  |none=>simp[b]at hn
  |some f=>simp[b]at hn;subst hn;exact⟨g,#[],#[],rfl,b,trivial,trivial⟩
 |global g=>simp at hn
theorem FP(S:SR A pb env φ s a.tmps w lo){x y:Operand}{t:Nat}{n:Int}(hn:D8 pb env x=some (t,y))(c:zj (lW s y)=some n):
  pb.contains t=true∧s t≠fI∧∃(off:Nat) (g:Nat),n=off∧a.eval x=.pointer (some ⟨g,off,none⟩)∧a.tmps.getD t undef=.pointer (some ⟨g,0,none⟩):=by
 unfold D8 at hn;cases x with
 |tmp i=>
  simp only at hn;split at hn
  ·rename_i j;injection hn with hn;injection hn with f d;subst f;subst d;have hp:s i≠fI:=by intro e;simp[lW,e,zj]at c
   obtain⟨cs,g,cur,ty,f,d,_⟩:=S.box i j hp;simp only[lW,f,zj,aI]at c;exact⟨j,hp,0,g,by simp[<-c],d,d⟩
  ·cases h:iq env i with
   |none=>simp[h]at hn
   |some b=>
    simp[h]at hn;obtain⟨rfl,rfl⟩:=hn;have hp:s i≠fI:=by intro e;simp[lW,e,zj]at c
    obtain⟨k,l,off,g,m,o,p⟩:=S.ET i b h hp;simp only[lW,m,zj,aI]at c;exact⟨k,l,off,g,c.symm,o,p⟩
 |_=>simp at hn
theorem RK{t:TypeId}{n g off:Nat}{cs cur:Array Value}{ty:Nat}{v:Value}(k:fj A t=some n)(p:w.heap[g]?=some (.cells cur ty (0,0)))(b:cM (iS A φ) cs.toList cur.toList)
  (a:bD (if qy A t then n+1 else 0) off (.agg cs)=some v):∃u,(loadVar t ⟨g,off,none⟩).run A.P w=.ok u w∧VR A φ v u:=by
 obtain⟨d,hu⟩:=Gu k;have f:∀(i:Nat) (u:Value),cur[i]?=some u->w.cell? ⟨g,i,none⟩=some u:=λi u hi=>by simp[World.cell?,p,hi]
 unfold loadVar;simp only[Sem.run_bind,HB hu,Result.andThen_ok];cases h:qy A t with
 |false=>
  simp only[h,ax,if_false,bD,if_true]at a ⊢;obtain⟨u,h1,l⟩:=b.get off v (by simpa using a);exact⟨u,by simp[f off u (by simpa using h1)],VR.YB l⟩
 |true=>
  simp only[h,if_true,bD]at a ⊢;rw[if_neg (by omega)]at a;split at a
  ·rename_i r;injection a with a;subst a;have hl:=b.length;simp only[j8]at hl;have q:((cur.toList.drop off).take n).length=n:=by simp;omega
   have m:=(b.drop off).take n;refine⟨.agg ((cur.toList.drop off).take n).toArray,?_,((cur.toList.drop off).take n).toArray,rfl,by simpa using m⟩;simp only[Sem.run_bind,run_sizeOf k,Result.andThen_ok];have:=jX (A:=A) (w:=w) (g:=g) (o:=off) (us:=(cur.toList.drop off).take n) (λj u c=>by
    have e:j<n:=by have:=(au.1 c).1;omega
    rw[bO e,dU]at c;exact f (off+j) u (by simpa using c))
   simp_all
  ·simp at a
theorem aea{t:TypeId}{n g off ty:Nat}{cur:Array Value}{u:Value}(b:fj A t=some n)(c:w.heap[g]?=some (.cells cur ty (0,0)))(e:off+n<=cur.size)(hlen:u.cells.size=n)
  (a:∀v∈u.cells.toList,v.oneCell'=true):(storeVar t ⟨g,off,none⟩ u).run A.P w=.ok () (w.setRow g (iK cur.toList off u.cells.toList).toArray):=by
 have:=kG (P:=A.P) g off ty 0 0 u.cells.toList 0 cur w c (by simp;omega) (λj d=>by omega) a;simp only[bA]at this;simp[storeVar,run_sizeOf b,hlen,this,iK]
theorem SR.store{tm:Array Value}{t g off:Nat}{cs cur:Array Value}{ty:Nat}{xs us:List Value}(S:SR A pb env φ s tm w lo)(hw:AO pb env)(o:pb.contains t=true)(he:s t=.agg cs)(p:tm.getD t undef=.pointer (some ⟨g,0,none⟩))
  (r:w.heap[g]?=some (.cells cur ty (0,0))) (G:cM (iS A φ) cs.toList cur.toList) (hx:cM (iS A φ) xs us) (E:lo<=g) (m:∀b l,φ b=some l->l.g≠g):
  SR A pb env φ (il s t (.agg (iK cs.toList off xs).toArray)) tm (w.setRow g (iK cur.toList off us).toArray) lo:=by
 have hp:s t≠fI:=by rw[he];simp
 have H:g<w.heap.size:=(cN.1 r).1;refine⟨λi h1 F=>?_,λb a f=>?_,λb b' c a N O Q k h=>?_,λd b a v=>?_⟩
 ·have n:i≠t:=λe=>by subst e;rw[o]at h1;cases h1
  rw[eK,if_neg n];exact S.plain i h1 F
 ·by_cases n:b=t
  ·subst n;refine⟨(iK cs.toList off xs).toArray,g,(iK cur.toList off us).toArray,ty,by simp[il],p,E,?_,by simpa using PC G hx,m⟩;exact setRow_heap w g cur _ ty (0,0) r
  ·rw[eK,if_neg n]at f;obtain⟨R,c,P,x,k,h,z,B,C,D⟩:=S.box b a f;have y:c≠g:=λe=>by subst e;exact n (S.apart b t c a o f hp h p)
   exact⟨R,c,P,x,by rw[eK,if_neg n];exact k,h,z,by rw[setRow_other w g c _ y];exact B,C,D⟩
 ·have q:∀b,il s t (.agg (iK cs.toList off xs).toArray) b≠fI->s b≠fI:=by
   intro b a;by_cases n:b=t
   ·subst n;exact hp
   ·rw[eK,if_neg n]at a;exact a
  exact S.apart b b' c a N (q b O) (q b' Q) k h
 ·have n:d≠t:=λe=>by subst e;have:=(hw d b a).2;rw[o]at this;cases this
  rw[eK,if_neg n]at v;obtain⟨I,J,j,c,K,L,M⟩:=S.ET d b a v;refine⟨I,?_,j,c,by rw[eK,if_neg n];exact K,L,M⟩;by_cases u:b=t
  ·subst u;simp[il]
  ·rw[eK,if_neg u];exact J
end
end Am
namespace Am
open Go
section
variable {A : iG} {φ : dS} {h h' : a9} {w : World} {base lo : Nat} {loc pb : List Nat} {env : List (Nat × Nat)} {s : Nat -> Value} {a : Act}
def IY(A:iG)(pb:List Nat)(env:List (Nat×Nat))(φ:dS)(c:Nat->Value)(h:a9)(w:World)(h':a9)(base lo:Nat)(fr:Bool)(n:Nat)(b:Array Value)(w':World):Prop:=
 b.size=n∧∃a,SR A pb env a c b w' lo∧bG A a h' w' base∧Ext lo φ h w a h' w'∧(fr=true∨Ext w.heap.size φ h w a h' w')
def KR(A:iG)(pb:List Nat)(env:List (Nat×Nat))(φ:dS)(b:Nat->Value)(h:a9)(w:World)(h':a9)(base lo:Nat)(fr:Bool)(a:Act)(o:Oper):Prop:=
 ∃r w',(execOp a.eval o).run A.P w=.ok r w'∧((∃u,r=Next.value u∧IY A pb env φ b h w h' base lo fr a.tmps.size (a.put o.dst u).tmps w')∨(r=Next.skip∧IY A pb env φ b h w h' base lo fr a.tmps.size (a.put o.dst undef).tmps w'))
theorem uS(a:Act)(d:Option Tmp)(u:Value):(a.put d u).tmps.size=a.tmps.size:=by cases d<;>simp[Act.put]
theorem SR.ajV{tm:Array Value}{d:Option Nat}{v u:Value}(S:SR A pb env φ s a.tmps w lo)(e:∀i,d=some i->i<a.tmps.size∧pb.contains i=false∧iq env i=none)(f:VR A φ v u):
  SR A pb env φ (pT s d v) (a.put d u).tmps w lo:=by
 cases d with
 |none=>exact S
 |some i=>obtain⟨h1,b,c⟩:=e i rfl;exact S.put h1 b c f
theorem SV{o:Oper}{p:Op}{v:Value}(q:kV A)(S:SR A pb env φ s a.tmps w lo)(H:bG A φ h w base)(z:base<=lo)(e:lo<=w.heap.size)(j:∀b,h.length<=b->b<h'.length->φ b=none)
  (hn:kJ A loc pb env o.op=some p) (B:∀f args ts,o.op≠.call {callee:=.value f,args:=args,argTypes:=ts}) (m:∀i,o.dst=some i->i<a.tmps.size∧pb.contains i=false∧iq env i=none)
  (t:dA (lW s) h p=some (v,h')) (fr:Bool):KR A pb env φ (pT s o.dst v) h w h' base lo fr a o:=by
 obtain⟨dst,op,ty,pos,after,guard⟩:=o;obtain⟨r,w',d,n,C,l,c⟩:=ajU (dst:=dst) (ty:=ty) (pos:=pos) (after:=after) (guard:=guard) q H (a7 z e) (λhl=>j _ (aa _) hl) (ρa:=lW s) (λ_=>rfl) (λ_=>rfl)
  (λx y g=>tC S g) B hn t
 have k:=S.move c H.low;refine⟨r,w',n,?_⟩;rcases C with⟨u,rfl,D⟩|⟨rfl,rfl⟩
 ·exact .inl ⟨u,rfl,uS _ _ _,d,SR.ajV (tm:=a.tmps) k m D,l,c.Nk e,.inr c⟩
 ·exact .inr ⟨rfl,uS _ _ _,d,SR.ajV (tm:=a.tmps) k m VR.fI,l,c.Nk e,.inr c⟩
theorem O2{e:TypeId}{u:Value}(w:World):(newVar e u).run A.P w=.ok ⟨w.heap.size,0,none⟩ (w.alloc (.cells u.cells e)):=by simp[newVar,newRow]
theorem WB{o:Oper}{d:Option Nat}{p:Op}{v:Value}(hw:AO pb env)(S:SR A pb env φ s a.tmps w lo)(H:bG A φ h w base)(hb:base<=lo)(Y:lo<=w.heap.size)
  (hn:yN A loc pb env o.dst o.op=some (d,p)) (wE:∀i,o.dst=some i->∀e,iq env e=some i->s e=fI) (K:∀i,o.dst=some i->i<a.tmps.size)
  (B:dA (lW s) h p=some (v,h')):KR A pb env φ (pT s d v) h w h' base lo (gP p) a o:=by
 obtain⟨dst,op,ty,pos,after,guard⟩:=o;simp only at hn wE K;unfold yN at hn;cases op with
 |alloc e=>
  simp only at hn;split at hn
  ·rename_i t;split at hn
   ·rename_i qK;cases Z:nG A e with
    |none=>simp[Z]at hn
    |some z=>
     simp only[Z,gB]at hn;split at hn
     ·injection hn with hn;injection hn with C D;subst C;subst D;simp only[dA,lW,aI,cF]at B;obtain⟨rfl,rfl⟩:=B;obtain⟨i,u,hi,h0,T⟩:=qG (φ:=φ) Z;obtain⟨P,Q⟩:=HC (.cells u.cells e) H;refine⟨.value (.pointer (some ⟨w.heap.size,0,none⟩)),w.alloc (.cells u.cells e),?_,.inl ⟨_,rfl,uS _ _ _,φ,?_,P,Q.Nk Y,.inl rfl⟩⟩
      ·simp[execOp,Instr.alloc,zeroValue,typeInfo,hi,h0,O2]
      ·exact S.make (K t rfl) qK (wE t rfl) hw H.low Y (by simpa using T)
     ·simp at hn
   ·simp at hn
  ·simp at hn
 |box e x=>
  simp only at hn;split at hn
  ·rename_i t n y h1 E;split at hn
   ·rename_i qK;injection hn with hn;injection hn with C D;subst C;subst D;simp only[dA]at B;obtain⟨q,he⟩:=ji B;subst he;have T:=tC S E;unfold KT at q;split at q
    ·rename_i cs M;split at q
     ·rename_i hlen;injection q with q;subst q;have R:=zF M T;obtain⟨P,Q⟩:=HC (.cells (a.eval x).cells e) H;refine⟨.value (.pointer (some ⟨w.heap.size,0,none⟩)),w.alloc (.cells (a.eval x).cells e),?_,.inl ⟨_,rfl,uS _ _ _,φ,?_,P,Q.Nk Y,.inl rfl⟩⟩
      ·simp[execOp,Instr.box,O2]
      ·exact S.make (K t rfl) qK (wE t rfl) hw H.low Y (by simpa using R)
     ·simp at q
    ·simp at q
   ·simp at hn
  ·simp at hn
 |fieldAddr t x f=>
  simp only at hn;split at hn
  ·rename_i N J y fs h1 E;split at hn
   ·rename_i fd O;split at hn
    ·rename_i m h4;split at hn
     ·rename_i Oi;injection hn with hn;injection hn with C D;subst C;subst D;simp only[dA]at B;obtain⟨q,he⟩:=ji B;subst he;simp only[Nat.one_ne_zero,if_false,AB]at q;cases r:zj (lW s y)with
      |none=>simp[r]at q
      |some n=>
       simp[r]at q;subst q;obtain⟨L,G,off,g,rfl,I,F⟩:=FP S h1 r;refine⟨.value (.pointer (some ⟨g,off+fd.offset,none⟩)),w,?_,.inl ⟨_,rfl,uS _ _ _,φ,?_,H,Ext.refl _ _ _ _,.inl rfl⟩⟩
       ·simp only[execOp,Instr.fieldAt,Sem.run_bind,run_underlying E,Result.andThen_ok,O,I,Instr.sureAddr,fieldPlace,run_sizeOf h4];simp[Addr.add_lit]
       ·have:=S.amj (off:=off+fd.offset) (K N rfl) hw Oi G F;simpa [Act.put,pT]using this
     ·simp at hn
    ·simp at hn
   ·simp at hn
  ·simp at hn
 |indexAddr t x i=>
  simp only at hn;split at hn
  ·rename_i N J y nn e i' h1 E O;cases hs:fj A e with
   |none=>simp[hs]at hn
   |some z=>
    simp only[hs,gB]at hn;split at hn
    ·rename_i Oi;cases R:pX nn z with
     |none=>simp[R]at hn
     |some c=>
      simp only[R,dC]at hn;injection hn with hn;injection hn with C D;subst C;subst D;simp only[dA]at B;obtain⟨q,he⟩:=ji B;subst he;obtain⟨_,Z,q1,q2,q3⟩:=yD R;have U:=tC S O;simp only[if_true]at q;unfold C6 at q;split at q
      ·rename_i k j hj;rw[hj]at U;have ei:=VR.mV U;split at q
       ·rename_i mN;cases r:zj (lW s y)with
        |none=>simp[r]at q
        |some n=>
         simp[r]at q;subst q;obtain⟨L,G,off,g,rfl,I,F⟩:=FP S h1 r;rw[q1]at mN;refine⟨.value (.pointer (some ⟨g,off+j.toNat*z,none⟩)),w,?_,.inl ⟨_,rfl,uS _ _ _,φ,?_,H,Ext.refl _ _ _ _,.inl rfl⟩⟩
         ·simp only[execOp,Instr.indexAt,Sem.run_bind,I,ei,asIntOf,Sem.run_pure,run_underlying E,Result.andThen_ok,Instr.sureAddr];simp[mN.2.1,mN.2.2,run_sizeOf hs,Addr.add_lit,run_underlying E]
         ·have:=S.amj (off:=off+j.toNat*z) (K N rfl) hw Oi G F;have ej:(j.toNat:Int)=j:=by omega
          have ec:(c:Int)%1000=z:=by omega
          simpa [Act.put,pT,ej,ec]using this
       ·simp at q
      ·simp at q
    ·simp at hn
  ·simp at hn
 |load t x=>
  simp only at hn;split at hn
  ·rename_i N J y n h1 E;split at hn
   ·simp at hn
   ·rename_i oS;simp only[dq,not_or,o6,ot,kX]at oS;injection hn with hn;injection hn with C D;subst C;subst D;simp only[dA]at B;obtain⟨q,he⟩:=ji B;subst he;simp only[ax,if_false]at q;unfold Gj at q;cases r:zj (lW s y)with
    |none=>simp[r]at q
    |some m=>
     simp only[r]at q;obtain⟨L,G,off,g,rfl,I,F⟩:=FP S h1 r;obtain⟨cs,g',cur,Dn,b1,b2,b3,V,W,b6⟩:=S.box J L G;rw[F]at b2;injection b2 with b2;injection b2 with b2;injection b2 with b2;subst b2;rw[if_pos (by omega)]at q;have e3:lW s (.tmp J)=.agg cs:=b1;rw[e3]at q;have X:((off:Int)).toNat=off:=by omega
     rw[X]at q;obtain⟨u,di,hu⟩:=RK E V W q;refine⟨.value u,w,?_,.inl ⟨_,rfl,uS _ _ _,φ,?_,H,Ext.refl _ _ _ _,.inl rfl⟩⟩
     ·simp[execOp,Instr.loadAt,Instr.sureAddr,I,di]
     ·exact S.put (K N rfl) oS.1 oS.2 hu
  ·simp at hn
 |store t x v'=>
  simp only at hn;split at hn
  ·rename_i J y n z h1 E O;injection hn with hn;injection hn with C D;subst C;subst D;simp only[dA]at B;obtain⟨q,he⟩:=ji B;subst he;have T:=tC S O;unfold Ml at q;split at q
   ·rename_i cs o xs M r JP;obtain⟨L,G,off,g,rfl,I,F⟩:=FP S h1 r;obtain⟨xY,g',cur,Dn,b1,b2,b3,V,W,b6⟩:=S.box J L G;rw[F]at b2;injection b2 with b2;injection b2 with b2;injection b2 with b2;subst b2;have e3:lW s (.tmp J)=.agg xY:=b1;rw[e3]at M;injection M with M;subst M;split at q
    ·rename_i mw;injection q with q;subst q;have hx:=zF JP T;have hl:=W.length;simp only[j8]at hl;have hxl:=hx.length;have hlen:(a.eval v').cells.size=n:=by simp at hxl;omega
     have X:((off:Int)).toNat=off:=by omega
     rw[X]at mw;have ft:=aea (A:=A) (off:=off) E V (by omega) hlen (tq hx);have P:bG A φ h (w.setRow g (iK cur.toList off (a.eval v').cells.toList).toArray) base:=H.others (by simp[World.setRow]) λb l hb=>setRow_other w g _ _ (b6 b l hb);have Q:Ext lo φ h w φ h (w.setRow g (iK cur.toList off (a.eval v').cells.toList).toArray):=Ext.others (by simp[World.setRow]) (λg' vD=>setRow_other w g g' _ (by omega)) rfl rfl rfl;refine⟨.skip,_,?_,.inr ⟨rfl,uS _ _ _,φ,?_,P,Q,.inl rfl⟩⟩
     ·simp[execOp,Instr.storeAt,Instr.sureAddr,I,ft]
     ·have:=S.store (off:=off) hw L b1 F V W hx b3 b6;simpa [X,pT,Act.put]using this
    ·simp at q
   ·simp at q
  ·simp at hn
 |_=>simp at hn
theorem adL{o p:Op}(a:∀f args ts,o≠.call {callee:=.value f,args:=args,argTypes:=ts})(hn:kJ A loc pb env o=some p)(ρ:Operand->Value):kt ρ p=none:=by
 cases o with
 |call c=>
  obtain⟨callee,args,ts⟩:=c;cases callee with
  |value f=>exact absurd rfl (a f args ts)
  |invoke r m=>simp[kJ]at hn
  |builtin b=>
   simp only[kJ]at hn
   repeat' split at hn
   all_goals first
    |(simp at hn;done)
    |(injection hn with hn;subst hn;rfl)
 |makeFunc f first d=>
  cases f<;>simp only[kJ]at hn
  all_goals (repeat' split at hn)
  all_goals first
   |(simp at hn;done)
   |(injection hn with hn;subst hn;rfl)
 |_=>
  simp only[kJ]at hn
  all_goals (repeat' split at hn)
  all_goals first
   |(simp at hn;done)
   |(injection hn with hn;subst hn;rfl)
   |(simp only[bF,gl]at hn;obtain⟨_,_,rfl⟩:=hn;rfl)
   |(simp only[bF,gl]at hn;obtain⟨_,_,_,_,rfl⟩:=hn;rfl)
   |(simp only[bF,gl]at hn;obtain⟨_,_,hn⟩:=hn;(repeat' split at hn)<;>first|(simp at hn;done)|(injection hn with hn;subst hn;rfl)|(simp only[bF,gl]at hn;obtain⟨_,_,rfl⟩:=hn;rfl))
theorem aeK{o:Oper}{p:Op}{v:Value}{call:oh}{f:Nat}{args:List Value}{fr:Bool}{K:Act->World->Prop}{Q:Exit->Act->World->Prop}(R:zu A base call)(S:SR A pb env φ s a.tmps w lo)(H:bG A φ h w base)(V:base<=lo)(D:lo<=w.heap.size)
  (t:∀b,h.length<=b->b<h'.length->φ b=none) (hn:kJ A loc pb env o.op=some p) (F:∀i,o.dst=some i->i<a.tmps.size∧pb.contains i=false∧iq env i=none)
  (d:kt (lW s) p=some (f,args)) (U:call f args h=some (v,h'))
  (E:∀I w',IY A pb env φ (pT s o.dst v) h w h' base lo fr a.tmps.size I w'->K ⟨I,a.defers⟩ w'):o.wp A.P a w K Q:=by
 obtain⟨dst,op,ty,pos,after,guard⟩:=o;simp only at hn F E;have key:∃j c ts k l,op=.call {callee:=.value j,args:=c,argTypes:=ts}∧cV A loc pb env j=some k∧uF A loc pb env c.toList=some l∧p=.call {callee:=.value k,args:=l.toArray,argTypes:=#[]}:=by
  by_cases C:∃j c ts,op=.call {callee:=.value j,args:=c,argTypes:=ts}
  ·obtain⟨j,c,ts,rfl⟩:=C;simp only[kJ]at hn
   grind
  ·rw[adL (λf args ts e=>C ⟨f,args,ts,e⟩) hn]at d;simp at d
 obtain⟨j,c,ts,k,l,rfl,h1,O,rfl⟩:=key;simp only[kt]at d;split at d
 ·rename_i g0 first Z X
  injection d with d;injection d with M N;subst M;subst N;have G:=tC S h1;rw[X]at G;obtain⟨g,us,vs,W,q,J,m⟩:=VR.UK G;have qm:=w7 (ρa:=lW s) (ρm:=a.eval) (λx y r=>tC S r) O;have Y:cM (VR A φ) (first.toList++(l.toArray.toList.map (lW s)++Z.toList)) (us.toList++(c.toList.map a.eval++vs.toList)):=by
   refine cM.append (J.mono λx u hx=>?_) (cM.append (by simpa using qm) (m.mono λx u hx=>?_))
   ·cases x<;>first|exact hx.elim|skip
    obtain⟨ws,rfl,hw⟩:=hx;exact⟨ws,rfl,hw.mono λy z hy=>by cases y<;>first|exact hy|exact hy.elim⟩
   ·cases x<;>first|exact hx|exact hx.elim
  obtain⟨di,L⟩:=R _ _ _ _ _ g φ w _ U q H (a7 V D) t Y;have hx:(execOp a.eval {dst:=dst,op:=.call {callee:=.value j,args:=c,argTypes:=ts},type:=ty,pos:=pos,after:=after,guard:=guard}).run A.P w=.ok (.enter g (us.toList++(c.toList.map a.eval++vs.toList)).toArray) w:=by
   have e:us++c.map a.eval++vs=(us.toList++(c.toList.map a.eval++vs.toList)).toArray:=by apply iU;simp
   simp only[execOp,resolve,Sem.run_bind,W,Deferred.ofValue,Sem.run_pure,Result.andThen_ok,invoke]
   grind
  unfold Oper.wp;rw[hx,Oper.upon_enter];refine Calls.mono L ?_;rintro e w'⟨u,B,rfl,hu,T,n⟩;have:=SR.ajV (tm:=a.tmps) (S.move n H.low) F hu;have EP:=E (a.put dst u).tmps w' ⟨uS _ _ _,B,this,T,n.Nk D,.inr n⟩;have:(⟨(a.put dst u).tmps,a.defers⟩:Act)=a.put dst u:=by cases dst<;>rfl
  grind
 ·simp at d
theorem Qm{dst d:Option Nat}{o p:Op}(hn:yN A loc pb env dst o=some (d,p))(ρ:Operand->Value):kt ρ p=none:=by
 cases o<;>simp only[yN]at hn
 all_goals (repeat' split at hn)
 all_goals first
  |(simp at hn;done)
  |(injection hn with hn;injection hn with b a;subst a;rfl)
  |(simp only[gl]at hn;obtain⟨_,_,hn⟩:=hn;(repeat' split at hn)<;>first|(simp at hn;done)|(injection hn with hn;injection hn with b a;subst a;rfl)|(simp only[bF]at hn;obtain⟨_,_,hn⟩:=hn;injection hn with b a;subst a;rfl))
theorem KR.wp{fr:Bool}{o:Oper}{e:Nat->Value}{K:Act->World->Prop}{Q:Exit->Act->World->Prop}(x:KR A pb env φ e h w h' base lo fr a o)
  (d:∀f w',IY A pb env φ e h w h' base lo fr a.tmps.size f w'->K ⟨f,a.defers⟩ w'):o.wp A.P a w K Q:=by
 have c:∀u,(⟨(a.put o.dst u).tmps,a.defers⟩:Act)=a.put o.dst u:=λu=>by cases o.dst<;>rfl
 obtain⟨r,w',g,i⟩:=x;unfold Oper.wp;rw[g];rcases i with⟨u,rfl,b⟩|⟨rfl,b⟩
 ·rw[Oper.upon_value,<-c];exact d _ _ b
 ·rw[Oper.upon_skip,<-c];exact d _ _ b
theorem afl{ops:Array Oper}{g r:Option (Nat×Bool)}{b:Bool}(S:SR A pb env φ s a.tmps w lo)(k:yo loc ops g=some r)(i:qu s r=some b)(o:Oper)(u:o.guard=g):Region.wanted o (yielded ops a.tmps)=b:=by
 unfold Region.wanted;rw[u];cases g with
 |none=>
  simp only[yo,aI]at k;subst k;simpa [qu]using i
 |some v=>
  obtain⟨j,want⟩:=v;simp only[yo]at k;cases m:(ops[j]?).bind (·.dst)with
  |none=>simp[m]at k
  |some d=>
   simp only[m]at k;injection k with k;subst k;have e:∀d:Nat,(4*d+(if own loc d then 1 else 0))/4=d:=by intro d;split<;>omega
   simp only[qu,e d]at i;split at i
   ·rename_i c h;injection i with i;subst i;have q:pb.contains d=false:=by
     cases hp:pb.contains d with
     |false=>rfl
     |true=>
      obtain⟨cs,_,_,_,f,_⟩:=S.box d hp (by rw[h];simp);rw[h]at f;cases f
    have n:iq env d=none:=by
     cases p:iq env d with
     |none=>rfl
     |some x=>
      obtain⟨_,_,_,_,f,_⟩:=S.ET d x p (by rw[h];simp);rw[h]at f;cases f
    have:=S.plain d q n;rw[h]at this;have:=VR.Al this;have t:a.tmps[d]?=some (.bool c):=by
     rw[cg]at this;cases l:a.tmps[d]? with
     |none=>rw[l]at this;simp[undef]at this
     |some x=>rw[l]at this;simpa using this
    simp only[yielded,m,gB,t]
    grind
   ·rename_i xs h;injection i with i;subst i;have q:pb.contains d=false:=by
     cases hp:pb.contains d with
     |false=>rfl
     |true=>
      obtain⟨cs,_,_,_,f,_⟩:=S.box d hp (by rw[h];simp);rw[h]at f;cases f
    have n:iq env d=none:=by
     cases p:iq env d with
     |none=>rfl
     |some x=>
      obtain⟨_,_,_,_,f,_⟩:=S.ET d x p (by rw[h];simp);rw[h]at f;cases f
    have:=S.plain d q n;rw[h]at this;obtain⟨vs,h1,_⟩:=this;have t:yielded ops a.tmps j=none:=by
     unfold yielded;rw[m];cases l:a.tmps[d]? with
     |none=>simp[l]
     |some x=>
      simp_all
    grind
   ·simp at i
theorem RS{ops:Array Oper}{g a:Option (Nat×Bool)}{d:Nat}(b:yo loc ops g=some a):qu s (H6 pb env ops d a)=qu s a:=by
 cases a with
 |none=>rfl
 |some c=>
  obtain⟨i,w⟩:=c;have hi:(i+2)/4=i/4:=by
   cases g with
   |none=>simp[yo]at b
   |some e=>
    obtain⟨j,want⟩:=e;simp only[yo]at b
    grind
  simp only[H6];split
  ·simp only[qu,hi]
  ·rfl
theorem RR{ops:Array Oper}{g a:Option (Nat×Bool)}{d:Nat}(b:yo loc ops g=some a):jr (H6 pb env ops d a)=fI∨jr (H6 pb env ops d a)=.tuple #[]∧pb.contains d=false∧iq env d=none:=by
 cases a with
 |none=>exact .inl rfl
 |some e=>
  obtain⟨i,w⟩:=e;simp only[H6];split
  ·rename_i c;simp only[aH,fp,kX]at c;simp only[jr]
   grind
  ·left;simp only[jr];rw[if_neg];cases g with
   |none=>simp[yo]at b
   |some f=>
    obtain⟨j,want⟩:=f;simp only[yo]at b
    grind
theorem Dm{ops:Array Oper}{i:Nat}{o p p0:Oper}{v:Value}{qz:a9->a9->Bool}{call:oh}{K:Act->World->Prop}{Q:Exit->Act->World->Prop}(hE:kV A)(hC:zu A base call)(hw:AO pb env)
  (S:SR A pb env φ s a.tmps w lo) (H:bG A φ h w base) (G:base<=lo) (E:lo<=w.heap.size) (x:∀b,h.length<=b->b<h'.length->φ b=none)
  (hi:ops[i]?=some o) (hn:FO A loc pb env ops o=some p0) (D:p.dst=p0.dst) (X:p.op=p0.op) (Y:p.guard=p0.guard)
  (T:∀i,o.dst=some i->∀e,iq env e=some i->s e=fI) (j:∀i,o.dst=some i->i<a.tmps.size) (t:ni qz call s h p=some (v,h'))
  (l:∀R w',IY A pb env φ (pT s p.dst v) h w h' base lo (gP p.op) a.tmps.size R w'->K ⟨R,a.defers⟩ w'):wpOp A.P ops Q i K a w:=by
 unfold wpOp;rw[hi];simp only;unfold FO at hn;cases r:yo loc ops o.guard with
 |none=>simp[r]at hn
 |some g=>
  simp only[r]at hn;have y:qu s p.guard=qu s g∧∀d,p.dst=some d->(jr p.guard=fI∨jr p.guard=.tuple #[]∧pb.contains d=false∧iq env d=none):=by
   rw[Y,D];split at hn
   ·split at hn
    ·simp at hn
    ·split at hn
     ·injection hn with hn;subst hn;exact⟨RS r,λd j=>by simp only[op,aI]at j ⊢;subst j;exact RR r⟩
     ·simp at hn
   ·split at hn
    ·split at hn
     ·split at hn
      ·simp at hn
      ·injection hn with hn;subst hn;exact⟨RS r,λd j=>by simp only[op,aI]at j ⊢;subst j;exact RR r⟩
     ·injection hn with hn;subst hn;exact⟨rfl,λd j=>by simp[DQ]at j⟩
    ·simp at hn
  obtain⟨W,y⟩:=y;unfold ni at t;rw[W]at t;cases k:qu s g with
  |none=>simp[k]at t
  |some b=>
   have C:=afl (a:=a) S r k o rfl;rw[C];have EO:∀u,(⟨(a.put o.dst u).tmps,a.defers⟩:Act)=a.put o.dst u:=λu=>by cases o.dst<;>rfl
   cases b with
   |false=>
    simp only[k,aI,cF]at t;obtain⟨rfl,rfl⟩:=t;simp only[ax,if_false];have V:p.dst=o.dst:=by
     rw[D];split at hn
     ·split at hn
      ·simp at hn
      ·rename_i O;have B:g.isSome=true:=by cases g with|none=>simp[qu]at k|some _=>rfl
       simp only[B,iN,bne_iff_ne,ne_eq,Decidable.not_not]at O;split at hn
       ·injection hn with hn;subst hn;exact O
       ·simp at hn
     ·split at hn
      ·split at hn
       ·rename_i c;split at hn
        ·simp at hn
        ·injection hn with hn;subst hn;exact c.symm
       ·rename_i c;injection hn with hn;subst hn;exact c.symm
      ·simp at hn
    rw[V]at l y;have F:SR A pb env φ (pT s o.dst (jr p.guard)) (a.put o.dst undef).tmps w lo:=by
     cases c:o.dst with
     |none=>exact S
     |some d=>
      rcases y d c with q|⟨q,q1,q2⟩
      ·rw[q];exact S.drop (j d c) (T d c) hw undef
      ·rw[q];exact S.put (j d c) q1 q2 ⟨#[],rfl,trivial⟩
    have:=l _ w ⟨uS a o.dst undef,φ,F,H,Ext.refl _ _ _ _,.inr (Ext.refl _ _ _ _)⟩
    grind
   |true=>
    simp only[k]at t;simp only[if_true];refine .inl ?_;have m:(match kt (lW s) p.op with|some (f,args)=>call f args h|none=>dA (lW s) h p.op)=some (v,h'):=by
     unfold pY at t
     grind
    rw[X]at m l;rw[D]at l;split at hn
    ·rename_i d q L;split at hn
     ·simp at hn
     ·split at hn
      ·rename_i d';injection hn with hn;subst hn;simp only[op]at m l;rw[Qm L]at m;exact(WB (base:=base) hw S H G E L T j m).wp l
      ·simp at hn
    ·split at hn
     ·rename_i q n;have I:∀i,o.dst=some i->i<a.tmps.size∧pb.contains i=false∧iq env i=none:=by
       intro i hoi
       simp_all
      have N:p0.op=q∧p0.dst=o.dst:=by
       split at hn
       ·rename_i c;split at hn
        ·simp at hn
        ·injection hn with hn;subst hn;exact⟨rfl,c.symm⟩
       ·rename_i c;injection hn with hn;subst hn;exact⟨rfl,c.symm⟩
      rw[N.1]at m l;rw[N.2]at l;cases z:kt (lW s) q with
      |some Z=>
       obtain⟨f,args⟩:=Z;simp only[z]at m;exact aeK hC S H G E x n I z m l
      |none=>
       simp only[z]at m;by_cases J:∃M U ts,o.op=.call {callee:=.value M,args:=U,argTypes:=ts}
       ·obtain⟨M,U,ts,xI⟩:=J;rw[xI]at n;simp only[kJ]at n;split at n
        ·injection n with n;subst n;simp[dA]at m
        ·simp at n
       ·exact(SV hE S H G E x n (λf args ts e=>J ⟨f,args,ts,e⟩) I m _).wp l
     ·simp at hn
end
end Am

/- Tables of functions; their link to a program. -/
import Derived.Test.YtpgioncclmancaaGreatPSim
import Derived.Laws.StructEq
import Derived.Below
import Derived.ChangeSame
import Derived.ProofKit
import Derived.WideKeyArgs
import Derived.Deep.Slices
import Derived.ChangeArms
import Derived.OpenShut
set_option linter.unusedVariables false
set_option linter.unusedSimpArgs false
namespace Am
open Go
structure Place where
 g:Nat
 f:Nat
 F:mC
 loc:List Nat
 pb:List Nat
def Forall{α:Type}(p:α->Prop):List α->Prop
 |[]=>True
 |a::l=>p a∧Forall p l
theorem Forall.mem{α:Type}{p:α->Prop}:∀{l:List α},Forall p l->∀a∈l,p a
 |b::l,h,a,c=>by
  cases c with
  |head=>exact h.1
  |tail _ h'=>exact h.2.mem a h'
def PN(A:iG)(r:Place):Prop:=(∃fn,A.P.funcs[r.g]?=some fn∧MP A r.loc r.pb fn=some r.F)∨∀base,GA A base r.g r.F
def Ll:List Place->Tab
 |[]=>[]
 |r::l=>(r.f,r.F)::Ll l
def agw(ν:List Nat)(rows:List Place):Bool:=ν.zipIdx.all λ(n,g)=>match n with
 |0=>true
 |f+1=>match rows.find? (·.f==f)with
  |some r=>r.g==g
  |none=>true
theorem OS:∀{rows:List Place} {f:Nat} {F:mC},look (Ll rows) f=some F->∃r,rows.find? (·.f==f)=some r∧r.F=F∧r∈rows
 |[],f,F,h=>by simp[Ll,look]at h
 |r::l,f,F,h=>by
  simp only[Ll,look]at h;by_cases a:r.f=f
  ·rw[if_pos a]at h;injection h with h;exact⟨r,by simp[List.find?_cons,a],h,by simp⟩
  ·rw[if_neg a]at h;obtain⟨q,h1,b,c⟩:=OS h;exact⟨q,by simp[List.find?_cons,a,h1],b,by simp[c]⟩
theorem am8{A:iG}{base:Nat}{rows:List Place}(hp:agw A.ν rows=true)(e:Forall (PN A) rows):I2 A base (look (Ll rows)):=by
 intro f F g d a;obtain⟨r,h1,rfl,b⟩:=OS d;unfold FM at a;split at a
 ·rename_i n hn;injection a with a;subst a;have:=sI hp g (n+1) hn;simp only[h1,beq_iff_eq]at this;rcases e.mem r b with⟨fn,c,h⟩|c
  ·grind
  ·grind
 ·simp at a
theorem VD:∀{T:Tab} {f:Nat} {F:mC},look T f=some F->(f,F)∈T
 |[],f,F,h=>by simp[look]at h
 |(k,G)::l,f,F,h=>by
  simp only[look]at h;by_cases a:k=f
  ·rw[if_pos a]at h;injection h with h;subst a;subst h;simp
  ·rw[if_neg a]at h;exact j5 _ (VD h)
theorem aE3{A:iG}{base:Nat}{rows:List Place}{T:Tab}(hp:agw A.ν rows=true)(s:Forall (PN A) rows)(i:Forall (λr=>look T r.f=some r.F) rows)
  (t:(T.all λp=>(rows.any λr=>r.f==p.1)||!(A.ν.contains (p.1+1)))=true):I2 A base (look T):=by
 intro f F g e b;have o:=b;unfold FM at b;split at b
 ·rename_i n hn;injection b with b;subst b;have hm:=bV.1 t _ (VD e);have u:A.ν.contains (n+1)=true:=by
   grind
  simp only[u,kN,Bool.or_false,List.any_eq_true,beq_iff_eq]at hm;obtain⟨r,j,k⟩:=hm;have h1:=i.mem r j;rw[k,e]at h1;injection h1 with h1;have l:=sI hp g (n+1) hn;cases a:rows.find? (·.f==n)with
  |none=>
   grind
  |some q=>
   simp only[a,beq_iff_eq]at l;have h:=mR a;have c:=List.find?_some a;simp only[beq_iff_eq]at c;have d:=i.mem q h;rw[c,e]at d;injection d with d;rcases s.mem q h with⟨fn,m,v⟩|m
   ·grind
   ·grind
 ·simp at b
theorem aD0{P:Program}{ν:List Nat}:kV ⟨P,ν,[]⟩:=λt h=>by simp at h
end Am
namespace Am
open Go
def D1(P:Program):List Field->Nat->Bool
 |[],_=>true
 |f::r,i=>f.name != "_" &&(f.offset==i&&((match P.underlying f.type with|some (.int _)=>true|_=>false)&&D1 P r (i+1)))
def szP(P:Program)(t:TypeId):Option Nat:=(P.info? t).map (·.size)
def pL(P:Program):List Field->Nat->Option Nat
 |[],i=>some i
 |f::r,i=>if f.name != "_" &&f.offset==i then
   (match P.underlying f.type with
   |some (.int _)=>pL P r (i+1)
   |some (.struct fs)=>if D1 P fs.toList 0&&(!P.stoodInHeld f.type&&szP P f.type==some fs.size)then pL P r (i+fs.size)else none
   |_=>none)else none
def UE(P:Program)(t:TypeId):Bool:=match P.underlying t with
 |some (.struct a)=>(pL P a.toList 0).isSome&&(!P.stoodInHeld t&&!P.eqGuardType P.depth t)
 |_=>false
section
variable {P : Program}
theorem toList_data(s:ByteArray):s.toList=s.data.toList:=ByteArray.toList_eq s
theorem IG(d:Nat)(xs b:Array Value)(w:World):∀(c:List Field) (i:Nat) (r:Bool),D1 P c i=true->gF (xs.toList.drop i) (b.toList.drop i)=some r->xs.size=i+c.length->
  (Op.eqFields (d+1) xs b c).run P w=.ok r w
 |[],i,r,_,he,g=>by
  have E:xs.toList.drop i=[]:=dz (by simp at g ⊢;omega);rw[E]at he;cases hy:b.toList.drop i with
  |nil=>rw[hy]at he;simp[gF]at he;subst he;simp[Op.eqFields]
  |cons y l=>rw[hy]at he;simp[gF]at he
 |f::c,i,r,z,he,g=>by
  simp only[D1,aH,bne_iff_ne,ne_eq,beq_iff_eq]at z;obtain⟨hn,B,A,F⟩:=z;have hi:i<xs.toList.length:=by simp at g ⊢;omega
  rw[bt hi]at he;cases hy:b.toList.drop i with
  |nil=>rw[hy]at he;cases G:xs.toList[i]<;>rw[G]at he<;>simp[gF]at he
  |cons y l=>
   have e:i<b.toList.length:=by
    by_cases h:i<b.toList.length
    ·exact h
    ·rw[dz (by omega)]at hy;cases hy
   rw[bt e]at hy;injection hy with C t;rw[<-C]at*;subst t;have s:xs[f.offset]?=some (xs.toList[i]):=by rw[B];simp at hi;simp[hi]
   have u:b[f.offset]?=some (b.toList[i]):=by rw[B];simp at e;simp[e]
   rw[bt e]at he;unfold Op.eqFields;rw[if_pos hn];cases hu:P.underlying f.type with
   |none=>simp[hu]at A
   |some k=>
    cases k with
    |int kd=>
     unfold gF at he;split at he
     ·rename_i m v;simp at m
     ·rename_i H a x L b' y' m v;injection m with n o;injection v with K p;subst o;subst p;split at he
      ·rename_i D;subst D;cases q:gF (xs.toList.drop (i+1)) (b.toList.drop (i+1))with
       |none=>simp[q]at he
       |some J=>
        simp only[q,dC,aI]at he;have ih:=IG d xs b w c (i+1) J F q (by simp at g;omega);have pa:(part f.type xs f.offset).run P w=.ok xs.toList[i] w:=by simp[part,isAgg,run_underlying hu,s]
        have pb:(part f.type b f.offset).run P w=.ok b.toList[i] w:=by simp[part,isAgg,run_underlying hu,u]
        have I:(Op.equalIn (d+1) f.type xs.toList[i] b.toList[i]).run P w=.ok (a==b') w:=by rw[n,K];exact run_equalIn_int w d f.type H kd a b' hu
        simp only[Sem.run_bind,pa,pb,I,Result.andThen_ok];by_cases j:a=b'
        ·subst j;simp only[beq_self_eq_true,kN,ax,if_false];rw[ih,<-he];simp
        ·have:(a==b')=false:=by simp[j]
         rw[this];simp[<-he,j]
      ·simp at he
     ·simp at he
    |_=>simp[hu]at A
theorem YU{t:TypeId}{n:Nat}(h:szP P t=some n)(w:World):(Go.sizeOf t).run P w=.ok n w:=by
 unfold szP at h;cases hi:P.info? t with
 |none=>simp[hi]at h
 |some i=>simp[hi]at h;subst h;simp[Go.sizeOf,typeInfo,hi]
theorem Dz:∀(n:Nat) (l m:List Value) (r:Bool),gF l m=some r->n<=l.length->∃c d,gF (l.take n) (m.take n)=some c∧gF (l.drop n) (m.drop n)=some d∧r=(c&&d)∧n<=m.length
 |0,l,m,r,h,_=>⟨true,r,by simp[gF],by simpa using h,by simp,by omega⟩
 |n+1,[],m,r,h,hn=>by simp at hn
 |n+1,x::l,[],r,h,hn=>by cases x<;>simp[gF]at h
 |n+1,x::l,y::m,r,h,hn=>by
  cases x<;>cases y<;>first|(simp[gF]at h;done)|skip
  rename_i k a j b;simp only[gF]at h;split at h
  ·rename_i f;subst f;cases e:gF l m with
   |none=>simp[e]at h
   |some p=>
    simp only[e,dC,aI]at h;obtain⟨c,d,g,i,o,q⟩:=Dz n l m p e (by simpa using hn);refine⟨decide (a=b)&&c,d,?_,by simpa using i,by rw[<-h,o,Bool.and_assoc],by simp;omega⟩;simp only[nO,gF,if_true,g,dC]
  ·simp at h
theorem K9:∀(a:List Field) (i n:Nat),pL P a i=some n->i<=n
 |[],i,n,h=>by simp[pL]at h;omega
 |f::a,i,n,h=>by
  simp only[pL]at h;split at h
  ·split at h
   ·have:=K9 a _ _ h;omega
   ·split at h
    ·have:=K9 a _ _ h;omega
    ·cases h
   ·cases h
  ·cases h
theorem DB(d:Nat)(xs b:Array Value)(w:World):∀(m:List Field) (i n:Nat) (r:Bool),pL P m i=some n->gF (xs.toList.drop i) (b.toList.drop i)=some r->xs.size=n->
  (Op.eqFields (d+2) xs b m).run P w=.ok r w
 |[],i,n,r,e,he,v=>by
  simp only[pL,aI]at e;have c:xs.toList.drop i=[]:=dz (by simp;omega);rw[c]at he;cases hy:b.toList.drop i with
  |nil=>rw[hy]at he;simp[gF]at he;subst he;simp[Op.eqFields]
  |cons y l=>rw[hy]at he;simp[gF]at he
 |f::m,i,n,r,e,he,v=>by
  simp only[pL]at e;split at e
  ·rename_i I;simp only[aH,bne_iff_ne,ne_eq,beq_iff_eq]at I;obtain⟨hn,o⟩:=I;unfold Op.eqFields;rw[if_pos hn];split at e
   ·rename_i kd hu;have hle:=K9 _ _ _ e;obtain⟨h,B,c,j,k,E⟩:=Dz 1 _ _ r he (by simp;omega);have hi:i<xs.toList.length:=by simp;omega
    have p:i<b.toList.length:=by simp at E ⊢;omega
    rw[bt hi,bt p]at c;rw[km,km]at j;simp only[nO,List.take_zero]at c;have x:xs[f.offset]?=some (xs.toList[i]):=by rw[o];simp at hi;simp[hi]
    have z:b[f.offset]?=some (b.toList[i]):=by rw[o];simp at p;simp[p]
    have pa:(part f.type xs f.offset).run P w=.ok xs.toList[i] w:=by simp[part,isAgg,run_underlying hu,x]
    have pb:(part f.type b f.offset).run P w=.ok b.toList[i] w:=by simp[part,isAgg,run_underlying hu,z]
    have A:(Op.equalIn (d+2) f.type xs.toList[i] b.toList[i]).run P w=.ok h w:=by
     unfold gF at c;split at c
     ·rename_i q G;simp at q
     ·rename_i L a x' N b' y' q G;injection q with s t;injection G with M u;subst t;subst u;split at c
      ·simp[gF]at c;rename_i J;subst J;rw[s,M,run_equalIn_int w (d+1) f.type L kd a b' hu,<-c]
       congr 1
      ·simp at c
     ·simp at c
    have ih:=DB d xs b w m (i+1) n B e j v;simp only[Sem.run_bind,pa,pb,A,Result.andThen_ok];cases h
    ·simp[k]
    ·simp only[kN,ax,if_false];rw[ih,k];simp
   ·rename_i g hu;split at e
    ·rename_i H;simp only[aH,fp,beq_iff_eq]at H;obtain⟨h1,K,F⟩:=H;have hle:=K9 _ _ _ e;obtain⟨h,B,c,j,k,E⟩:=Dz g.size _ _ r he (by simp;omega);rw[km,km]at j;have D:P.fieldsOf f.type=g:=by simp[Program.fieldsOf,hu]
     have pa:(part f.type xs f.offset).run P w=.ok (.agg (xs.extract i (i+g.size))) w:=by simp[part,isAgg,run_underlying hu,YU F,o]
     have pb:(part f.type b f.offset).run P w=.ok (.agg (b.extract i (i+g.size))) w:=by simp[part,isAgg,run_underlying hu,YU F,o]
     have ex:∀C:Array Value,(C.extract i (i+g.size)).toList=(C.toList.drop i).take g.size:=by intro C;simp[List.extract_eq_take_drop]
     have A:(Op.equalIn (d+2) f.type (.agg (xs.extract i (i+g.size))) (.agg (b.extract i (i+g.size)))).run P w=.ok h w:=by rw[run_equalIn_struct w (d+1) f.type _ _ (by rw[D];exact hu) K,D];exact IG d _ _ w g.toList 0 h h1 (by rw[kq,kq,ex,ex];exact c) (by simp;omega)
     have ih:=DB d xs b w m (i+g.size) n B e j v;simp only[Sem.run_bind,pa,pb,A,Result.andThen_ok];cases h
     ·simp[k]
     ·simp only[kN,ax,if_false];rw[ih,k];simp
    ·cases e
   ·cases e
  ·cases e
theorem afd{A:iG}(h:A.Ra.all (UE A.P)=true)(j:∀t a,A.P.underlying t=some (.struct a)->∀n,fj A t=some n->A.Ra.contains t=true->pL A.P a.toList 0=some n):kV A:=by
 intro t e n hn xs c r he hx;have b:=bV.1 h t (by simpa using e);unfold UE at b;split at b
 ·rename_i a hu;simp only[aH,fp]at b;obtain⟨h1,g,i⟩:=b;have d:A.P.fieldsOf t=a:=by simp[Program.fieldsOf,hu]
  refine⟨λo x y w=>run_eqGuard_agg w o t x y xs c i,λw=>?_⟩;have f:=run_equalIn_struct w 9999 t xs c (by rw[d];exact hu) g;unfold Op.equal Op.maxDepth;rw[f,d];exact DB 9997 xs c w a.toList 0 n r (j t a hu n hn e) (by simpa using he) hx
 ·cases b
def afg(A:iG)(t:TypeId):Bool:=match A.P.underlying t with
 |some (.struct a)=>fj A t==pL A.P a.toList 0
 |_=>true
theorem amY{A:iG}(h:A.Ra.all (UE A.P)=true)(a:A.Ra.all (afg A)=true):kV A:=
 afd h λt c hu n hn b=>by
  have:=bV.1 a t (by simpa using b);unfold afg at this;rw[hu,hn]at this;simp only[beq_iff_eq]at this;exact this.symm
end
end Am
namespace Am
open Go Go.RowKit
section
variable {A : iG} {Γ : Nat -> Option mC}
theorem RG{f g:Nat}{args us:List Value}{h:a9}{φ:dS}{w:World}(t:A.P.follows .mixedOrders=true)(n:kV A)(j:∀base,I2 A base Γ)(o:FM A g=some f)(x:aN Γ f args h λv _=>v=.bool true)
  (H:bG A φ h w w.heap.size) (c:∀(b:Nat) (k:mm),h[b]?=some k->k.rw=false) (d:∀b,h.length<=b->φ b=none) (s:cM (VR A φ) args us):
  Calls A.P g us.toArray w λe w'=>e=.returned (.bool true)∧Below w.heap.size w w':=by
 refine Calls.mono (aeh t n (j _) o x H (aa _) d s) ?_;rintro e w'⟨u,y,v,h',rfl,rfl,q,_,a⟩;have:=VR.Al q;subst this;exact⟨rfl,a.os,a.tape,a.output,a.size,λk p=>a.frame k p λb l r _ m i=>by rw[c b r m]at i;cases i⟩
def flat:a9:=[⟨[],false⟩]
theorem UH(w:World):bG A (λ_=>none) flat w w.heap.size:=
 ⟨by simp[flat],λ_ _ h=>(by cases h),λ_ _ _ h=>(by cases h),λ_ _ _ h=>(by cases h),λ_ _ _ _ _ _ h=>(by cases h),λ_ _ _ h=>(by cases h)⟩
theorem XY:∀(b:Nat) (k:mm),flat[b]?=some k->k.rw=false:=by
 intro b k h;cases b with
 |zero=>simp[flat]at h;subst h;rfl
 |succ b=>simp[flat]at h
theorem aE1{f g:Nat}{args us:List Value}{w:World}(h:A.P.follows .mixedOrders=true)(b:kV A)(a:∀base,I2 A base Γ)(c:FM A g=some f)(x:aN Γ f args flat λv _=>v=.bool true)
  (d:cM (VR A λ_=>none) args us):Calls A.P g us.toArray w λe w'=>e=.returned (.bool true)∧Below w.heap.size w w':=
 RG h b a c x (UH w) XY (λ_ _=>rfl) d
theorem aod(s:ByteArray):S s.data.toList=.string s:=by cases s;simp
end
section post
open Go.WideShapes Go.ChangeShapes
variable {H : Type} {enc : TypeId × Value -> H} {P : Program}
theorem IQ{f:Func}{s:ChangeSpec}{apart fresh handsOn again:Bool}{W a:World}{args:Array Value}{v:Value}{ds gs:List (DataW H)}{before pa pv:List MemPlace}
  (d:DataW.Whole enc P f.params.toList s.vars apart W args.toList ds gs before)
  (e:∀(b:Nat) (sp:Nat->Bool) (hd:Bool),DataW.TrodAll enc P a b sp hd f.resultTypes.toList (v.resultList f.resultTypes.size) (s.fn H (ds++gs)).results [])
  (k:∀sp:Nat->Bool,(∀p∈before,sp p.block=true)->DataW.TrodAll enc P a 0 sp true f.params.toList args.toList (s.fn H (ds++gs)).args pa)
  (c:∀sp:Nat->Bool,(∀p∈before,sp p.block=true)->DataW.TrodVars enc P a sp s.vars (s.fn H (ds++gs)).vars pv)
  (l:before=pa++pv) (h:Below W.heap.size W a)
  (n:∀(j:Nat) (t:TypeId) (r:Value),f.resultTypes[j]?=some t->(v.resultList f.resultTypes.size)[j]?=some r->Value.okWide P a .any 0 t r):
  s.post enc P f apart fresh handsOn again W args v a:=by
 have g:∀p∈before,p.block<W.heap.size:=λp hp=>d.lt p hp;have hold:∀p∈before,(λb=>decide (b<W.heap.size)) p.block=true:=λp hp=>by simpa using g p hp
 refine⟨ds,gs,before,[],pa,pv,d,e _ _ _,k _ hold,c _ hold,World.keptBut_mono (λp hp=>⟨hp,?_⟩) (h.frame (·∈before)),λ_=>?_⟩
 ·grind
 ·obtain⟨_,_,_,_,_,m,hn⟩:=d;refine⟨n,_,_,([]++pa)++pv,⟨[]++pa,pv,trodAll_append (k _ (λ_ _=>rfl)) (e _ _ _),c _ (λ_ _=>rfl),rfl,?_,?_⟩,?_⟩
  ·intro b off hp;have i:MemPlace.cell b off∈before:=by rw[l];simpa using hp
   rw[h.frozen (g _ i)];exact m b off i
  ·grind
  ·grind
end post
end Am
namespace Am
open Go Go.RowKit Go.ChangeShapes Go.WideShapes
inductive iM where
 |int (k:IntKind)|str|bool|pair (a b:iM)|slice (a:iM)
@[reducible] def iM.T:iM->Type
 |.int _=>Int
 |.str=>List UInt8
 |.bool=>Bool
 |.pair a b=>a.T×b.T
 |.slice a=>List a.T
def iM.n:iM->Nat
 |.pair a b=>a.n+b.n
 |_=>1
theorem iM.pos:∀D:iM,0<D.n
 |.int _|.str|.bool|.slice _=>by simp[iM.n]
 |.pair a b=>by have:=a.pos;simp[iM.n];omega
def Rd(h:a9):(D:iM)->List Value->D.T->Prop
 |.int k,cs,(x:Int)=>cs=[.int k x]∧(Lit.int k x).wf=true
 |.str,cs,(x:List UInt8)=>cs=[S x]∧x.length<=maxLen
 |.bool,cs,(x:Bool)=>cs=[.bool x]
 |.pair a b,cs,(x:a.T×b.T)=>∃c1 c2,cs=c1++c2∧Rd h a c1 x.1∧Rd h b c2 x.2
 |.slice a,cs,(x:List a.T)=>∃b o z css,cs=[sl b o x.length z]∧(z=a.n∨b=0∧x=[])∧x.length<=maxLen∧cM (λc y=>Rd h a c y) css x∧(x=[]∨aZ h b o (x.length*a.n)=some css.flatten)
theorem Rd.len{h:a9}:∀{D:iM} {cs:List Value} {x:D.T},Rd h D cs x->cs.length=D.n
 |.int _,cs,x,⟨e,_⟩=>by rw[e];rfl
 |.str,cs,x,⟨e,_⟩=>by rw[e];rfl
 |.bool,cs,x,e=>by rw[show cs=_ from e];rfl
 |.pair a b,cs,x,⟨c1,c2,e,h1,c⟩=>by rw[e,af,h1.len,c.len];rfl
 |.slice a,cs,x,⟨b,o,z,css,e,_⟩=>by rw[e];rfl
theorem dZ{h h':a9}(g:ae h h'){b o n:Nat}{cs:List Value}(a:aZ h b o n=some cs):aZ h' b o n=some cs:=by
 obtain⟨l,rfl⟩:=g;unfold aZ at a ⊢
 grind
theorem Rd.grow{h h':a9}(g:ae h h'):∀{D:iM} {cs:List Value} {x:D.T},Rd h D cs x->Rd h' D cs x
 |.int _,cs,x,r=>r
 |.str,cs,x,r=>r
 |.bool,cs,x,r=>r
 |.pair a b,cs,x,⟨c1,c2,e,h1,c⟩=>⟨c1,c2,e,h1.grow g,c.grow g⟩
 |.slice a,cs,x,⟨b,o,z,css,e,d,hm,h1,c⟩=>⟨b,o,z,css,e,d,hm,h1.mono λ_ _ r=>Rd.grow g r,c.imp id (dZ g)⟩
def Cz(P:Program)(g:TypeId->Option iM):List Field->Nat->Option iM
 |[],_=>none
 |[f],off=>match g f.type with
  |some D=>if f.offset=off∧P.cellsOf f.type=D.n then some D else none
  |none=>none
 |f::r,off=>match g f.type,Cz P g r (off+P.cellsOf f.type)with
  |some D,some E=>if f.offset=off∧P.cellsOf f.type=D.n then some (.pair D E)else none
  |_,_=>none
def shapeOf(P:Program):Nat->TypeId->Option iM
 |0,_=>none
 |k+1,t=>match P.underlying t with
  |some (.int i)=>some (.int i)
  |some .string=>some .str
  |some .bool=>some .bool
  |some (.slice e)=>match shapeOf P k e with
   |some D=>if P.cellsOf e=D.n then some (.slice D)else none
   |none=>none
  |some (.struct a)=>match Cz P (shapeOf P k) a.toList 0 with
   |some (.pair D E)=>if P.cellsOf t=(iM.pair D E).n then some (.pair D E)else none
   |_=>none
  |_=>none
section
variable {A : iG} {H : Type} {enc : TypeId × Value -> H} {W : World}
def RO(h:a9):Prop:=∀(b:Nat) (k:mm),h[b]?=some k->k.rw=false
structure Dw (A:iG) (W:World) (φ:dS) (h:a9):Prop where
 rel:bG A φ h W W.heap.size
 ro:RO h
 out:∀b,h.length<=b->φ b=none
theorem Dw.push{φ:dS}{h:a9}(x:Dw A W φ h){l:Loc}{cs us:List Value}(s:l.g<W.heap.size)(hu:∀i u,us[i]?=some u->W.cell? ⟨l.g,l.o+i,none⟩=some u)(p:cM (iS A φ) cs us):
  Dw A W (λb=>if b=h.length then some l else φ b) (h++[⟨cs,false⟩])∧Sub φ (λb=>if b=h.length then some l else φ b):=by
 have m:Sub φ (λb=>if b=h.length then some l else φ b):=by
  intro b l' a;have:b≠h.length:=λe=>by rw[x.out b (by omega)]at a;cases a
  simp[this,a]
 refine⟨⟨⟨by simp,?_,?_,?_,?_,?_⟩,?_,?_⟩,m⟩
 ·intro b l' a;split at a
  ·grind
  ·exact x.rel.low b l' a
 ·intro b l' k a c i v hi;split at a
  ·rename_i e;injection a with a;subst a;subst e;simp at c;subst c;obtain⟨u,n,j⟩:=p.get i v hi;exact⟨u,hu i u n,j.mono A m⟩
  ·rename_i e;have q:b<h.length:=by
    grind
   rw[ai q]at c;obtain⟨u,n,j⟩:=x.rel.cells b l' k a c i v hi;exact⟨u,n,j.mono A m⟩
 ·intro b l' k a c d;exfalso;by_cases f:b<h.length
  ·rw[ai f]at c;rw[x.ro b k c]at d;cases d
  ·grind
 ·intro b b' l' r k k' a w c y d;exfalso;by_cases f:b<h.length
  ·rw[ai f]at c;rw[x.ro b k c]at d;cases d
  ·grind
 ·intro b l' k a c d t;split at a
  ·grind
  ·exact x.rel.low b l' a
 ·intro b k c;by_cases f:b<h.length
  ·rw[ai f]at c;exact x.ro b k c
  ·grind
 ·intro b a;simp at a;rw[if_neg (by omega)];exact x.out b (by omega)
def Ts(A:iG)(W:World)(D:iM)(cs:List Value):Prop:=∀φ h,Dw A W φ h->∃a l b X,Dw A W a (h++l)∧Sub φ a∧Rd (h++l) D b X∧cM (iS A a) b cs
theorem cM.CP{h:a9}{a:iM}:∀{css:List (List Value)} {x:List a.T},cM (λc y=>Rd h a c y) css x->css.flatten.length=x.length*a.n
 |[],[],_=>by simp
 |c::css,y::x,h=>by
  simp only[cK,af,az,cX,Nat.one_mul];rw[h.1.len,cM.CP h.2];omega
theorem ZM{a:Addr}{v:Value}(h:W.cell? a=some v):a.block<W.heap.size∧a.spot=none:=by
 unfold World.cell? at h;split at h
 ·rename_i c _ _ b;refine⟨(cN.1 b).1,?_⟩
  simp_all
 ·cases h
theorem adO{a:iM}{css:List (List Value)}(he:∀c∈css,Ts A W a c):∀φ h,Dw A W φ h->
  ∃b l d X,Dw A W b (h++l)∧Sub φ b∧cM (λc y=>Rd (h++l) a c y) d X∧cM (iS A b) d.flatten css.flatten∧X.length=css.length:=by
 induction css with
 |nil=>intro φ h x;exact⟨φ,[],[],[],by simpa using x,Sub.refl φ,trivial,trivial,rfl⟩
 |cons c css ih=>
  intro φ h x;obtain⟨e,l1,g,y,n,s1,k,v1⟩:=he c (by simp) φ h x;obtain⟨f,l2,d,X,o,s2,m,v2,i⟩:=ih (λc j=>he c (by simp[j])) e (h++l1) n;refine⟨f,l1++l2,g::d,y::X,by simpa using o,s1.trans s2,⟨?_,by simpa using m⟩,?_,by simp[i]⟩
  ·have:=k.grow (h':=h++(l1++l2)) ⟨l2,by simp⟩;exact this
  ·simp only[cK];exact cM.append (v1.mono λ_ _=>iS.mono A s2) v2
theorem mapM_cells{base:Nat}{a:Addr}{n:Nat}{cs:List Value}(h:W.cells? base a n=some cs):cs.length=n∧∀i,i<n->W.cell? (a.add i)=cs[i]?:=(World.cells?_some h).2
theorem UF{α:Type}{z:Nat}:∀{css:List (List α)} (_:∀c∈css,c.length=z) {i:Nat} {u:α},css.flatten[i]?=some u->∃k j c,k<css.length∧j<z∧i=k*z+j∧css[k]?=some c∧c[j]?=some u
 |[],_,i,u,h=>by simp at h
 |c::css,b,i,u,h=>by
  have a:c.length=z:=b c (by simp);simp only[cK]at h;by_cases hi:i<z
  ·rw[ai (by omega)]at h;exact⟨0,i,c,by simp,hi,by simp,by simp,h⟩
  ·rw[aX (by omega),a]at h;obtain⟨k,j,d,h1,e,l,f,g⟩:=UF (λc a=>b c (by simp[a])) h;refine⟨k+1,j,d,by simp;omega,e,?_,by simpa using f,g⟩;rw[cX];omega
theorem adP:∀(k:Nat) (D:iM) (t:TypeId) (n:Nat) (cs:List Value) (x:DataW H×List MemPlace),shapeOf A.P k t=some D->DataW.trod enc A.P W 0 (λ_=>true) true n t cs=some x->Ts A W D cs:=by
 intro k
 induction k with
 |zero=>intro D t n cs x hD;simp[shapeOf]at hD
 |succ k ih=>
  intro D t n cs x hD hx φ h hm
  unfold shapeOf at hD
  split at hD
  ·rename_i i hu
   injection hD with hD;subst hD
   obtain⟨m,rfl,_,hw⟩:=DataW.trod_int hu hx
   exact⟨φ,[],[.int i m],m,by simpa using hm,Sub.refl φ,⟨rfl,hw⟩,⟨rfl,trivial⟩⟩
  ·rename_i hu
   injection hD with hD;subst hD
   obtain⟨s,rfl,_,hw⟩:=DataW.trod_string hu hx
   exact⟨φ,[],[.string s],s.data.toList,by simpa using hm,Sub.refl φ,⟨by rw[aod],hw⟩,⟨rfl,trivial⟩⟩
  ·rename_i hu
   injection hD with hD;subst hD
   obtain⟨b,rfl,_⟩:=DataW.trod_bool hu hx
   exact⟨φ,[],[.bool b],b,by simpa using hm,Sub.refl φ,rfl,⟨rfl,trivial⟩⟩
  ·rename_i e hu
   split at hD
   ·rename_i a ha
    split at hD
    ·rename_i hc
     injection hD with hD;subst hD
     have LD:=a.pos
     rcases Go.Deep.open_slice hu hx with⟨rfl,_⟩|⟨ad,len,cap,m,fu,Dt,Pl,rfl,_,hl,IM,Vc,_,wX⟩
     ·exact⟨φ,[],[sl 0 0 0 0],[],by simpa using hm,Sub.refl φ,⟨0,0,0,[],rfl,.inr ⟨rfl,rfl⟩,by simp,trivial,.inl rfl⟩,⟨⟨rfl,none,0,rfl,aa _,λ_=>rfl,λe=>absurd rfl e,⟨λ_=>⟨rfl,rfl⟩,λ_=>rfl⟩⟩,trivial⟩⟩
     ·simp only[if_true]at Vc
      subst Vc
      by_cases h0:m=0
      ·subst h0
       have:len=0:=by omega
       subst this
       exact⟨φ,[],[sl 0 0 0 a.n],[],by simpa using hm,Sub.refl φ,⟨0,0,a.n,[],rfl,.inl rfl,by simp,trivial,.inl rfl⟩,⟨⟨rfl,some ad,0,rfl,aa _,λ_=>rfl,λe=>absurd rfl e,⟨λe=>(by cases e),λe=>absurd e.2 (by omega)⟩⟩,trivial⟩⟩
      · -- the elements' cells
       obtain⟨cf,LG⟩:=Go.Deep.choose_lt (n:=m) (p:=λi xY=>W.cells? 0 (ad.add (i*A.P.cellsOf e)) (A.P.cellsOf e)=some xY∧DataW.trod enc A.P W 0 (λ_=>true) true fu e xY=some (Dt i,Pl i)) wX
       rw[hc]at LG
       have first:=(mapM_cells (LG 0 (by omega)).1).2 0 LD
       have aii:=(mapM_cells (LG 0 (by omega)).1).1
       rw[ah (by omega)]at first
       have aqJ:=ZM first
       simp[Addr.add]at aqJ
       obtain⟨Yb,DM⟩:=aqJ
       have css:∃css:List (List Value),css=(List.range len).map cf:=⟨_,rfl⟩
       obtain⟨css,adt⟩:=css
       have iC:css.length=len:=by rw[adt];simp
       have hcg:∀i,i<len->css[i]?=some (cf i):=λi hi=>by rw[adt];simp[hi]
       obtain⟨φ1,l1,HN,X,x1,s1,r1,v1,e1⟩:=adO (A:=A) (W:=W) (a:=a) (css:=css) (λc mS=>by
        rw[adt]at mS
        obtain⟨i,hi,rfl⟩:=bj.1 mS
        exact ih a e fu (cf i) _ ha (LG i (by have:=da.1 hi;omega)).2) φ h hm
       have eX:X.length=len:=by rw[e1,iC]
       have hz:∀c∈css,c.length=a.n:=λc mS=>by
        rw[adt]at mS
        obtain⟨i,hi,rfl⟩:=bj.1 mS
        exact(mapM_cells (LG i (by have:=da.1 hi;omega)).1).1
       have adn:∀q,(ad.add q)=⟨ad.block,ad.off+q,none⟩:=λq=>by
        unfold Addr.add
        split
        ·rename_i h0;subst h0;cases ad;simp at DM;subst DM;rfl
        ·rfl
       obtain⟨x2,s2⟩:=x1.push (l:=⟨ad.block,ad.off,ad.off+m*a.n,false⟩) (cs:=HN.flatten) (us:=css.flatten) Yb (λi u zO=>by
        obtain⟨q,j,c,h1,h2,h3,h4,h5⟩:=UF hz zO
        rw[iC]at h1
        rw[hcg q h1]at h4
        injection h4 with h4;subst h4
        have:=(mapM_cells (LG q (by omega)).1).2 j h2
        rw[h5,Go.Deep.add_add,<-h3,adn]at this
        exact this) v1
       refine⟨_,l1++[⟨HN.flatten,false⟩],[sl (h++l1).length 0 len a.n],X,by simpa using x2,s1.trans s2,⟨(h++l1).length,0,a.n,HN,by rw[eX],.inl rfl,by omega,?_,?_⟩,?_⟩
       ·exact r1.mono λ_ _ r=>r.grow ⟨[⟨HN.flatten,false⟩],by simp⟩
       ·right
        have IL:=cM.CP r1
        rw[<-cC]
        unfold aZ
        rw[aX (by omega)]
        simp[IL]
        rw[<-IL,aK]
       ·refine⟨⟨rfl,some ad,m,rfl,hl,λe=>?_,λ_=>⟨⟨ad.block,ad.off,ad.off+m*a.n,false⟩,if_pos rfl,.inr ⟨?_,by simp,λe=>(by cases e)⟩⟩,⟨λe=>(by cases e),λe=>absurd e.2 (by omega)⟩⟩,trivial⟩
        ·exfalso
         have:=x1.rel.pos
         simp only[af]at e this
         omega
        ·show some ad=some ⟨ad.block,ad.off+0,none⟩
         rw[<-adn 0]
         rfl
    ·cases hD
   ·cases hD
  ·rename_i fs hu
   split at hD
   ·rename_i E1 E2 hE
    split at hD
    ·rename_i hc
     injection hD with hD;subst hD
     obtain⟨E,hEE⟩:∃E,E=iM.pair E1 E2:=⟨_,rfl⟩
     rw[<-hEE]at hE hc ⊢
     obtain⟨xs,fu,_,_,hlen,hxl,hf⟩:=DataW.trod_struct hu hx
     rw[hc]at hlen
     -- field by field
     have key:∀(l:List Field) (off:Nat) (E:iM),Cz A.P (shapeOf A.P k) l off=some E->(∀f∈l,∃y,DataW.trod enc A.P W 0 (λ_=>true) true fu f.type ((cs.drop f.offset).take (A.P.cellsOf f.type))=some y)->
       off+E.n=cs.length->Ts A W E (cs.drop off):=by
      intro l
      induction l with
      |nil=>intro off E hE;simp[Cz]at hE
      |cons f r ihl=>
       intro off E hE ia aL3
       cases r with
       |nil=>
        simp only[Cz]at hE
        split at hE
        ·rename_i D hD
         split at hE
         ·rename_i Be
          injection hE with hE;subst hE
          obtain⟨y,hy⟩:=ia f (by simp)
          rw[Be.1,Be.2,aY (by simp;omega)]at hy
          exact ih D _ _ _ _ hD hy
         ·cases hE
        ·cases hE
       |cons g r=>
        simp only[Cz]at hE
        split at hE
        ·rename_i D F hD hF
         split at hE
         ·rename_i Be
          injection hE with hE;subst hE
          obtain⟨y,hy⟩:=ia f (by simp)
          rw[Be.1,Be.2]at hy
          have o1:=ih D _ _ _ _ hD hy
          rw[Be.2]at hF
          have hn:(iM.pair D F).n=D.n+F.n:=rfl
          have o2:=ihl (off+D.n) F hF (λf hf=>ia f (j5 _ hf)) (by omega)
          intro φ h hm
          obtain⟨φ1,l1,c1,X1,m1,s1,r1,v1⟩:=o1 φ h hm
          obtain⟨φ2,l2,c2,X2,m2,s2,r2,v2⟩:=o2 φ1 (h++l1) m1
          refine⟨φ2,l1++l2,c1++c2,(X1,X2),by simpa using m2,s1.trans s2,⟨c1,c2,rfl,r1.grow ⟨l2,by simp⟩,by simpa using r2⟩,?_⟩
          have e:cs.drop off=(cs.drop off).take D.n++cs.drop (off+D.n):=by
           rw[<-km,gb]
          rw[e]
          exact cM.append (v1.mono λ_ _=>iS.mono A s2) v2
         ·cases hE
        ·cases hE
     have hgo:=key fs.toList 0 E hE (λf U1=>by
      obtain⟨i,hi⟩:=rm U1
      have:=hf i f (by simpa using hi)
      have Bi:i<xs.length:=by rw[hxl];have:=(au.1 hi).1;simpa using this
      rw[ah Bi]at this
      exact⟨_,this⟩) (by omega)
     simpa using hgo φ h hm
    ·cases hD
   ·cases hD
  ·cases hD
def NG:iM->List Value->Value
 |.pair _ _,cs=>.agg cs.toArray
 |_,cs=>cs.headD fI
def Dx(h:a9)(D:iM)(v:Value):Prop:=∃cs X,Rd h D cs X∧v=NG D cs
theorem Dx.grow{h h':a9}(g:ae h h'){D:iM}{v:Value}(x:Dx h D v):Dx h' D v:=by obtain⟨cs,X,r,e⟩:=x;exact⟨cs,X,r.grow g,e⟩
theorem Fv{φ:dS}{x v:Value}(h:iS A φ x v)(a:scalar x=true):VR A φ x v:=by unfold VR GB;cases x<;>first|exact h|cases a
theorem ajP{k:Nat}{D:iM}{t:TypeId}{base:Nat}{u:Value}{d:DataW H}{p:List MemPlace}(f:shapeOf A.P k t=some D)(m:Value.okWide A.P W .any base t u)(hd:DataW.Trod enc A.P W 0 (λ_=>true) true t u d p){φ:dS}{h:a9}(hm:Dw A W φ h):
  ∃g l v,Dw A W g (h++l)∧Sub φ g∧Dx (h++l) D v∧VR A g v u:=by
 obtain⟨n,hn⟩:=hd;obtain⟨g,l,s,X,w,x,j,r⟩:=adP k D t n _ _ f hn φ h hm;refine⟨g,l,NG D s,w,x,⟨s,X,j,rfl⟩,?_⟩;have hl:=j.len;cases k with
 |zero=>simp[shapeOf]at f
 |succ k=>
  unfold shapeOf at f;split at f
  ·rename_i i hu;injection f with f;subst f;obtain⟨q,rfl⟩:=okWide_int hu m;obtain⟨rfl,_⟩:=j;exact Fv r.1 rfl
  ·rename_i hu;injection f with f;subst f;obtain⟨q,rfl⟩:=okWide_string hu m;obtain⟨rfl,_⟩:=j;exact Fv r.1 rfl
  ·rename_i hu;injection f with f;subst f;obtain⟨q,rfl⟩:=okWide_bool hu m;obtain rfl:s=_:=j;exact Fv r.1 rfl
  ·rename_i e hu;split at f
   ·split at f
    ·injection f with f;subst f;obtain⟨a,b,c,rfl⟩:=okWide_slice hu m;obtain⟨b,o,z,css,rfl,_⟩:=j;exact Fv r.1 rfl
    ·cases f
   ·cases f
  ·rename_i E hu;split at f
   ·rename_i y B F;split at f
    ·rename_i G;injection f with f;subst f;obtain⟨us,rfl,C⟩:=okWide_struct hu m;exact⟨us,rfl,by simpa [Value.cells]using r⟩
    ·cases f
   ·cases f
  ·cases f
theorem agl{k:Nat}{base:Nat}:∀{ts:List TypeId} {Ds:List iM} {us:List Value} {ds:List (DataW H)} {p:List MemPlace} (_:ts.map (shapeOf A.P k)=Ds.map some) (_:∀(j:Nat) t v,ts[j]?=some t->us[j]?=some v->Value.okWide A.P W .any base t v)
  (_:DataW.TrodAll enc A.P W 0 (λ_=>true) true ts us ds p) {φ:dS} {h:a9} (_:Dw A W φ h),∃a l vs,Dw A W a (h++l)∧Sub φ a∧cM (Dx (h++l)) Ds vs∧cM (VR A a) vs us:=by
 intro ts
 induction ts with
 |nil=>
  intro Ds us ds p b c hd φ h hm;obtain⟨rfl,rfl,rfl⟩:=trodAll_nil hd;have:Ds=[]:=by cases Ds<;>simp_all
  subst this;exact⟨φ,[],[],by simpa using hm,Sub.refl φ,trivial,trivial⟩
 |cons t ts ih=>
  intro Ds us ds p b c hd φ h hm;obtain⟨v,vs,d,g,p',w,rfl,rfl,rfl,h1,n⟩:=trodAll_cons hd;cases Ds with
  |nil=>simp at b
  |cons D Ds=>
   simp only[bX,ru]at b;obtain⟨u,l1,v1,o,s1,r,i⟩:=ajP b.1 (c 0 t v rfl rfl) h1 hm;obtain⟨f,l2,e,q,s2,s,m⟩:=ih b.2 (λj t v h h'=>c (j+1) t v h h') n o;refine⟨f,l1++l2,v1::e,by simpa using q,s1.trans s2,⟨?_,by simpa using s⟩,⟨i.mono A s2,m⟩⟩;exact r.grow ⟨l2,by simp⟩
theorem aih:Dw A W (λ_=>none) flat:=⟨UH W,XY,λ_ _=>rfl⟩
theorem Yx{Γ:Nat->Option mC}{f g k base:Nat}{ts:List TypeId}{Ds:List iM}{us:List Value}{ds:List (DataW H)}{p:List MemPlace}(n:A.P.follows .mixedOrders=true)(c:kV A)(a:∀base,I2 A base Γ)(d:FM A g=some f)
  (law:∀h vs,0<h.length->cM (Dx h) Ds vs->aN Γ f vs h λv _=>v=.bool true) (b:ts.map (shapeOf A.P k)=Ds.map some) (i:∀(j:Nat) t v,ts[j]?=some t->us[j]?=some v->Value.okWide A.P W .any base t v)
  (hd:DataW.TrodAll enc A.P W 0 (λ_=>true) true ts us ds p):Calls A.P g us.toArray W λe w'=>e=.returned (.bool true)∧Below W.heap.size W w':=by
 obtain⟨φ,l,vs,m,_,r,v⟩:=agl b i hd (aih (A:=A) (W:=W));exact RG n c a d (law _ vs (by simp[flat]) r) m.rel m.ro m.out v
theorem IV{P:Program}(hl:laidOutB P=true){b:World}{a:Nat->Bool}:∀{ts:List TypeId} (_:∀t∈ts,P.readableRec t=true∧t<P.types.size) {vs:List Value} {ds:List (DataW H)} {ps:List MemPlace}
  (_:DataW.TrodAll enc P W 0 (λ_=>true) true ts vs ds ps) (_:∀p∈ps,W.sameAt b p) (_:∀p∈ps,a p.block=true),DataW.TrodAll enc P b 0 a true ts vs ds ps:=by
 intro ts
 induction ts with
 |nil=>
  intro _ vs ds ps hd _ _;obtain⟨rfl,rfl,rfl⟩:=trodAll_nil hd;exact trodAll_mk0
 |cons t ts ih=>
  intro e vs ds ps hd c hp;obtain⟨v,vs,d,f,p',i,rfl,rfl,rfl,h1,g⟩:=trodAll_cons hd;have:=e t (by simp);exact trodAll_cons_mk (Go.WideElems.Trod_stays hl this.1 this.2 h1 (λp hp=>c p (by simp[hp])) (λp h=>hp p (by simp[h]))) (ih (λt h=>e t (by simp[h])) g (λp hp=>c p (by simp[hp])) (λp h=>hp p (by simp[h])))
theorem NH{W a:World}(c:Below W.heap.size W a){p:MemPlace}(hp:p.block<W.heap.size):W.sameAt a p:=by
 have e:=c.block p.block hp;cases p with
 |cell b off=>show a.cell? _=W.cell? _;unfold World.cell?;simp only[MemPlace.block]at e;rw[e]
 |map b=>exact e
theorem L7{P:Program}{ts:List TypeId}(h:(ts.all λt=>P.readableRec t&&decide (t<P.types.size))=true):∀t∈ts,P.readableRec t=true∧t<P.types.size:=by
 grind
theorem CE{P:Program}{sp:Nat->Bool}{hd:Bool}{base:Nat}:∀{ts:List TypeId} {vs:List Value} {ds:List (DataW H)} {ps:List MemPlace},DataW.TrodAll enc P W base sp hd ts vs ds ps->ds.length=ts.length:=by
 intro ts
 induction ts with
 |nil=>intro vs ds ps h;obtain⟨_,rfl,_⟩:=trodAll_nil h;rfl
 |cons t ts ih=>intro vs ds ps h;obtain⟨v,vs,d,a,p,q,rfl,rfl,rfl,_,b⟩:=trodAll_cons h;simp[ih b]
section
variable {P : Program} {sp : Nat -> Bool} {hd : Bool} {base : Nat} {ts : Array TypeId} {vs : List Value} {ds : List (DataW H)} {ps : List MemPlace}
theorem ayo(h:DataW.TrodAll enc P W base sp hd ts.toList vs ds ps)(e:ts.size=0):ds=[]:=by have:=CE h;simp[e]at this;exact this
theorem aec(h:DataW.TrodAll enc P W base sp hd ts.toList vs ds ps)(e:ts.size=1):∃a,ds=[a]:=by
 have:=CE h;simp[e]at this
 match ds,this with|[a],_=>exact⟨a,rfl⟩
theorem aed(h:DataW.TrodAll enc P W base sp hd ts.toList vs ds ps)(e:ts.size=2):∃a b,ds=[a,b]:=by
 have:=CE h;simp[e]at this
 match ds,this with|[a,b],_=>exact⟨a,b,rfl⟩
theorem ayp(h:DataW.TrodAll enc P W base sp hd ts.toList vs ds ps)(e:ts.size=3):∃a b c,ds=[a,b,c]:=by
 have:=CE h;simp[e]at this
 match ds,this with|[a,b,c],_=>exact⟨a,b,c,rfl⟩
theorem ayq(h:DataW.TrodAll enc P W base sp hd ts.toList vs ds ps)(e:ts.size=4):∃a b c d,ds=[a,b,c,d]:=by
 have:=CE h;simp[e]at this
 match ds,this with|[a,b,c,d],_=>exact⟨a,b,c,d,rfl⟩
theorem ayr(h:DataW.TrodAll enc P W base sp hd ts.toList vs ds ps)(e:ts.size=5):∃a b c d f,ds=[a,b,c,d,f]:=by
 have:=CE h;simp[e]at this
 match ds,this with|[a,b,c,d,f],_=>exact⟨a,b,c,d,f,rfl⟩
end
end
end Am

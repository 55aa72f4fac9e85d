/- How the model's values and memory stand to those of 'Am'; what new blocks, stores and the end of a block do to that. -/
import Derived.Test.YtpgioncclmancaaGreatPRules
import Derived.Laws.AppendOwn
import Derived.Laws.MakeOwn
import Derived.Laws.CopyRow
import Derived.Laws.BytesString
import Derived.Laws.StructEq
import Derived.Orders
import GoSem.Dispatch
import Derived.Lib.Strings
set_option linter.unusedVariables false
set_option linter.unusedSimpArgs false
namespace Am
open Go
def cM{α β:Type}(R:α->β->Prop):List α->List β->Prop
 |[],[]=>True
 |a::x,b::y=>R a b∧cM R x y
 |_,_=>False
section aBV
variable {α β : Type} {R R' : α -> β -> Prop}
theorem cM.length:∀{x:List α} {y:List β},cM R x y->x.length=y.length
 |[],[],_=>rfl
 |_::_,_::_,h=>by simp[cM.length h.2]
theorem cM.get:∀{x:List α} {y:List β},cM R x y->∀(i:Nat) (a:α),x[i]?=some a->∃b,y[i]?=some b∧R a b
 |[],[],_,i,a,h=>by simp at h
 |a::x,b::y,d,0,c,h=>by simp at h;subst h;exact⟨b,by simp,d.1⟩
 |a::x,b::y,d,i+1,c,h=>by simpa using d.2.get i c (by simpa using h)
theorem cM.get':∀{x:List α} {y:List β},cM R x y->∀(i:Nat) (b:β),y[i]?=some b->∃a,x[i]?=some a∧R a b
 |[],[],_,i,a,h=>by simp at h
 |a::x,b::y,d,0,c,h=>by simp at h;subst h;exact⟨a,by simp,d.1⟩
 |a::x,b::y,d,i+1,c,h=>by simpa using d.2.get' i c (by simpa using h)
theorem cM.Bv:∀{x:List α} {y:List β},x.length=y.length->(∀(i:Nat) (a:α) (b:β),x[i]?=some a->y[i]?=some b->R a b)->cM R x y
 |[],[],_,_=>trivial
 |a::x,b::y,hl,h=>⟨h 0 a b (by simp) (by simp),cM.Bv (by simpa using hl) λi c d e f=>h (i+1) c d (by simpa using e) (by simpa using f)⟩
 |[],_::_,hl,_=>by simp at hl
 |_::_,[],hl,_=>by simp at hl
theorem cM.mono(h:∀a b,R a b->R' a b):∀{x:List α} {y:List β},cM R x y->cM R' x y
 |[],[],_=>trivial
 |_::_,_::_,c=>⟨h _ _ c.1,c.2.mono h⟩
theorem cM.append:∀{x x':List α} {y y':List β},cM R x y->cM R x' y'->cM R (x++x') (y++y')
 |[],_,[],_,_,h=>h
 |_::_,_,_::_,_,a,h=>⟨a.1,a.2.append h⟩
theorem cM.take(n:Nat):∀{x:List α} {y:List β},cM R x y->cM R (x.take n) (y.take n):=by
 induction n with
 |zero=>intro x y _;simp[cM]
 |succ n ih=>
  intro x y h
  match x,y,h with
  |[],[],_=>exact trivial
  |_::_,_::_,h=>exact⟨h.1,ih h.2⟩
theorem cM.drop(n:Nat):∀{x:List α} {y:List β},cM R x y->cM R (x.drop n) (y.drop n):=by
 induction n with
 |zero=>intro x y h;exact h
 |succ n ih=>
  intro x y h
  match x,y,h with
  |[],[],_=>exact trivial
  |_::_,_::_,h=>exact ih h.2
theorem cM.replicate{a:α}{b:β}(h:R a b):∀n,cM R (List.replicate n a) (List.replicate n b)
 |0=>trivial
 |n+1=>⟨h,cM.replicate h n⟩
end aBV
structure Loc where
 g:Nat
 o:Nat
 size:Nat
 str:Bool
abbrev dS:=Nat->Option Loc
def Sub(φ a:dS):Prop:=∀b l,φ b=some l->a b=some l
theorem Sub.refl(φ:dS):Sub φ φ:=λ_ _ h=>h
theorem Sub.trans{a b c:dS}(x:Sub a b)(y:Sub b c):Sub a c:=λk l h=>y k l (x k l h)
section
variable (A : iG)
def AQ(φ:dS):Value->Value->Prop
 |.bool a,v=>v=.bool a
 |.int k n,v=>v=.int k n
 |.string s,v=>v=.string s
 |.pointer none,v=>v=.pointer none
 |.nilFunc,v=>v=.nilFunc
 |.pointer (some a),v=>a.spot=none∧∃l,φ a.block=some l∧v=.pointer (some ⟨l.g,l.o+a.off,none⟩)
 |.slice (some a) n z,v=>a.spot=none∧∃X c,v=.slice X n c∧n<=c∧(a.block=0->c=0)∧
   (a.block≠0->∃l,φ a.block=some l∧(c=0∨(X=some ⟨l.g,l.o+a.off,none⟩∧l.o+a.off+c*z<=l.size∧(l.str=true->z=1))))∧(X=none↔a.block=0∧z=0)
 |_,_=>False
def QJ(φ:dS):Value->Value->Prop
 |.agg cs,v=>∃vs,v=.agg vs∧cM (AQ φ) cs.toList vs.toList
 |_,_=>False
def iS(φ:dS):Value->Value->Prop
 |.func (.func f) first a,v=>∃g us vs,v=.func (.func g) us vs∧FM A g=some f∧cM (QJ φ) first.toList us.toList∧cM (AQ φ) a.toList vs.toList
 |x,v=>AQ φ x v
def GB(φ:dS):Value->Value->Prop
 |.agg cs,v=>∃vs,v=.agg vs∧cM (iS A φ) cs.toList vs.toList
 |x,v=>iS A φ x v
def VR(φ:dS):Value->Value->Prop
 |.nilIface,_=>True
 |.tuple cs,v=>∃vs,v=.tuple vs∧cM (GB A φ) cs.toList vs.toList
 |x,v=>GB A φ x v
theorem AQ.mono{φ d:dS}(e:Sub φ d){x v:Value}(h:AQ φ x v):AQ d x v:=by
 unfold AQ at*;split at h
 ·exact h
 ·exact h
 ·exact h
 ·exact h
 ·exact h
 ·obtain⟨a,l,b,c⟩:=h;exact⟨a,l,e _ _ b,c⟩
 ·obtain⟨a,X,c,j,hn,h0,h1,f⟩:=h;exact⟨a,X,c,j,hn,h0,λg=>let ⟨l,hl,i⟩:=h1 g;⟨l,e _ _ hl,i⟩,f⟩
 ·exact h
theorem QJ.mono{φ a:dS}(d:Sub φ a){x v:Value}(h:QJ φ x v):QJ a x v:=by
 unfold QJ at*;split at h
 ·obtain⟨vs,b,c⟩:=h;exact⟨vs,b,c.mono λ_ _=>AQ.mono d⟩
 ·exact h
theorem iS.mono{φ a:dS}(f:Sub φ a){x v:Value}(h:iS A φ x v):iS A a x v:=by
 unfold iS at*;split at h
 ·obtain⟨g,us,vs,b,c,d,e⟩:=h;exact⟨g,us,vs,b,c,d.mono λ_ _=>QJ.mono f,e.mono λ_ _=>AQ.mono f⟩
 ·exact h.mono f
theorem GB.mono{φ a:dS}(d:Sub φ a){x v:Value}(h:GB A φ x v):GB A a x v:=by
 unfold GB at*;split at h
 ·obtain⟨vs,b,c⟩:=h;exact⟨vs,b,c.mono λ_ _=>iS.mono A d⟩
 ·exact h.mono A d
theorem VR.mono{φ a:dS}(d:Sub φ a){x v:Value}(h:VR A φ x v):VR A a x v:=by
 unfold VR at*;split at h
 ·trivial
 ·obtain⟨vs,b,c⟩:=h;exact⟨vs,b,c.mono λ_ _=>GB.mono A d⟩
 ·exact h.mono A d
section inv
variable {A} {φ : dS} {v : Value}
theorem AQ.scalar{x:Value}(h:AQ φ x v):scalar x=true:=by unfold AQ at h;split at h<;>first|rfl|exact h.elim
theorem iS.scalar{x:Value}(h:iS A φ x v):scalar x=true:=by
 unfold iS at h;split at h
 ·rfl
 ·exact AQ.scalar h
theorem AQ.one{x:Value}(h:AQ φ x v):v.oneCell'=true:=by
 unfold AQ at h;split at h
 ·subst h;rfl
 ·subst h;rfl
 ·subst h;rfl
 ·subst h;rfl
 ·subst h;rfl
 ·obtain⟨_,l,_,rfl⟩:=h;rfl
 ·obtain⟨_,X,c,rfl,_⟩:=h;rfl
 ·exact h.elim
theorem iS.one{x:Value}(h:iS A φ x v):v.oneCell'=true:=by
 unfold iS at h;split at h
 ·obtain⟨g,us,vs,rfl,_⟩:=h;rfl
 ·exact AQ.one h
theorem VR.RY{x:Value}(hx:Am.scalar x=true)(h:VR A φ x v):iS A φ x v:=by cases x<;>first|exact h|simp[Am.scalar]at hx
theorem VR.YB{x:Value}(h:iS A φ x v):VR A φ x v:=by have a:=h.scalar;cases x<;>first|exact h|simp[Am.scalar]at a
theorem GB.YB{x:Value}(h:iS A φ x v):GB A φ x v:=by have a:=h.scalar;cases x<;>first|exact h|simp[Am.scalar]at a
theorem VR.of1{x:Value}(h:GB A φ x v):VR A φ x v:=by cases x<;>first|exact h|exact trivial|exact(show False from h).elim
theorem VR.fI:VR A φ Am.fI v:=trivial
theorem VR.mV{k:IntKind}{n:Int}(h:VR A φ (.int k n) v):v=.int k n:=h
theorem VR.Al{b:Bool}(h:VR A φ (.bool b) v):v=.bool b:=h
theorem VR.uM{s:ByteArray}(h:VR A φ (.string s) v):v=.string s:=h
theorem VR.Av{cs:Array Value}(h:VR A φ (.agg cs) v):∃vs,v=.agg vs∧cM (iS A φ) cs.toList vs.toList:=h
theorem VR.ahd{cs:Array Value}(h:VR A φ (.tuple cs) v):∃vs,v=.tuple vs∧cM (GB A φ) cs.toList vs.toList:=h
theorem VR.uR{a:Addr}(h:VR A φ (.pointer (some a)) v):a.spot=none∧∃l,φ a.block=some l∧v=.pointer (some ⟨l.g,l.o+a.off,none⟩):=h
theorem VR.oU{a:Addr}{n z:Nat}(h:VR A φ (.slice (some a) n z) v):a.spot=none∧∃X c,v=.slice X n c∧n<=c∧(a.block=0->c=0)∧
   (a.block≠0->∃l,φ a.block=some l∧(c=0∨(X=some ⟨l.g,l.o+a.off,none⟩∧l.o+a.off+c*z<=l.size∧(l.str=true->z=1))))∧(X=none↔a.block=0∧z=0):=h
theorem VR.UK{f:Nat}{first a:Array Value}(h:VR A φ (.func (.func f) first a) v):∃g us vs,v=.func (.func g) us vs∧FM A g=some f∧cM (QJ φ) first.toList us.toList∧cM (AQ φ) a.toList vs.toList:=h
theorem zF{x:Value}{cs:List Value}(a:cellsOf x=some cs)(h:VR A φ x v):cM (iS A φ) cs v.cells.toList:=by
 unfold cellsOf at a;split at a
 ·injection a with a;subst a;obtain⟨vs,rfl,b⟩:=VR.Av h;exact b
 ·split at a
  ·rename_i c;injection a with a;subst a;have h0:=VR.RY c h;have h1:=h0.one;have:v.cells=#[v]:=by cases v<;>first|rfl|simp[Value.oneCell']at h1
   rw[this];exact⟨h0,trivial⟩
  ·simp at a
end inv
structure bG (φ:dS) (h:a9) (w:World) (base:Nat):Prop where
 pos:0<h.length
 low:∀b l,φ b=some l->l.g<w.heap.size
 cells:∀b l k,φ b=some l->h[b]?=some k->∀i v,k.cells[i]?=some v->∃u,w.cell? ⟨l.g,l.o+i,none⟩=some u∧iS A φ v u
 row:∀b l k,φ b=some l->h[b]?=some k->k.rw=true->base<=l.g∧l.o+k.cells.length<=l.size∧
  ∃cur ty lo hi,w.heap[l.g]?=some (.cells cur ty (lo,hi))∧cur.size=l.size∧(∀i,i<l.size->¬(lo<=i∧i<hi))∧(lo<=l.size∧l.size<hi->l.str=true)
 one:∀b b' l l' k k',φ b=some l->φ b'=some l'->h[b]?=some k->h[b']?=some k'->k.rw=true->k'.rw=true->l.g=l'.g->b=b'
 old:∀b l k,φ b=some l->h[b]?=some k->k.rw=false->k.cells≠[]->l.g<base
structure Ext (lo:Nat) (φ:dS) (h:a9) (w:World) (φ':dS) (h':a9) (w':World):Prop where
 sub:Sub φ φ'
 DF:∀b,h.length<=b->b<h'.length->φ' b≠none
 same:∀b,b<h.length∨h'.length<=b->φ' b=φ b
 len:h.length<=h'.length
 mode:∀(b:Nat) (k k':mm),h[b]?=some k->h'[b]?=some k'->k'.rw=true->k.rw=true
 size:w.heap.size<=w'.heap.size
 os:w'.os=w.os
 tape:w'.tape=w.tape
 output:w'.output=w.output
 frame:∀g,g<lo->(∀b l k,φ b=some l->h[b]?=some k->k.rw=true->l.g≠g)->w'.heap[g]?=w.heap[g]?
 fresh:∀b l,h.length<=b->b<h'.length->φ' b=some l->w.heap.size<=l.g∨∃b0 l0 k0,φ b0=some l0∧h[b0]?=some k0∧k0.rw=true∧l0.g=l.g
theorem Ext.refl(lo:Nat)(φ:dS)(h:a9)(w:World):Ext lo φ h w φ h w where
 sub:=Sub.refl φ
 DF:=λb h1 a=>by omega
 same:=λ_ _=>rfl
 len:=aa _
 mode:=λb k k' h1 a c=>by rw[h1]at a;injection a with a;subst a;exact c
 size:=aa _
 os:=rfl
 tape:=rfl
 output:=rfl
 frame:=λ_ _ _=>rfl
 fresh:=λb l h1 a=>by omega
theorem Ext.trans{lo:Nat}{φ i j:dS}{h h1 v:a9}{w w1 w2:World}(K:lo<=w.heap.size)(a:Ext lo φ h w i h1 w1)(b:Ext lo i h1 w1 j v w2):Ext lo φ h w j v w2 where
 sub:=a.sub.trans b.sub
 DF:=λk f m=>by
  by_cases c:k<h1.length
  ·rw[b.same k (.inl c)];exact a.DF k f c
  ·exact b.DF k (by omega) m
 same:=λk c=>by
  have:=a.len;have:=b.len;rcases c with c|c
  ·rw[b.same k (.inl (by omega)),a.same k (.inl c)]
  ·rw[b.same k (.inr c),a.same k (.inr (by omega))]
 len:=a7 a.len b.len
 mode:=λk x y hx hy q=>by
  have d:k<h1.length:=by have:=a.len;have:=(au.1 hx).1;omega
  obtain⟨z,e⟩:∃z,h1[k]?=some z:=⟨_,ah d⟩;exact a.mode k x z hx e (b.mode k z y e hy q)
 size:=a7 a.size b.size
 os:=b.os.trans a.os
 tape:=b.tape.trans a.tape
 output:=b.output.trans a.output
 frame:=λg A hn=>by
  rw[b.frame g A,a.frame g A hn];intro k l F hl c q he;have f:k<h1.length:=(au.1 c).1;by_cases d:k<h.length
  ·have r:φ k=some l:=by rw[<-a.same k (.inl d)];exact hl
   obtain⟨z,e⟩:∃z,h[k]?=some z:=⟨_,ah d⟩;exact hn k l z r e (a.mode k z F e c q) he
  ·rcases a.fresh k l (by omega) f hl with p|⟨b0,l0,k0,J,I,B,n⟩
   ·omega
   ·exact hn b0 l0 k0 J I B (n.trans he)
 fresh:=λk l f m hl=>by
  by_cases d:k<h1.length
  ·exact a.fresh k l f d (by rw[<-b.same k (.inl d)];exact hl)
  ·rcases b.fresh k l (by omega) m hl with p|⟨b0,l0,k0,s,t,D,u⟩
   ·exact .inl (a7 a.size p)
   ·have E:b0<h1.length:=(au.1 t).1;by_cases o:b0<h.length
    ·refine .inr ⟨b0,l0,_,by rw[<-a.same b0 (.inl o)];exact s,ah o,?_,u⟩;exact a.mode b0 _ k0 (ah o) t D
    ·rcases a.fresh b0 l0 (by omega) E s with p|⟨C,G,H,f1,f2,f3,f4⟩
     ·exact .inl (by omega)
     ·exact .inr ⟨C,G,H,f1,f2,f3,f4.trans u⟩
theorem Ext.Nk{lo tu:Nat}{φ b:dS}{h h':a9}{w w':World}(hl:lo<=tu)(a:Ext tu φ h w b h' w'):Ext lo φ h w b h' w':=
 {a with frame:=λg c=>a.frame g (bQ c hl)}
end
end Am
namespace Am
open Go
section
variable {A : iG} {φ : dS} {h : a9} {w : World} {base : Nat}
def dS.put(φ:dS)(b:Nat)(l:Loc):dS:=λk=>if k=b then some l else φ k
theorem dS.jG(φ:dS)(b:Nat)(l:Loc):φ.put b l b=some l:=by simp[dS.put]
theorem dS.kE(φ:dS){b k:Nat}(l:Loc)(a:k≠b):φ.put b l k=φ k:=by simp[dS.put,a]
theorem dS.Qx{φ:dS}{b:Nat}(l:Loc)(d:φ b=none):Sub φ (φ.put b l):=by
 intro k m c;by_cases a:k=b
 ·grind
 ·rw[dS.kE φ l a];exact c
theorem pK{w w':World}{a:Addr}(e:w'.heap[a.block]?=w.heap[a.block]?):w'.cell? a=w.cell? a:=by simp[World.cell?,e]
theorem anZ(h:a9)(k:mm):(h++[k])[h.length]?=some k:=by simp
theorem aqi{h:a9}{k:mm}{b:Nat}(a:b<h.length):(h++[k])[b]?=h[b]?:=ai a
theorem yQ{h:a9}{k x:mm}{b:Nat}(hx:(h++[k])[b]?=some x):(b<h.length∧h[b]?=some x)∨(b=h.length∧x=k):=by
 grind
theorem bG.Io{w':World}(H:bG A φ h w base)(c:w'.heap=w.heap):bG A φ h w' base where
 pos:=H.pos
 low:=λb l a=>by rw[c];exact H.low b l a
 cells:=λb l k a d i v f=>by
  obtain⟨u,hu,e⟩:=H.cells b l k a d i v f;exact⟨u,by rw[pK (w:=w) (w':=w') (by rw[c])];exact hu,e⟩
 row:=λb l k a d e=>by rw[c];exact H.row b l k a d e
 one:=H.one
 old:=H.old
theorem CY{w':World}{cs vs:List Value}{cur:Array Value}{ty lo hi:Nat}(st:Bool)(N:lo<=cur.size∧cur.size<hi->st=true)(H:bG A φ h w base)(Q:base<=w.heap.size)(r:φ h.length=none)
  (C:cM (iS A φ) cs vs) (n:∀(i:Nat) (v:Value),vs[i]?=some v->cur[i]?=some v)
  (G:w'.heap.size=w.heap.size+1) (hold:∀g,g<w.heap.size->w'.heap[g]?=w.heap[g]?) (q:w'.heap[w.heap.size]?=some (.cells cur ty (lo,hi)))
  (M:∀i,i<cur.size->¬(lo<=i∧i<hi)) (I:w'.os=w.os) (J:w'.tape=w.tape) (hp:w'.output=w.output):
  bG A (φ.put h.length ⟨w.heap.size,0,cur.size,st⟩) (h++[⟨cs,true⟩]) w' base∧
   Ext w.heap.size φ h w (φ.put h.length ⟨w.heap.size,0,cur.size,st⟩) (h++[⟨cs,true⟩]) w':=by
 have s:=dS.Qx (φ:=φ) (b:=h.length) ⟨w.heap.size,0,cur.size,st⟩ r;have hle:cs.length<=cur.size:=by
  rw[C.length];rcases fV cur.size vs.length with d|F
  ·have h1:=n cur.size _ (ah d);simp at h1
  ·exact F
 refine⟨⟨?_,?_,?_,?_,?_,?_⟩,⟨s,?_,?_,?_,?_,?_,I,J,hp,?_,?_⟩⟩
 ·simp
 ·intro b l a;rw[G];by_cases o:b=h.length
  ·subst o;rw[dS.jG]at a;injection a with a;subst a;simp
  ·rw[dS.kE _ _ o]at a;have:=H.low b l a;omega
 ·intro b l k a j i v B;rcases yQ j with⟨d,m⟩|⟨rfl,rfl⟩
  ·rw[dS.kE _ _ (dO d)]at a;obtain⟨u,hu,e⟩:=H.cells b l k a m i v B;exact⟨u,by rw[pK (hold _ (H.low b l a))];exact hu,e.mono A s⟩
  ·rw[dS.jG]at a;injection a with a;subst a;obtain⟨u,hu,e⟩:=C.get i v B;refine⟨u,?_,e.mono A s⟩;simp[World.cell?,q,n i u hu]
 ·intro b l k a j e;rcases yQ j with⟨d,m⟩|⟨rfl,rfl⟩
  ·rw[dS.kE _ _ (dO d)]at a;obtain⟨h1,p,c,t,x,y,O,P⟩:=H.row b l k a m e
   grind
  ·rw[dS.jG]at a
   grind
 ·intro b b' l l' k k' a f j m e K he;rcases yQ j with⟨d,L⟩|⟨rfl,rfl⟩<;>rcases yQ m with⟨z,D⟩|⟨rfl,rfl⟩
  ·rw[dS.kE _ _ (dO d)]at a;rw[dS.kE _ _ (dO z)]at f;exact H.one b b' l l' k k' a f L D e K he
  ·rw[dS.kE _ _ (dO d)]at a;rw[dS.jG]at f;injection f with f;subst f;have:=H.low b l a;simp at he;omega
  ·rw[dS.kE _ _ (dO z)]at f;rw[dS.jG]at a;injection a with a;subst a;have:=H.low b' l' f;simp at he;omega
  ·rfl
 ·intro b l k a j e E;rcases yQ j with⟨d,m⟩|⟨rfl,rfl⟩
  ·rw[dS.kE _ _ (dO d)]at a;exact H.old b l k a m e E
  ·simp at e
 ·intro b h1 p;have:b=h.length:=by simp at p;omega
  subst this;rw[dS.jG];simp
 ·intro b o;rw[dS.kE];simp at o;omega
 ·simp
 ·grind
 ·omega
 ·grind
 ·intro b l h1 p a;have:b=h.length:=by simp at p;omega
  subst this;rw[dS.jG]at a
  grind
theorem jR{h:a9}{b c:Nat}{k x:mm}(hx:(h.set b k)[c]?=some x):(c=b∧x=k∧b<h.length)∨(c≠b∧h[c]?=some x):=by
 grind
theorem Vw{b:Nat}(H:bG A φ h w base):bG A φ (h.set b ⟨[],false⟩) w base where
 pos:=by simpa using H.pos
 low:=H.low
 cells:=λc l k hl a i v g=>by
  rcases jR a with⟨rfl,rfl,_⟩|⟨_,e⟩
  ·simp at g
  ·exact H.cells c l k hl e i v g
 row:=λc l k hl a d=>by
  rcases jR a with⟨rfl,rfl,_⟩|⟨_,e⟩
  ·simp at d
  ·exact H.row c l k hl e d
 one:=λc n l l' k k' hl p a e d j he=>by
  rcases jR a with⟨rfl,rfl,_⟩|⟨_,o⟩
  ·simp at d
  ·rcases jR e with⟨rfl,rfl,_⟩|⟨_,m⟩
   ·simp at j
   ·exact H.one c n l l' k k' hl p o m d j he
 old:=λc l k hl a d f=>by
  rcases jR a with⟨rfl,rfl,_⟩|⟨_,e⟩
  ·simp at f
  ·exact H.old c l k hl e d f
theorem Vv{b lo:Nat}:Ext lo φ h w φ (h.set b ⟨[],false⟩) w where
 sub:=Sub.refl φ
 DF:=λc h1 d=>by simp at d;omega
 same:=λ_ _=>rfl
 len:=by simp
 mode:=λc k k' f g e=>by
  rcases jR g with⟨rfl,rfl,_⟩|⟨_,a⟩
  ·simp at e
  ·rw[f]at a;injection a with a;subst a;exact e
 size:=aa _
 os:=rfl
 tape:=rfl
 output:=rfl
 frame:=λ_ _ _=>rfl
 fresh:=λc l h1 d=>by simp at d;omega
theorem ag9{w':World}{h':a9}{b o:Nat}{l:Loc}{xs us:List Value}(H:bG A φ h w base)(p:storeAt h b o xs=some h')(hl:φ b=some l)
  (F:cM (iS A φ) xs us) (fc:w'.heap.size=w.heap.size) (hold:∀g,g≠l.g->w'.heap[g]?=w.heap[g]?)
  (iJ:∀cur ty lo hi,w.heap[l.g]?=some (.cells cur ty (lo,hi))->∃s,w'.heap[l.g]?=some (.cells s ty (lo,hi))∧s.size=cur.size∧
   ∀i,i<cur.size->s[i]?=if l.o+o<=i∧i<l.o+o+us.length then us[i-(l.o+o)]? else cur[i]?)
  (ho:w'.os=w.os) (ht:w'.tape=w.tape) (hp:w'.output=w.output):bG A φ h' w' base∧Ext w.heap.size φ h w φ h' w':=by
 unfold storeAt at p;cases r:h[b]? with
 |none=>simp[r]at p
 |some k=>
  simp only[r]at p;split at p
  ·rename_i hc;obtain⟨N,xC⟩:=hc;injection p with p;subst p;obtain⟨T,mN,cur,ty,lo,hi,M,vC,R⟩:=H.row b l k hl r N;obtain⟨s,O,X,S⟩:=iJ cur ty lo hi M;have LO:us.length=xs.length:=F.length.symm;have W:=(au.1 r).1;have V:∀c m a,φ c=some m->h[c]?=some a->c≠b->a.rw=true->m.g≠l.g:=λc m a h1 J K L h5=>K (H.one c b m l a k h1 hl J r L N h5);refine⟨⟨?_,?_,?_,?_,?_,?_⟩,⟨Sub.refl φ,?_,λ_ _=>rfl,by simp,?_,by omega,ho,ht,hp,?_,?_⟩⟩
   ·simpa using H.pos
   ·intro c m hm;rw[fc];exact H.low c m hm
   ·intro c m a hm q i v x;rcases jR q with⟨rfl,rfl,_⟩|⟨t,n⟩
    ·rw[hl]at hm;injection hm with hm;subst hm
     simp only[iK]at x;have hlen:i<k.cells.length:=by
      grind
     have hi:l.o+i<cur.size:=by omega
     have e:w'.cell? ⟨l.g,l.o+i,none⟩=if l.o+o<=l.o+i∧l.o+i<l.o+o+us.length then us[l.o+i-(l.o+o)]? else cur[l.o+i]?:=by simp only[World.cell?,O];simpa using S _ hi
     rw[e];by_cases Y:o<=i∧i<o+us.length
     ·rw[if_pos (by omega)];have B:xs[i-o]?=some v:=by
       grind
      obtain⟨u,hu,j⟩:=F.get _ _ B
      grind
     ·rw[if_neg (by omega)];have B:k.cells[i]?=some v:=by
       grind
      obtain⟨u,hu,j⟩:=H.cells _ l k hl r i v B;simp only[World.cell?,M]at hu
      grind
    ·obtain⟨u,hu,j⟩:=H.cells c m a hm n i v x;have D:m.g≠l.g:=by
      cases G:a.rw with
      |true=>exact V c m a hm n t G
      |false=>
       have P:a.cells≠[]:=λZ=>by rw[Z]at x;simp at x
       have:=H.old c m a hm n G P;omega
     exact⟨u,by rw[pK (hold _ D)];exact hu,j⟩
   ·intro c m a hm q j;rcases jR q with⟨rfl,rfl,_⟩|⟨t,n⟩
    ·rw[hl]at hm;injection hm with hm;subst hm
     refine⟨T,?_,s,ty,lo,hi,O,by omega,R⟩;simp[iK];omega
    ·obtain⟨h1,J,c1,t1,x1,y1,K,L⟩:=H.row c m a hm n j
     grind
   ·intro c I m m' a E hm vG q n j qL he;have f:∀(d:Nat) (y:mm),(h.set b ⟨iK k.cells o xs,true⟩)[d]?=some y->y.rw=true->∃z,h[d]?=some z∧z.rw=true:=by
     grind
    obtain⟨z,hz,U⟩:=f c a q j;obtain⟨z',Q,C⟩:=f I E n qL;exact H.one c I m m' z z' hm vG hz Q U C he
   ·intro c m a hm q j t;rcases jR q with⟨rfl,rfl,_⟩|⟨_,n⟩
    ·simp at j
    ·exact H.old c m a hm n j t
   ·grind
   ·grind
   ·grind
   ·grind
  ·simp at p
theorem I5{w':World}{b o:Nat}{l:Loc}{k:mm}{old new us:List Value}(H:bG A φ h w base)(hl:φ b=some l)(C:h[b]?=some k)(U:k.rw=true)
  (L:φ h.length=none) (I:∀(i:Nat) (v:Value),old[i]?=some v->k.cells[o+i]?=some v) (z:cM (iS A φ) new us)
  (xJ:l.o+o+old.length+new.length<=l.size) (fc:w'.heap.size=w.heap.size) (hold:∀g,g≠l.g->w'.heap[g]?=w.heap[g]?)
  (iJ:∀cur ty lo hi,w.heap[l.g]?=some (.cells cur ty (lo,hi))->∃D,w'.heap[l.g]?=some (.cells D ty (lo,hi))∧D.size=cur.size∧
   ∀i,i<cur.size->D[i]?=if l.o+o+old.length<=i∧i<l.o+o+old.length+us.length then us[i-(l.o+o+old.length)]? else cur[i]?)
  (ho:w'.os=w.os) (ht:w'.tape=w.tape) (hp:w'.output=w.output):
  bG A (φ.put h.length ⟨l.g,l.o+o,l.size,l.str⟩) (h.set b ⟨[],false⟩++[⟨old++new,true⟩]) w' base∧
   Ext w.heap.size φ h w (φ.put h.length ⟨l.g,l.o+o,l.size,l.str⟩) (h.set b ⟨[],false⟩++[⟨old++new,true⟩]) w':=by
 have E:=dS.Qx (φ:=φ) (b:=h.length) ⟨l.g,l.o+o,l.size,l.str⟩ L;obtain⟨K2,mN,cur,ty,lo,hi,T,vC,EG⟩:=H.row b l k hl C U;obtain⟨D,vD,Z,W⟩:=iJ cur ty lo hi T;have LO:us.length=new.length:=z.length.symm;have Y:=(au.1 C).1;have hlen:(h.set b ⟨[],false⟩).length=h.length:=by simp
 have X:∀c m a,φ c=some m->h[c]?=some a->c≠b->a.rw=true->m.g≠l.g:=λc m a h1 y R S h5=>R (H.one c b m l a k h1 hl y C S U h5);have s:∀{c:Nat} {x:mm},(h.set b ⟨[],false⟩++[⟨old++new,true⟩])[c]?=some x->
   (c=h.length∧x=⟨old++new,true⟩)∨(c=b∧x=⟨[],false⟩)∨(c≠b∧c<h.length∧h[c]?=some x):=by
  intro c x hx;rcases yQ hx with⟨n,rL⟩|⟨rfl,rfl⟩
  ·rcases jR rL with⟨rfl,rfl,_⟩|⟨t,J⟩
   ·exact .inr (.inl ⟨rfl,rfl⟩)
   ·exact .inr (.inr ⟨t,by omega,J⟩)
  ·exact .inl ⟨hlen,rfl⟩
 refine⟨⟨?_,?_,?_,?_,?_,?_⟩,⟨E,?_,?_,by simp,?_,by omega,ho,ht,hp,?_,?_⟩⟩
 ·simp
 ·intro c m hm;rw[fc];by_cases B:c=h.length
  ·subst B;rw[dS.jG]at hm;injection hm with hm;subst hm;exact H.low b l hl
  ·rw[dS.kE _ _ B]at hm;exact H.low c m hm
 ·intro c m a hm p i v j;rcases s p with⟨rfl,rfl⟩|⟨rfl,rfl⟩|⟨t,n,f⟩
  ·rw[dS.jG]at hm;injection hm with hm;subst hm
   simp only;have aLV:i<old.length+new.length:=by have:=(au.1 j).1;simp at this;omega
   have V:l.o+o+i<cur.size:=by omega
   have e:w'.cell? ⟨l.g,l.o+o+i,none⟩=if l.o+o+old.length<=l.o+o+i∧l.o+o+i<l.o+o+old.length+us.length then us[l.o+o+i-(l.o+o+old.length)]? else cur[l.o+o+i]?:=by simp only[World.cell?,vD];simpa using W _ V
   rw[e];rcases fV i old.length with q|q
   ·rw[if_neg (by omega)];rw[ai q]at j;obtain⟨u,hu,d⟩:=H.cells b l k hl C (o+i) v (I i v j);simp only[World.cell?,T]at hu;exact⟨u,by simpa [dR]using hu,d.mono A E⟩
   ·rw[if_pos (by omega)];rw[aX q]at j;obtain⟨u,hu,d⟩:=z.get _ _ j;exact⟨u,by rw[show l.o+o+i-(l.o+o+old.length)=i-old.length by omega];exact hu,d.mono A E⟩
  ·simp at j
  ·rw[dS.kE _ _ (dO n)]at hm;obtain⟨u,hu,d⟩:=H.cells c m a hm f i v j;have K:m.g≠l.g:=by
    cases O:a.rw with
    |true=>exact X c m a hm f t O
    |false=>
     have F:a.cells≠[]:=λe0=>by rw[e0]at j;simp at j
     have:=H.old c m a hm f O F;omega
   exact⟨u,by rw[pK (hold _ K)];exact hu,d.mono A E⟩
 ·intro c m a hm p d;rcases s p with⟨rfl,rfl⟩|⟨rfl,rfl⟩|⟨t,n,f⟩
  ·rw[dS.jG]at hm;injection hm with hm;subst hm
   grind
  ·simp at d
  ·rw[dS.kE _ _ (dO n)]at hm;obtain⟨h1,y,c1,t1,x1,y1,R,S⟩:=H.row c m a hm f d
   grind
 ·intro c c' m m' a M hm r p f d N he;rcases s p with⟨rfl,rfl⟩|⟨rfl,rfl⟩|⟨t,n,sk⟩
  ·rcases s f with⟨rfl,rfl⟩|⟨rfl,rfl⟩|⟨F,G,P⟩
   ·rfl
   ·simp at N
   ·rw[dS.jG]at hm;injection hm with hm;subst hm
    rw[dS.kE _ _ (dO G)]at r
    grind
  ·simp at d
  ·rw[dS.kE _ _ (dO n)]at hm;rcases s f with⟨rfl,rfl⟩|⟨rfl,rfl⟩|⟨F,G,P⟩
   ·rw[dS.jG]at r;injection r with r;subst r
    grind
   ·simp at N
   ·rw[dS.kE _ _ (dO G)]at r;exact H.one c c' m m' a M hm r sk P d N he
 ·intro c m a hm p d Q;rcases s p with⟨rfl,rfl⟩|⟨rfl,rfl⟩|⟨t,n,f⟩
  ·simp at d
  ·simp at Q
  ·rw[dS.kE _ _ (dO n)]at hm;exact H.old c m a hm f d Q
 ·intro c h1 y;have:c=h.length:=by simp at y;omega
  subst this;rw[dS.jG];simp
 ·intro c B;rw[dS.kE];simp at B;omega
 ·grind
 ·grind
 ·intro c m h1 y hm;have:c=h.length:=by simp at y;omega
  subst this;rw[dS.jG]at hm
  grind
theorem sJ{b o n:Nat}{l:Loc}{cs:List Value}(H:bG A φ h w base)(hl:φ b=some l)(c:aZ h b o n=some cs):
  cs.length=n∧∃us,us.length=n∧cM (iS A φ) cs us∧∀j u,us[j]?=some u->w.cell? ⟨l.g,l.o+o+j,none⟩=some u:=by
 unfold aZ at c;cases d:h[b]? with
 |none=>simp[d]at c
 |some k=>
  simp only[d]at c;split at c
  ·rename_i s;injection c with c;have hlen:cs.length=n:=by subst c;simp;omega
   have f:∀j,j<n->∃u,w.cell? ⟨l.g,l.o+o+j,none⟩=some u∧∀v,cs[j]?=some v->iS A φ v u:=by
    intro j p;obtain⟨v,r⟩:∃v,cs[j]?=some v:=⟨_,ah (by omega)⟩;have e:k.cells[o+j]?=some v:=by
     grind
    obtain⟨u,hu,q⟩:=H.cells b l k hl d (o+j) v e
    grind
   refine⟨hlen,(List.range n).map λj=>(w.cell? ⟨l.g,l.o+o+j,none⟩).getD undef,by simp,?_,?_⟩
   ·refine cM.Bv (by simp[hlen]) λi a u m hu=>?_
    grind
   ·grind
  ·simp at c
theorem ahZ{b o:Nat}{l:Loc}{v:Value}(H:bG A φ h w base)(hl:φ b=some l)(a:cell h b o=some v):∃u,w.cell? ⟨l.g,l.o+o,none⟩=some u∧iS A φ v u:=by
 unfold cell at a;cases c:h[b]? with
 |none=>simp[c]at a
 |some k=>simp only[c]at a;exact H.cells b l k hl c o v a
end
end Am
namespace Am
open Go
section
variable {A : iG} {φ : dS} {h : a9} {w : World} {base : Nat}
def gy(A:iG)(φ:dS)(h:a9)(w:World)(base:Nat)(v:Value)(h':a9)(s:Sem Value):Prop:=
 ∃u w' a,s.run A.P w=.ok u w'∧VR A a v u∧bG A a h' w' base∧Ext w.heap.size φ h w a h' w'
theorem gy.pure{v u:Value}{s:Sem Value}(H:bG A φ h w base)(a:s.run A.P w=.ok u w)(b:VR A φ v u):gy A φ h w base v h s:=
 ⟨u,w,φ,a,b,H,Ext.refl _ _ _ _⟩
theorem A4{v x:Value}(a:Cb v=some x):iS A φ x v:=by
 unfold Cb at a;split at a<;>first|(injection a with a;subst a;exact rfl)|skip
 ·injection a with a;subst a;exact⟨rfl,none,0,rfl,aa _,λ_=>rfl,λh0=>absurd rfl h0,⟨λ_=>⟨rfl,rfl⟩,λ_=>rfl⟩⟩
 ·simp at a
theorem Jk:∀{l:List Value} {xs:List Value},HP l=some xs->cM (iS A φ) xs l
 |[],xs,a=>by simp[HP]at a;subst a;exact trivial
 |v::r,xs,a=>by
  unfold HP at a;split at a
  ·rename_i x c h1 b;injection a with a;subst a;exact⟨A4 h1,Jk b⟩
  ·simp at a
theorem NS{v x:Value}(a:cv v=some x):VR A φ x v:=by
 unfold cv at a;split at a
 ·rename_i cs;cases hl:HP cs.toList with
  |none=>simp[hl]at a
  |some l=>
   simp[hl]at a;subst a;exact⟨cs,rfl,by simpa using Jk hl⟩
 ·exact VR.YB (A4 a)
theorem Ui{v x:Value}(a:Cb v=some x):v.cells=#[v]:=by unfold Cb at a;split at a<;>first|rfl|simp at a
theorem uJ{t:TypeId}{n:Nat}(a:fj A t=some n):∃i,A.P.info? t=some i∧i.size=n:=by
 unfold fj at a;split at a
 ·rename_i i d h1 b;injection a with a;exact⟨i,h1,a⟩
 ·simp at a
theorem Gu{t:TypeId}{n:Nat}(a:fj A t=some n):∃d,A.P.underlying t=some d:=by
 unfold fj at a;split at a
 ·rename_i i d h1 b;exact⟨d,b⟩
 ·simp at a
theorem run_sizeOf{t:TypeId}{n:Nat}(a:fj A t=some n)(w:World):(Go.sizeOf t).run A.P w=.ok n w:=by obtain⟨i,hi,rfl⟩:=uJ a;simp[Go.sizeOf,typeInfo,hi]
theorem ahv{t:TypeId}{z:Value}(a:Ef A t=some z)(w:World):∃u,(zeroValue t).run A.P w=.ok u w∧VR A φ z u:=by
 unfold Ef at a;cases hi:A.P.info? t with
 |none=>simp[hi]at a
 |some i=>
  cases h0:i.zero with
  |none=>simp[hi,h0]at a
  |some u=>simp[hi,h0]at a;exact⟨u,by simp[zeroValue,typeInfo,hi,h0],NS a⟩
theorem qG{t:TypeId}{z:List Value}(b:nG A t=some z):∃i u,A.P.info? t=some i∧i.zero=some u∧cM (iS A φ) z u.cells.toList:=by
 unfold nG at b;cases hi:A.P.info? t with
 |none=>simp[hi]at b
 |some i=>
  cases h0:i.zero with
  |none=>simp[hi,h0]at b
  |some u=>
   simp only[hi,h0,gB]at b;refine⟨i,u,rfl,h0,?_⟩;cases a:cv u with
   |none=>simp[a]at b
   |some x=>
    rw[a]at b;unfold cv at a;split at a
    ·rename_i cs;cases hl:HP cs.toList with
     |none=>simp[hl]at a
     |some l=>
      simp[hl]at a;subst a;simp at b;subst b;simpa [Value.cells]using Jk hl
    ·have hx:[x]=z:=by have:=iS.scalar (A4 (A:=A) (φ:=φ) a);cases x<;>simp[Am.scalar]at this<;>simpa using b
     subst hx;rw[Ui a];exact⟨A4 a,trivial⟩
theorem HB{t:TypeId}{d:TypeDesc}(hu:A.P.underlying t=some d)(w:World):(isAgg t).run A.P w=.ok (qy A t) w:=by unfold isAgg qy;simp only[Sem.run_bind,run_underlying hu,Result.andThen_ok,hu];cases d<;>rfl
theorem Tv(g o n:Nat):(⟨g,o,none⟩:Addr).add n=⟨g,o+n,none⟩:=Addr.add_lit g o n
theorem jX{g o:Nat}{us:List Value}(a:∀(j:Nat) (u:Value),us[j]?=some u->w.cell? ⟨g,o+j,none⟩=some u):(loadCells ⟨g,o,none⟩ us.length).run A.P w=.ok us.toArray w:=
 run_loadCells_list (P:=A.P) w ⟨g,o,none⟩ us λj u hu=>by rw[Tv];exact a j u hu
theorem kG{P:Program}(g o:Nat)(t lo hi:Nat):∀(vs:List Value) (i:Nat) (cur:Array Value) (w:World),w.heap[g]?=some (.cells cur t (lo,hi))->o+i+vs.length<=cur.size->
  (∀j,j<cur.size->¬(lo<=j∧j<hi))->(∀v∈vs,v.oneCell'=true)->
  (storeCells ⟨g,o,none⟩ vs i).run P w=.ok () (w.setRow g (cur.toList.take (o+i)++vs++cur.toList.drop (o+i+vs.length)).toArray)
 |[],i,cur,w,a,_,_,_=>by
  simp only[storeCells,gH,aF,bA,gb,Array.toArray_toList];rw[setRow_self w g cur t (lo,hi) a];rfl
 |v::rest,i,cur,w,a,hl,d,h1=>by
  have iY:o+i<cur.size:=by simp at hl;omega
  have c:(⟨g,o,none⟩:Addr).add i=⟨g,o+i,none⟩:=Tv g o i;have e:w.cell? ⟨g,o+i,none⟩=some cur[o+i]:=by simp[World.cell?,a,iY]
  have b:w.frozen? ⟨g,o+i,none⟩=false:=by have:=d (o+i) iY;simp only[World.frozen?,a,jP,decide_eq_false_iff_not];omega
  have f:(store ((⟨g,o,none⟩:Addr).add i) v).run P w=.ok () (w.setRow g (cur.setIfInBounds (o+i) v)):=by rw[c,run_store P w _ v _ (h1 v (by simp)),e];simp[b,setCell_eq_setRow w g (o+i) cur t (lo,hi) v a]
  have ih:=kG (P:=P) g o t lo hi rest (i+1) (cur.setIfInBounds (o+i) v) (w.setRow g (cur.setIfInBounds (o+i) v)) (setRow_heap w g cur _ t _ a) (by simp at hl ⊢;omega) (by simpa using d) (λx hx=>h1 x (by simp[hx]));simp only[storeCells,Sem.run_bind,f,Result.andThen_ok,ih,setRow_setRow]
  congr 3
  simp only[mE];have:=list_seg_step cur.toList (o+i) v rest (by simp at hl ⊢;omega);simpa [dR]using this
theorem ad7{cur us:List Value}{p:Nat}(b:p+us.length<=cur.length)(i:Nat)(hi:i<cur.length):
  (cur.take p++us++cur.drop (p+us.length))[i]?=if p<=i∧i<p+us.length then us[i-p]? else cur[i]?:=by
 rw[cC];by_cases h1:i<p
 ·rw[if_neg (by omega),ai (by simp;omega),bO h1]
 ·rw[aX (by simp;omega)];rw[bu,show min p cur.length=p by omega];by_cases a:i<p+us.length
  ·rw[if_pos (by omega),ai (by omega)]
  ·rw[if_neg (by omega),aX (by omega),dU,show p+us.length+(i-p-us.length)=i by omega]
theorem yU{g p:Nat}{us:List Value}{a:Array Value}{b e j:Nat}(h:w.heap[g]?=some (.cells a b (e,j)))(n:p+us.length<=a.size):
  ∀cur ty lo hi,w.heap[g]?=some (.cells cur ty (lo,hi))->∃f,(w.setRow g (a.toList.take p++us++a.toList.drop (p+us.length)).toArray).heap[g]?=some (.cells f ty (lo,hi))∧f.size=cur.size∧
   ∀i,i<cur.size->f[i]?=if p<=i∧i<p+us.length then us[i-p]? else cur[i]?:=by
 intro cur ty lo hi c;rw[h]at c;injection c with c;injection c with k l d;subst k;subst l;injection d with d m;subst d;subst m;refine⟨_,setRow_heap w g a _ b _ h,?_,?_⟩
 ·simp;omega
 ·intro i hi;have:=ad7 (cur:=a.toList) (us:=us) (p:=p) (by simpa using n) i (by simpa using hi);simpa using this
theorem tq{xs us:List Value}(a:cM (iS A φ) xs us):∀u∈us,u.oneCell'=true:=by intro u hu;obtain⟨i,hi⟩:=rm hu;obtain⟨x,_,h0⟩:=a.get' i u hi;exact h0.one
theorem yT{h':a9}{b o:Nat}{l:Loc}{xs us:List Value}(H:bG A φ h w base)(a:storeAt h b o xs=some h')(hl:φ b=some l)(d:cM (iS A φ) xs us):
  ∃w',(storeCells ⟨l.g,l.o+o,none⟩ us).run A.P w=.ok () w'∧bG A φ h' w' base∧Ext w.heap.size φ h w φ h' w':=by
 have e:=a;unfold storeAt at a;cases f:h[b]? with
 |none=>simp[f]at a
 |some k=>
  simp only[f]at a;split at a
  ·rename_i q;obtain⟨s,C⟩:=q;obtain⟨z,B,cur,ty,lo,hi,j,u,m⟩:=H.row b l k hl f s;have hlen:=d.length;have i:=kG (P:=A.P) l.g (l.o+o) ty lo hi us 0 cur w j (by omega) (by rw[u];exact m.1) (tq d);simp only[bA]at i;have n:=ag9 (w':=w.setRow l.g (cur.toList.take (l.o+o)++us++cur.toList.drop (l.o+o+us.length)).toArray) H e hl d (by simp)
    (λg v=>setRow_other w l.g g _ v) (λc t x y r=>yU (p:=l.o+o) j (by omega) c t x y r) rfl rfl rfl
   exact⟨_,i,n⟩
  ·simp at a
theorem LQ{t:TypeId}{n b o:Nat}{l:Loc}{v:Value}(H:bG A φ h w base)(i:fj A t=some n)(hl:φ b=some l)
  (a:su (if qy A t then n+1 else 0) h (pt b o)=some v):∃u,(loadVar t ⟨l.g,l.o+o,none⟩).run A.P w=.ok u w∧VR A φ v u:=by
 obtain⟨d,hu⟩:=Gu i;unfold loadVar;simp only[Sem.run_bind,HB hu,Result.andThen_ok];cases f:qy A t with
 |false=>
  simp only[f,ax,if_false,su,if_true]at a ⊢;obtain⟨u,c,e⟩:=ahZ H hl a;exact⟨u,by simp[c],VR.YB e⟩
 |true=>
  simp only[f,if_true,su]at a ⊢;rw[if_neg (by omega)]at a;cases c:aZ h b o n with
  |none=>simp[c]at a
  |some cs=>
   simp[c]at a;subst a;obtain⟨hlen,us,j,e,k⟩:=sJ H hl c;refine⟨.agg us.toArray,?_,us.toArray,rfl,by simpa using e⟩;simp only[Sem.run_bind,run_sizeOf i,Result.andThen_ok];have:=jX (A:=A) (w:=w) (g:=l.g) (o:=l.o+o) (us:=us) k;rw[j]at this;simp[this]
theorem Wy{t:TypeId}{n b o:Nat}{l:Loc}{x u:Value}{cs:List Value}{h':a9}(H:bG A φ h w base)(k:fj A t=some n)(hl:φ b=some l)
  (j:cellsOf x=some cs) (hn:cs.length=n) (e:storeAt h b o cs=some h') (hx:VR A φ x u):
  ∃w',(storeVar t ⟨l.g,l.o+o,none⟩ u).run A.P w=.ok () w'∧bG A φ h' w' base∧Ext w.heap.size φ h w φ h' w':=by
 have a:=zF j hx;obtain⟨w',c,i,f⟩:=yT H e hl a;refine⟨w',?_,i,f⟩;have d:u.cells.size=n:=by rw[<-hn,a.length];simp
 simp[storeVar,run_sizeOf k,d,c]
theorem O1{e:TypeId}{cs:List Value}{us:Array Value}(H:bG A φ h w base)(b:base<=w.heap.size)(a:φ h.length=none)(f:cM (iS A φ) cs us.toList):
  (newRow e us).run A.P w=.ok ⟨w.heap.size,0,none⟩ (w.alloc (.cells us e))∧bG A (φ.put h.length ⟨w.heap.size,0,us.size,false⟩) (h++[⟨cs,true⟩]) (w.alloc (.cells us e)) base∧
   Ext w.heap.size φ h w (φ.put h.length ⟨w.heap.size,0,us.size,false⟩) (h++[⟨cs,true⟩]) (w.alloc (.cells us e)):=by
 refine⟨by simp[newRow],?_⟩;exact CY (ty:=e) (lo:=0) (hi:=0) false (by omega) H b a f (λi v d=>by simpa using d) (by simp) (λg c=>heap_alloc_old w _ g c) (heap_alloc_new w _) (λi _=>by omega) rfl rfl rfl
end
end Am
namespace Am
open Go
section
variable {A : iG} {φ : dS} {h : a9} {w : World} {base : Nat}
theorem R6{e:TypeId}{n:Nat}{x u v:Value}{h':a9}(H:bG A φ h w base)(j:base<=w.heap.size)(c:φ h.length=none)(hx:VR A φ x u)(a:Ai n x h=some (v,h')):
  gy A φ h w base v h' (do pure (.pointer (some (<-newVar e u)))):=by
 unfold Ai at a;cases b:cellsOf x with
 |none=>simp[b]at a
 |some cs=>
  simp only[b]at a;split at a
  ·injection a with a;injection a with h1 f;subst h1;subst f;obtain⟨d,i,g⟩:=O1 (e:=e) H j c (zF b hx);exact⟨_,_,_,by simp[newVar,d],⟨rfl,_,dS.jG _ _ _,rfl⟩,i,g⟩
  ·simp at a
theorem ash{e:TypeId}{n:Nat}{x u v:Value}{h':a9}(H:bG A φ h w base)(c:base<=w.heap.size)(a:φ h.length=none)(hx:VR A φ x u)(b:Ai n x h=some (v,h')):
  gy A φ h w base v h' (Instr.box e u):=R6 H c a hx b
theorem ajL{e:TypeId}{n:Nat}{z v:Value}{h':a9}(H:bG A φ h w base)(f:base<=w.heap.size)(a:φ h.length=none)(i:Ef A e=some z)(d:Ai n z h=some (v,h')):
  gy A φ h w base v h' (Instr.alloc e true (.tuple #[])):=by
 obtain⟨u,hu,g⟩:=ahv (φ:=φ) i w;obtain⟨x,w',b,c,rest⟩:=R6 (e:=e) H f a g d;refine⟨x,w',b,?_,rest⟩;simpa [Instr.alloc,hu]using c
theorem Rf(off:Nat):∀(l:List Value) (i:Nat) (cells:Array Value),off+i+l.length<=cells.size->
  ((l.zipIdx i).foldl (λcs (p:Value×Nat)=>cs.setIfInBounds (off+p.2) p.1) cells).toList=cells.toList.take (off+i)++l++cells.toList.drop (off+i+l.length)
 |[],i,cells,_=>by simp
 |v::r,i,cells,hl=>by
  simp only[List.zipIdx_cons,gI];rw[Rf off r (i+1) _ (by simp at hl ⊢;omega)];simp only[mE];have:=list_seg_step cells.toList (off+i) v r (by simp at hl ⊢;omega);simpa [dR]using this
theorem W4(off:Nat)(v cells:Array Value)(hl:off+v.size<=cells.size):
  (v.zipIdx.foldl (λcs (c,j)=>cs.setIfInBounds (off+j) c) cells).toList=iK cells.toList off v.toList:=by
 have:=Rf off v.toList 0 cells (by simpa using hl);simp only[bA]at this;rw[<-ph,Array.toList_zipIdx];exact this
theorem PC{cs us xs vs:List Value}{o:Nat}(a:cM (iS A φ) cs us)(hx:cM (iS A φ) xs vs):cM (iS A φ) (iK cs o xs) (iK us o vs):=by unfold iK;rw[hx.length];exact((a.take o).append hx).append (a.drop _)
theorem Qk{cs xs:List Value}{o:Nat}(hl:o+xs.length<=cs.length):(iK cs o xs).length=cs.length:=by simp[iK];omega
def Nw(A:iG)(φ:dS)(place:Nat->Option (Nat×Nat)):List (Nat×Value)->List (Nat×Value)->Prop:=
 cM λp q=>(∃off n,place q.1=some (off,n)∧p.1=1000*off+n∧n<1000)∧VR A φ p.2 q.2
theorem HU{place:Nat->Option (Nat×Nat)}:∀{ps g:List (Nat×Value)} {cs out:List Value} {cells:Array Value},Nw A φ place ps g->cM (iS A φ) cs cells.toList->
  yJ ps cs=some out->∃res,Instr.fill place cells g=some res∧cM (iS A φ) out res.toList
 |[],[],cs,out,cells,_,b,a=>by
  simp[yJ]at a;subst a;exact⟨cells,by simp[Instr.fill],b⟩
 |(p,v)::ps,(i,u)::g,cs,out,cells,hp,b,a=>by
  obtain⟨⟨⟨off,n,l,e,hn⟩,k⟩,d⟩:=hp;simp only at l e k;unfold yJ at a;cases f:cellsOf v with
  |none=>simp[f]at a
  |some xs=>
   simp only[f]at a;split at a
   ·rename_i t;have q:p%1000=n:=by omega
    have h:p/1000=off:=by omega
    rw[q,h]at t;rw[h]at a;have hx:=zF f k;have hlen:=hx.length;have s:=b.length;simp only[j8]at hlen s;have m:=W4 off u.cells cells (by omega);have w:cM (iS A φ) (iK cs off xs) (u.cells.zipIdx.foldl (λcs (c,j)=>cs.setIfInBounds (off+j) c) cells).toList:=by rw[m];exact PC b hx
    obtain⟨res,o,r⟩:=HU d w a;refine⟨res,?_,r⟩;simp only[Instr.fill,l];rw[if_neg (by simp;omega)];exact o
   ·simp at a
theorem W6{a:List Field}(c:a.all λf=>(fj A f.type).isSome):
  ∃d,a.mapM (λf=>(A.P.info? f.type).map λi=>(f.offset,i.size))=some d∧∀(i:Nat) (f:Field) (n:Nat),a[i]?=some f->fj A f.type=some n->d[i]?=some (f.offset,n):=by
 induction a with
 |nil=>exact⟨[],by simp,by simp⟩
 |cons f a ih=>
  simp only[sx,aH]at c;obtain⟨n,hn⟩:=jQ.1 c.1;obtain⟨h,hi,rfl⟩:=uJ hn;obtain⟨pl,j,e⟩:=ih c.2;refine⟨(f.offset,h.size)::pl,by simp[List.mapM_cons,hi,j],?_⟩;intro i g m b hm;cases i with
  |zero=>
   simp at b;subst b;rw[hn]at hm;injection hm with hm;subst hm
   simp
  |succ i=>simpa using e i g m (by simpa using b) hm
theorem O7{t:TypeId}{d:Array Field}{z:Array Value}{ps c:List (Nat×Value)}{v:Value}(H:bG A φ h w base)(hu:A.P.underlying t=some (.struct d))(a:Ef A t=some (.agg z))
  (B:d.toList.all λf=>(fj A f.type).isSome)
  (g:cM (λp q=>(∃f n,d[q.1]?=some f∧fj A f.type=some n∧n<1000∧p.1=1000*f.offset+n)∧VR A φ p.2 q.2) ps c) (b:El ((0,.agg z)::ps)=some v):
  gy A φ h w base v h (Instr.build t c.toArray):=by
 unfold El at b;cases e:yJ ps z.toList with
 |none=>simp[e]at b
 |some out=>
  simp[e]at b;subst b;unfold Ef at a;cases hi:A.P.info? t with
  |none=>simp[hi]at a
  |some i=>
   cases h0:i.zero with
   |none=>simp[hi,h0]at a
   |some D=>
    simp[hi,h0]at a;obtain⟨us,rfl,k⟩:=VR.Av (NS (A:=A) (φ:=φ) a);obtain⟨m,C,l⟩:=W6 B;have u:Nw A φ (λi=>m[i]?) ps c:=by refine g.mono ?_;rintro p q⟨⟨f,n,h1,o,r,s⟩,y⟩;exact⟨⟨f.offset,n,l _ f n (by simpa using h1) o,s,r⟩,y⟩
    obtain⟨res,j,x⟩:=HU u k e;refine gy.pure H (run_build w t c.toArray res ?_) ⟨res,rfl,by simpa using x⟩;unfold Program.built;simp only[hi,hu,h0,C,Value.cells];simpa using j
theorem Qp{t e:TypeId}{k n:Nat}{z:Array Value}{ps c:List (Nat×Value)}{v:Value}(H:bG A φ h w base)(hu:A.P.underlying t=some (.array k e))(a:Ef A t=some (.agg z))
  (hn:fj A e=some n) (x:n<1000) (j:cM (λp q=>p.1=1000*(q.1*n)+n∧VR A φ p.2 q.2) ps c) (b:El ((0,.agg z)::ps)=some v):
  gy A φ h w base v h (Instr.build t c.toArray):=by
 unfold El at b;cases d:yJ ps z.toList with
 |none=>simp[d]at b
 |some out=>
  simp[d]at b;subst b;unfold Ef at a;cases hi:A.P.info? t with
  |none=>simp[hi]at a
  |some i=>
   cases h0:i.zero with
   |none=>simp[hi,h0]at a
   |some y=>
    simp[hi,h0]at a;obtain⟨us,rfl,m⟩:=VR.Av (NS (A:=A) (φ:=φ) a);obtain⟨g,f,o⟩:=uJ hn;have r:Nw A φ (λi=>some (i*g.size,g.size)) ps c:=by refine j.mono ?_;rintro p q⟨h1,u⟩;exact⟨⟨q.1*n,n,by rw[o],h1,x⟩,u⟩
    obtain⟨res,l,s⟩:=HU r m d;refine gy.pure H (run_build w t c.toArray res ?_) ⟨res,rfl,by simpa using s⟩;unfold Program.built;simp only[hi,hu,h0,f,Value.cells];simpa using l
theorem LA{α:Type}{c:List α}(a:0<c.length):∀(n i:Nat),i<n*c.length->(List.replicate n c).flatten[i]?=c[i%c.length]?
 |0,i,hi=>by simp at hi
 |n+1,i,hi=>by
  rw[fJ,cK];by_cases h1:i<c.length
  ·rw[ai h1,ff h1]
  ·have hm:(n+1)*c.length=n*c.length+c.length:=pF n c.length;rw[aX (by omega),LA a n (i-c.length) (by omega)];rw[<-Nat.mod_eq_sub_mod (show i>=c.length by omega)]
theorem xt(n:Nat)(c:List Value):(jN n c).length=n*c.length:=by simp[jN]
theorem M3{n:Nat}{c:List Value}{us:Array Value}{m:Nat}(g:cM (iS A φ) c us.toList)(k:0<c.length)(hm:n*c.length<=m):
  cM (iS A φ) (jN n c) (((Array.range m).map (us[·%us.size]!)).toList.take (n*c.length)):=by
 have hl:=g.length;simp only[j8]at hl;refine cM.Bv (by simp[jN];omega) λi a b f e=>?_;have hi:i<n*c.length:=by have:=(au.1 f).1;rwa [xt]at this
 have h1:c[i%c.length]?=some a:=by rw[<-LA k n i hi];exact f
 obtain⟨u,hu,j⟩:=g.get _ _ h1;rw[bO hi]at e;have d:i%us.size<us.size:=kL _ (by omega);have l:b=us[i%us.size]!:=by
  have:i<m:=by omega
  simp[this]at e;exact e.symm
 rw[hl]at hu;have:us[i%us.size]! =u:=by
  rw[getElem!_pos us _ d];have h:us.toList[i%us.size]?=some us[i%us.size]:=by simp[d]
  rw[h]at hu;injection hu
 rw[l,this];exact j
theorem anh{t e:TypeId}{z:Nat}{c:List Value}{x y u1 u2 v:Value}{h':a9}(H:bG A φ h w base)(L:base<=w.heap.size)(m:φ h.length=none)(hu:A.P.underlying t=some (.slice e))
  (R:fj A e=some z) (M:nG A e=some c) (Y:0<z) (s:c.length=z) (C:(A.P.info? e).map (decide<|·.bytes<=4096)=some true)
  (hx:VR A φ x u1) (hy:VR A φ y u2) (b:nR z h x y (.agg c.toArray)=some (v,h')):gy A φ h w base v h' (Instr.makeSlice t u1 u2):=by
 unfold nR at b;split at b
 ·rename_i l a W heq;injection heq with heq;subst heq;split at b
  ·rename_i S;injection b with b;injection b with h1 J;subst h1;subst J;have T:=VR.mV hx;have D:=VR.mV hy;subst T;subst D;obtain⟨i,d,hi,h0,r⟩:=qG (φ:=φ) M;obtain⟨X,iY,o⟩:=uJ R;rw[hi]at iY;injection iY with iY;subst iY
   have V:i.bytes<=4096:=by simpa [hi]using C
   obtain⟨u,B,n,N⟩:=S;simp only[maxSize]at n;have F:a<=1073741824:=n;have E:(i.bytes:Int)*a<=281474976710656:=by
    have h1:(i.bytes:Int)<=4096:=by omega
    have:(i.bytes:Int)*a<=4096*a:=lV h1 (by omega);omega
   have G:=run_make (P:=A.P) w t e i d hu hi h0 .i64 .i64 l a u B E (by omega);have U:d.cells.size=z:=by have:=r.length;simp at this;omega
   have hle:l.toNat*z<=a.toNat*i.size:=by rw[o];exact bM _ (by omega)
   have f:(madeCells d.cells (a.toNat*i.size))=(Array.range (a.toNat*i.size)).map (d.cells[·%d.cells.size]!):=rfl;have K:cM (iS A φ) (jN l.toNat c) ((madeCells d.cells (a.toNat*i.size)).toList.take (l.toNat*c.length)):=by rw[f];exact M3 r (by omega) (by rw[s];exact hle)
   have p:=CY (w':=w.alloc (.cells (madeCells d.cells (a.toNat*i.size)) e)) (cs:=jN l.toNat c) (ty:=e) (lo:=0) (hi:=0) false (by omega) H L m K
    (λj v k=>by
     have Q:j<l.toNat*c.length:=by have:=(au.1 k).1;simp at this;omega
     rw[bO Q]at k;simpa using k) (by simp) (λg O=>heap_alloc_old w _ g O) (heap_alloc_new w _) (λi _=>by omega) rfl rfl rfl
   have q:h.length≠0:=by have:=H.pos;omega
   refine⟨_,_,_,G,⟨rfl,_,_,rfl,by omega,λI=>absurd I q,λ_=>⟨_,dS.jG _ _ _,.inr ⟨rfl,?_,?_⟩⟩,⟨λe=>(by cases e),λe=>absurd e.1 q⟩⟩,by simpa using p.1,by simpa using p.2⟩
   ·simp[size_madeCells,o]
   ·intro e;cases e
  ·simp at b
 ·simp at b
theorem SH{t e:TypeId}{z n:Nat}{c:List Value}{ps u:List (Nat×Value)}{v:Value}{h':a9}(H:bG A φ h w base)(N:base<=w.heap.size)(s:φ h.length=none)(hu:A.P.underlying t=some (.slice e))
  (S:fj A e=some z) (O:nG A e=some c) (X:0<z) (g:c.length=z) (Q:n*z<=65536) (U:n≠0) (E:z<1000)
  (D:cM (λp q=>p.1=1000*(q.1*z)+z∧VR A φ p.2 q.2) ps u) (b:aW z n h ((0,.agg (jN n c).toArray)::ps)=some (v,h')):
  gy A φ h w base v h' (Instr.buildSlice t n u.toArray):=by
 unfold aW at b;have k:(jN n c).toArray.size=n*z:=by simp[xt,g]
 simp only[k,if_true]at b;cases a:yJ ps (jN n c)with
 |none=>simp[a]at b
 |some out=>
  simp only[a,dC]at b;injection b with b;injection b with h1 J;subst h1;subst J;obtain⟨i,d,hi,h0,C⟩:=qG (φ:=φ) O;have V:d.cells.size=z:=by have:=C.length;simp at this;omega
  have x:=M3 (n:=n) (m:=n*z) C (by omega) (by rw[g];exact aa _);have o:(((Array.range (n*z)).map (d.cells[·%d.cells.size]!)).toList.take (n*c.length))=((Array.range (n*z)).map (d.cells[·%d.cells.size]!)).toList:=by apply aY;simp[g]
  rw[o]at x;have M:Nw A φ (λi=>some (i*z,z)) ps u:=by refine D.mono ?_;rintro p q⟨h1,R⟩;exact⟨⟨q.1*z,z,rfl,h1,E⟩,R⟩
  obtain⟨res,F,y⟩:=HU M x a;obtain⟨G,L,K⟩:=O1 (e:=e) H N s y;have B:h.length≠0:=by have:=H.pos;omega
  have r:(zeroValue e).run A.P w=.ok d w:=by simp[zeroValue,typeInfo,hi,h0]
  have j:¬n*z=0:=by intro f;rcases mJ.1 f with f|f<;>omega
  refine⟨.slice (some ⟨w.heap.size,0,none⟩) n n,_,_,?_,⟨rfl,_,_,rfl,aa _,λf=>absurd f B,λ_=>⟨_,dS.jG _ _ _,.inr ⟨rfl,?_,?_⟩⟩,⟨λe=>(by cases e),λe=>absurd e.1 B⟩⟩,L,K⟩
  ·have l:¬(16777216<n*z):=by omega
   simp only[Instr.buildSlice,Sem.run_bind,run_underlying hu,Result.andThen_ok,run_sizeOf S];simp[l,j,r,F,G]
  ·have hlen:res.size=n*z:=by
    have I:=y.length;have W:out.length=n*z:=by
     have:∀(ps:List (Nat×Value)) (cs out:List Value),yJ ps cs=some out->out.length=cs.length:=by
      intro ps
      induction ps with
      |nil=>intro cs out a;simp[yJ]at a;subst a;rfl
      |cons p ps ih=>
       intro cs out a;obtain⟨p,v⟩:=p;unfold yJ at a;split at a
       ·split at a
        ·rename_i T;rw[ih _ _ a,Qk T.2]
        ·simp at a
       ·simp at a
     rw[this _ _ _ a,xt,g]
    simp at I;omega
   simp[hlen]
  ·intro e;cases e
end
end Am
namespace Am
open Go
section
variable {A : iG} {φ : dS} {h : a9} {w : World} {base : Nat}
theorem amS(a b:Int):(a==b)=decide (a=b):=by
 grind
theorem amT(a b:Int):(a !=b)=decide (a≠b):=by
 grind
theorem ahB{o:BinOp}{k j:IntKind}{a b:Int}{v:Value}(t:TypeId)(x y:Operand)(c:PQ o k a j b=some v)(w:World):
  (do eqGuard o t x y (.int k a) (.int j b);binOp o t (.int k a) (.int j b):Sem Value).run A.P w=.ok v w:=by
 rw[eqGuard_at_int];simp only[Sem.run_bind,Sem.run_pure,Result.andThen_ok];unfold PQ at c;cases o<;>simp only at c<;>split at c<;>first|(simp at c;done)|skip
 all_goals (injection c with c;subst c)
 all_goals (rename_i d)
 all_goals first
  |(subst d;simp[binOp,Op.intArith,Op.intCmp,amS,amT,Op.intBits,GD];done)
  |(obtain⟨rfl,e⟩:=d;simp[binOp,Op.intDiv,e];done)
  |(simp only[binOp,Op.shift];rw[if_neg (by omega)];rfl)
theorem Jg:∀(a b:List UInt8),Op.bytesLess a b=lexLt a b
 |[],[]=>by simp[Op.bytesLess,lexLt]
 |_::_,[]=>by simp[Op.bytesLess,lexLt]
 |[],_::_=>by simp[Op.bytesLess,lexLt]
 |a::x,b::y=>by simp[Op.bytesLess,lexLt,Jg x y]
theorem aym(s:ByteArray):(⟨s.data.toList.toArray⟩:ByteArray)=s:=by cases s;simp
theorem ahC{o:BinOp}{a b:ByteArray}{v:Value}(t:TypeId)(x y:Operand)(c:PS o a.data.toList b.data.toList=some v)(w:World):
  (do eqGuard o t x y (.string a) (.string b);binOp o t (.string a) (.string b):Sem Value).run A.P w=.ok v w:=by
 rw[eqGuard_at_string];simp only[Sem.run_bind,Sem.run_pure,Result.andThen_ok];have hl:a.toList=a.data.toList:=ByteArray.toList_eq a;have e:b.toList=b.data.toList:=ByteArray.toList_eq b;have he:∀(p q:List UInt8),(p==q)=decide (p=q):=λp q=>by by_cases h:p=q<;>simp[h]
 unfold PS at c;cases o<;>simp only at c<;>first|(simp at c;done)|skip
 case add=>
  split at c
  ·rename_i d;injection c with c;subst c;have f:a.size+b.size<=4611686018427387904:=by simpa using d
   have:¬((a.size+b.size:Nat):Int)>IntKind.i64.max:=by rw[IntKind.max_i64];omega
   simp only[binOp,Op.stringOp,if_neg this,Sem.run_pure]
   congr 2
  ·grind
 all_goals (injection c with c;subst c;simp[binOp,Op.stringOp,hl,e,Jg,he])
theorem aen{o:BinOp}{a b:Bool}{v:Value}(t:TypeId)(x y:Operand)(d:A.P.underlying t=some .bool)(c:KS o a b=some v)(w:World):
  (do eqGuard o t x y (.bool a) (.bool b);binOp o t (.bool a) (.bool b):Sem Value).run A.P w=.ok v w:=by
 rw[eqGuard_at_bool];simp only[Sem.run_bind,Sem.run_pure,Result.andThen_ok];unfold KS at c;cases o<;>simp only at c<;>first|(simp at c;done)|skip
 all_goals (injection c with c;subst c)
 ·simp[binOp,Op.equal,Op.maxDepth,run_equalIn_bool' w 9999 t a b d]
 ·simp[binOp,Op.equal,Op.maxDepth,run_equalIn_bool' w 9999 t a b d]
def kV(A:iG):Prop:=∀t,A.Ra.contains t=true->∀n,fj A t=some n->∀(xs a:Array Value) (r:Bool),gF xs.toList a.toList=some r->xs.size=n->
 (∀(o:BinOp) (x y:Operand) (w:World),(eqGuard o t x y (.agg xs) (.agg a)).run A.P w=.ok () w)∧∀w:World,(Op.equal t (.agg xs) (.agg a)).run A.P w=.ok r w
theorem Lx:∀{a b xs e:List Value} {r:Bool},gF a b=some r->cM (iS A φ) a xs->cM (iS A φ) b e->gF xs e=some r
 |[],[],[],[],r,he,_,_=>he
 |x::a,y::b,u::xs,v::e,r,he,hx,hy=>by
  have hu:=hx.1;have l:=hy.1;unfold gF at he;split at he
  ·rename_i i _;cases i
  ·rename_i k n a' j m b' h1 c;injection h1 with h1 p;subst h1;subst p;injection c with c o;subst c;subst o;have g:u=.int k n:=hu;have h:v=.int j m:=l;subst g;subst h;split at he
   ·rename_i f;cases d:gF a b with
    |none=>simp[d]at he
    |some q=>
     simp only[d,dC]at he;unfold gF;rw[if_pos f,Lx d hx.2 hy.2];exact he
   ·simp at he
  ·simp at he
 |[],_::_,_,_,r,he,_,_=>by simp[gF]at he
 |_::_,[],_,_,r,he,_,_=>by unfold gF at he;split at he<;>simp_all
theorem ajM{o:BinOp}{t:TypeId}{m:Nat}{x y u1 u2 v:Value}(f oy:Operand)(z:kV A)(H:bG A φ h w base)
  (hm:2<=m->A.Ra.contains t=true∧fj A t=some (m-2)) (s:m=1->A.P.underlying t=some .bool)
  (hx:VR A φ x u1) (hy:VR A φ y u2) (c:AR o m x y=some v):gy A φ h w base v h (do eqGuard o t f oy u1 u2;binOp o t u1 u2):=by
 unfold AR at c;split at c
 ·rename_i k a j b;have d:=VR.mV hx;have e:=VR.mV hy;subst d;subst e;refine gy.pure H (ahB t f oy c w) ?_;unfold PQ at c;cases o<;>simp only at c<;>split at c<;>first|(simp at c;done)|skip
  all_goals (injection c with c;subst c;rfl)
 ·rename_i a b;have d:=VR.uM hx;have e:=VR.uM hy;subst d;subst e;refine gy.pure H (ahC t f oy c w) ?_;unfold PS at c;cases o<;>simp only at c<;>first|(simp at c;done)|skip
  case add=>
   split at c
   ·injection c with c;subst c;rfl
   ·simp at c
  all_goals (injection c with c;subst c;rfl)
 ·rename_i a b;have d:=VR.Al hx;have e:=VR.Al hy;subst d;subst e;split at c
  ·rename_i i;refine gy.pure H (aen t f oy (s i) c w) ?_;unfold KS at c;cases o<;>simp only at c<;>first|(simp at c;done)|skip
   all_goals (injection c with c;subst c;rfl)
  ·simp at c
 ·rename_i a b;obtain⟨xs,rfl,q⟩:=VR.Av hx;obtain⟨C,rfl,p⟩:=VR.Av hy;split at c
  ·rename_i l;obtain⟨g,u⟩:=hm l;unfold Ah at c;cases o<;>simp only at c<;>first|(simp at c;done)|skip
   all_goals
    split at c
    ·rename_i hlen;cases n:gF a.toList b.toList with
     |none=>simp[n]at c
     |some r=>
      simp only[n,dC,aI]at c;subst c;obtain⟨B,he⟩:=z t g (m-2) u xs C r (Lx n q p) (by have:=q.length;simp at this hlen;omega);exact gy.pure H (by simp[B,binOp,he]) rfl
    ·simp at c
  ·simp at c
 ·simp at c
theorem IH{o:BinOp}{t:TypeId}{a oy:Operand}{X Y:Option Addr}{n c m d:Nat}{P:Program}{w:World}:(eqGuard o t a oy (.slice X n c) (.slice Y m d)).run P w=.ok () w:=by unfold eqGuard;cases o<;>simp
theorem F5{P:Program}(w:World)(d:Nat){t e:TypeId}{X:Option Addr}{n c m a:Nat}(b:P.underlying t=some (.slice e)):(Op.equalIn (d+1) t (.slice X n c) (.slice none m a)).run P w=.ok X.isNone w:=by cases X<;>simp[Op.equalIn,run_underlying b]
theorem agk{o:BinOp}{t e:TypeId}{x y u1 u2 v:Value}(r oy:Operand)(H:bG A φ h w base)(k:A.P.underlying t=some (.slice e))
  (hx:VR A φ x u1) (hy:VR A φ y u2) (d:PR o x y=some v):gy A φ h w base v h (do eqGuard o t r oy u1 u2;binOp o t u1 u2):=by
 unfold PR at d;have key:∀(a b:Addr) (n z m y:Nat),VR A φ (.slice (some a) n z) u1->VR A φ (.slice (some b) m y) u2->b.block=0∧y=0->∃X c f,u1=.slice X n c∧u2=.slice none m f∧X.isNone=decide (a.block=0∧z=0):=by
  intro a b n z m y h1 l g;obtain⟨_,X,c,rfl,_,_,_,j⟩:=VR.oU h1;obtain⟨_,Y,f,rfl,_,_,_,p⟩:=VR.oU l;have:Y=none:=p.2 g;subst this;refine⟨X,c,f,rfl,rfl,?_⟩;cases X with
  |none=>simp[(j.1 rfl).1,(j.1 rfl).2]
  |some q=>
   grind
 split at d
 ·rename_i a n z b m y;split at d
  ·rename_i g;injection d with d;subst d;obtain⟨X,c,f,rfl,rfl,i⟩:=key a b n z m y hx hy g;refine gy.pure H (u:=.bool (decide (a.block=0∧z=0))) ?_ rfl;rw[Sem.run_bind,IH];simp only[Result.andThen_ok];rw[<-i];simp[binOp,Op.equal,Op.maxDepth,F5 w 9999 k]
  ·simp at d
 ·rename_i a n z b m y;split at d
  ·rename_i g;injection d with d;subst d;obtain⟨X,c,f,rfl,rfl,i⟩:=key a b n z m y hx hy g;refine gy.pure H (u:=.bool (!decide (a.block=0∧z=0))) ?_ rfl;rw[Sem.run_bind,IH];simp only[Result.andThen_ok];rw[<-i];simp[binOp,Op.equal,Op.maxDepth,F5 w 9999 k]
  ·simp at d
 ·simp at d
theorem ani{o:UnOp}{x u v:Value}(H:bG A φ h w base)(hx:VR A φ x u)(a:Xx o x=some v):gy A φ h w base v h (Op.unary o u):=by
 unfold Xx at a;split at a
 ·have b:=VR.mV hx;subst b;injection a with a;subst a;exact gy.pure H (by simp[Op.unary,Op.intArith]) rfl
 ·have b:=VR.mV hx;subst b;injection a with a;subst a;exact gy.pure H (by simp[Op.unary,Op.intBits]) rfl
 ·have b:=VR.Al hx;subst b;injection a with a;subst a;exact gy.pure H (by simp[Op.unary]) rfl
 ·simp at a
theorem W5(k:IntKind):afW (DZ k)=some k:=by cases k<;>rfl
theorem SE(k:IntKind):DZ k<8:=by cases k<;>decide
theorem ah6{s d:TypeId}{k0 k:IntKind}{x u v:Value}{h':a9}(H:bG A φ h w base)(f:A.P.underlying s=some (.int k0))(e:A.P.underlying d=some (.int k))(hx:VR A φ x u)
  (a:kr (DZ k) x h=some (v,h')):gy A φ h w base v h' (convert s d u):=by
 have g:=SE k;unfold kr at a;rw[if_neg (by omega),if_neg (by omega),if_neg (by omega),W5]at a;split at a
 ·rename_i k' j n heq;injection heq with heq;subst heq;injection a with a;injection a with h1 c;subst h1;subst c;have b:=VR.mV hx;subst b;exact gy.pure H (by simp[convert,run_underlying f,run_underlying e,Conv.intToInt]) rfl
 ·simp at a
theorem aeR{s d:TypeId}{x u v:Value}{h':a9}(H:bG A φ h w base)(f:A.P.underlying s=some .string)(e:A.P.underlying d=some .string)(hx:VR A φ x u)
  (a:kr 22 x h=some (v,h')):gy A φ h w base v h' (convert s d u):=by
 unfold kr at a;simp only[Nat.reduceEqDiff,if_false,if_true]at a;split at a
 ·injection a with a;injection a with h1 c;subst h1;subst c;have b:=VR.uM hx;subst b;exact gy.pure H (by simp[convert,run_underlying f,run_underlying e]) rfl
 ·simp at a
theorem Jb:∀{cs us:List Value} {l:List UInt8},xU cs=some l->cM (iS A φ) cs us->∃b:List Int,us=b.map (Value.int .u8)∧l=b.map λn=>UInt8.ofNat n.toNat
 |[],[],l,a,_=>by simp[xU]at a;subst a;exact⟨[],rfl,rfl⟩
 |x::cs,u::us,l,a,d=>by
  unfold xU at a;split at a
  ·rename_i c;cases c
  ·rename_i n r c;injection c with h1 h;subst h1;subst h;cases hi:xU cs with
   |none=>simp[hi]at a
   |some l'=>
    simp[hi]at a;subst a;obtain⟨b,f,g⟩:=Jb hi d.2;have e:u=.int .u8 n:=d.1;subst e;exact⟨n::b,by simp[f],by simp[g]⟩
  ·simp at a
theorem foldl_push:∀(a:List Int) (s:ByteArray),a.foldl (λr n=>r.push (UInt8.ofNat n.toNat)) s=⟨(s.data.toList++a.map λn=>UInt8.ofNat n.toNat).toArray⟩
 |[],s=>by simp
 |n::a,s=>by
  rw[gI,foldl_push a]
  congr 1
  simp[ByteArray.push]
theorem aeS{s d e:TypeId}{x u v:Value}{h':a9}(H:bG A φ h w base)(D:A.P.underlying s=some (.slice e))(he:A.P.underlying e=some (.int .u8))(B:A.P.underlying d=some .string)(hx:VR A φ x u)
  (b:kr 21 x h=some (v,h')):gy A φ h w base v h' (convert s d u):=by
 unfold kr at b;simp only[Nat.reduceEqDiff,if_false,if_true]at b;split at b
 ·rename_i a n z;obtain⟨_,X,c,rfl,J,h0,h1,-⟩:=VR.oU hx;have f:=run_convert_bytes_string (P:=A.P) w s d e X n c D he B;split at b
  ·rename_i hn;injection b with b;injection b with i j;subst i;subst j;subst hn;refine gy.pure H (u:=.string ByteArray.empty) ?_ ?_
   ·rw[f];cases X with
    |none=>simp[Conv.bytesToString]
    |some q=>
     have:=run_bytesToString (P:=A.P) w q 0 c [] (by simp[loadCells,loadCellsFrom]);simpa using this
   ·rfl
  ·rename_i hn;cases k:aZ h a.block a.off n with
   |none=>simp[k]at b
   |some cs=>
    simp only[k]at b;cases hi:xU cs with
    |none=>simp[hi]at b
    |some l=>
     simp only[hi,dC]at b;injection b with b;injection b with i j;subst i;subst j;have F:a.block≠0:=λy=>by have:=h0 y;omega
     obtain⟨lc,hl,E⟩:=h1 F;rcases E with I|⟨rfl,_⟩
     ·omega
     ·obtain⟨_,us,p,C,r⟩:=sJ H hl k;obtain⟨G,rfl,rfl⟩:=Jb hi C;have m:=jX (A:=A) (w:=w) r;rw[p]at m;have t:=run_bytesToString (P:=A.P) w ⟨lc.g,lc.o+a.off,none⟩ n c G m;refine gy.pure H (by rw[f,t]) ?_;rw[foldl_push];simp;rfl
 ·simp at b
theorem ZO{s d e:TypeId}{x u v:Value}{h':a9}(H:bG A φ h w base)(I:base<=w.heap.size)(p:φ h.length=none)(L:A.P.underlying s=some .string)(J:A.P.underlying d=some (.slice e))(he:A.P.underlying e=some (.int .u8))
  (hx:VR A φ x u) (f:kr 20 x h=some (v,h')):gy A φ h w base v h' (convert s d u):=by
 unfold kr at f;simp only[if_true]at f;split at f
 ·rename_i str;split at f
  ·rename_i N;injection f with f;injection f with n E;subst n;subst E;have n:=VR.uM hx;subst n
   let cap:=grownCap w str.size 0 e
   have m:str.size<=cap:=grownCap_ge w str.size 0 e
   let elems:Array Value:=str.data.map λb=>.int .u8 b.toNat
   let cur:Array Value:=elems++Array.replicate (cap-str.size) (.int .u8 0)
   have M:cur.size=cap:=by simp[cur,elems];have:str.data.size=str.size:=rfl;omega
   have B:(convert s d (.string str)).run A.P w=.ok (.slice (some ⟨w.heap.size,0,none⟩) str.size cap) (((w.drew).alloc (.cells cur e)).freeze ⟨w.heap.size,cur.size,none⟩ 1):=by
    simp only[convert,Sem.run_bind,run_underlying L,run_underlying J,run_underlying he,Result.andThen_ok];have hn:∀C:Array Value,(w.drew.alloc (.cells C e)).shape? w.heap.size=some (e,C.size):=λC=>by
     have h0:(w.drew.alloc (.cells C e)).heap[w.heap.size]?=some (.cells C e):=heap_alloc_new w.drew _;simp only[World.shape?,h0]
    simp[Conv.stringToBytes,Question.forced,newRow,markStringish,hn,cap,cur,elems,grownCap]
   have l:((w.drew.alloc (.cells cur e)).freeze ⟨w.heap.size,cur.size,none⟩ 1).heap=(w.heap.push (.cells cur e)).modify w.heap.size λ
     |.cells c elem (lo,hi)=>.cells c elem (if lo==hi then(cur.size,cur.size+1)else(min lo cur.size,max hi (cur.size+1)))
     |o=>o:=by
    simp only[World.freeze];rfl
   have G:cM (iS A φ) (str.data.toList.map λb=>U b.toNat) elems.toList:=by
    refine cM.Bv (by simp[elems]) λi a b h1 r=>?_;simp[elems]at h1 r;obtain⟨c1,F,rfl⟩:=h1;obtain⟨c2,k,rfl⟩:=r;rw[F]at k;injection k with k;subst k
    rfl
   have t:=CY (w':=(w.drew.alloc (.cells cur e)).freeze ⟨w.heap.size,cur.size,none⟩ 1) (cs:=str.data.toList.map λb=>U b.toNat) (vs:=elems.toList) (cur:=cur) (ty:=e) (lo:=cur.size) (hi:=cur.size+1) true (λ_=>rfl) H I p G
    (λj q y=>by
     have K:j<elems.size:=by have:=(au.1 y).1;simpa using this
     simp only[cur];rw[iV K];simpa using y)
    (by rw[l];simp) (λg O=>by rw[l,Array.getElem?_modify,if_neg (by omega),nM,if_neg (by omega)])
    (by rw[l,Array.getElem?_modify];simp) (λi hi=>by omega)
    rfl rfl rfl
   have z:h.length≠0:=by have:=H.pos;omega
   refine⟨_,_,_,B,⟨rfl,_,_,rfl,m,λD=>absurd D z,λ_=>⟨_,dS.jG _ _ _,.inr ⟨by simp,?_,λ_=>rfl⟩⟩,⟨λe=>(by cases e),λe=>absurd e.1 z⟩⟩,t.1,t.2⟩;simp[M]
  ·simp at f
 ·simp at f
theorem GX{x u:Value}(b:Am.scalar x=true)(a:EU x=false)(hx:VR A φ x u):AQ φ x u:=by
 have h0:=VR.RY b hx;unfold iS at h0;split at h0
 ·simp[EU]at a
 ·exact h0
theorem W8{x u:Value}(e:G6 x=true)(hx:VR A φ x u):QJ φ x u:=by
 cases x with
 |agg cs=>
  obtain⟨vs,rfl,h⟩:=VR.Av hx;refine⟨vs,rfl,cM.Bv h.length λi a b h1 d=>?_⟩;obtain⟨c,f,g⟩:=h.get i a h1;rw[f]at d;injection d with d;subst d
  have:=bV.1 e a (fP h1);simp at this;exact GX this.1 this.2 (VR.YB g)
 |_=>simp[G6]at e
theorem Xa{g f:Nat}{o j xs us:List Value}{v:Value}{h':a9}(H:bG A φ h w base)(r:FM A g=some f)(n:cM (VR A φ) o j)(hx:cM (VR A φ) xs us)(e:CM f o xs h=some (v,h')):
  gy A φ h w base v h' (Instr.makeFunc (.func g) j.toArray us.toArray):=by
 unfold CM at e;split at e
 ·rename_i m;simp only[aH]at m;injection e with e;injection e with p q;subst p;subst q;refine gy.pure H (u:=.func (.func g) j.toArray us.toArray) rfl ⟨g,j.toArray,us.toArray,rfl,r,?_,?_⟩
  ·simp only;refine cM.Bv (by simpa using n.length) λi a b h1 d=>?_;obtain⟨c,k,l⟩:=n.get i a h1;rw[k]at d;injection d with d;subst d
   exact W8 (bV.1 m.1 a (fP h1)) l
  ·simp only;refine cM.Bv (by simpa using hx.length) λi a b h1 d=>?_;obtain⟨c,k,l⟩:=hx.get i a h1;rw[k]at d;injection d with d;subst d
   have:=bV.1 m.2 a (fP h1);simp at this;exact GX this.1 this.2 l
 ·simp at e
theorem Xb{x u v:Value}(hx:VR A φ x u)(b:Qn x=some v):v=x∧((∃a,u=.pointer (some a))∨∃g c d,u=.func (.func g) c d):=by
 unfold Qn at b;split at b
 ·injection b with b;subst b;obtain⟨_,l,_,rfl⟩:=VR.uR hx
  grind
 ·injection b with b;subst b;obtain⟨g,us,vs,rfl,_⟩:=VR.UK hx
  grind
 ·simp at b
theorem VP{t:TypeId}{f:Nat}{b:Array Field}{fd:Field}{m:Nat}{a:Addr}{u v:Value}(H:bG A φ h w base)(hu:A.P.underlying t=some (.struct b))(d:b[f]?=some fd)(e:fj A fd.type=some (m+1))
  (hx:VR A φ (.pointer (some a)) u) (c:v=pt a.block (a.off+fd.offset)):gy A φ h w base v h (Instr.fieldAt t u f):=by
 obtain⟨i,l,hl,rfl⟩:=VR.uR hx;subst c;refine gy.pure H (u:=.pointer (some ⟨l.g,l.o+(a.off+fd.offset),none⟩)) ?_ ⟨rfl,l,hl,rfl⟩;simp only[Instr.fieldAt,Sem.run_bind,run_underlying hu,Result.andThen_ok,d,Instr.sureAddr,fieldPlace,run_sizeOf e];simp[Addr.add_lit,dR]
theorem VZ{t:TypeId}{n o:Nat}{cs:Array Value}{us:Array Value}{v:Value}(H:bG A φ h w base)(g:fj A t=some n)(c:cM (iS A φ) cs.toList us.toList)(a:bD (if qy A t then n+1 else 0) o (.agg cs)=some v):
  gy A φ h w base v h (part t us o):=by
 obtain⟨d,f⟩:=Gu g;have hl:=c.length;simp only[j8]at hl;cases b:qy A t with
 |true=>
  simp only[b,if_true,bD]at a;rw[if_neg (by omega)]at a;split at a
  ·rename_i j;injection a with a;subst a;refine gy.pure H (u:=.agg (us.extract o (o+n))) ?_ ?_
   ·simp[part,HB f,b,run_sizeOf g]
   ·refine⟨_,rfl,?_⟩;have e:(us.extract o (o+n)).toList=(us.toList.drop o).take n:=by
     simp_all
    rw[e];exact(c.drop o).take (n+1-1)
  ·simp at a
 |false=>
  simp only[b,ax,if_false,bD,if_true]at a;obtain⟨u,hu,hx⟩:=c.get o v (by simpa using a);refine gy.pure H (u:=u) ?_ (VR.YB hx);have i:us[o]?=some u:=by simpa using hu
  simp[part,HB f,b,i]
theorem ajN{t:TypeId}{f n:Nat}{b:Array Field}{fd:Field}{x u v:Value}(H:bG A φ h w base)(hu:A.P.underlying t=some (.struct b))(e:b[f]?=some fd)(i:fj A fd.type=some n)
  (hx:VR A φ x u) (c:bD (if qy A fd.type then n+1 else 0) fd.offset x=some v):gy A φ h w base v h (Instr.field t u f):=by
 cases x with
 |agg cs=>
  obtain⟨us,rfl,g⟩:=VR.Av hx;obtain⟨j,w',a,d,rest⟩:=VZ H i g c;exact⟨j,w',a,by simp[Instr.field,run_underlying hu,e,asAgg,d],rest⟩
 |_=>simp[bD]at c
theorem Ko{t e:TypeId}{z:Nat}{x i m f v:Value}(H:bG A φ h w base)(hu:A.P.underlying t=some (.slice e))(B:fj A e=some z)(E:z<1000)(hx:VR A φ x m)(hi:VR A φ i f)
  (b:oF (2*z+1) x i=some v):gy A φ h w base v h (Instr.indexAt t m f):=by
 unfold oF at b;split at b
 ·rename_i a n y k j;split at b
  ·rename_i d;injection b with b;subst b;obtain⟨_,X,c,rfl,F,h0,h1,-⟩:=VR.oU hx;have s:=VR.mV hi;subst s;have p:a.block≠0:=λr=>by have:=h0 r;omega
   obtain⟨l,hl,C⟩:=h1 p;rcases C with D|⟨rfl,_⟩
   ·omega
   ·refine gy.pure H (u:=.pointer (some ⟨l.g,l.o+(a.off+j.toNat*((2*z+1)/2)),none⟩)) ?_ ⟨rfl,l,hl,rfl⟩;have q:(2*z+1)/2=z:=by omega
    simp only[Instr.indexAt,asIntOf,Sem.run_bind,Sem.run_pure,Result.andThen_ok,run_underlying hu];simp[d.2.1,d.2.2,run_sizeOf B,Addr.add_lit,q,dR]
  ·simp at b
 ·grind
 ·simp at b
theorem yD{n z c:Nat}(a:pX n z=some c):c=1000000+1000*n+z∧z<1000∧(c-1000000)/1000=n∧c%1000=z∧1000000<=c:=by
 unfold pX at a
 grind
theorem Kn{t e:TypeId}{n z c:Nat}{a:Addr}{i m f v:Value}(H:bG A φ h w base)(hu:A.P.underlying t=some (.array n e))(x:fj A e=some z)(s:pX n z=some c)(hx:VR A φ (.pointer (some a)) m)(hi:VR A φ i f)
  (b:oF c (.pointer (some a)) i=some v):gy A φ h w base v h (Instr.indexAt t m f):=by
 obtain⟨_,C,p,q,B⟩:=yD s;obtain⟨y,l,hl,rfl⟩:=VR.uR hx;unfold oF at b;cases i with
 |int k j=>
  simp only[p,q]at b;split at b
  ·rename_i d;injection b with b;subst b;have r:=VR.mV hi;subst r;refine gy.pure H (u:=.pointer (some ⟨l.g,l.o+(a.off+j.toNat*z),none⟩)) ?_ ⟨rfl,l,hl,rfl⟩;simp only[Instr.indexAt,asIntOf,Sem.run_bind,Sem.run_pure,Result.andThen_ok,run_underlying hu,Instr.sureAddr];simp[d.2.1,d.2.2,run_sizeOf x,Addr.add_lit,dR]
  ·simp at b
 |_=>simp at b
theorem SI{t:TypeId}{x i g f v:Value}(H:bG A φ h w base)(hu:A.P.underlying t=some .string)(hx:VR A φ x g)(hi:VR A φ i f)(a:uk 0 x i=some v):gy A φ h w base v h (Instr.index t g f):=by
 unfold uk at a;split at a
 ·rename_i s k j;have l:=VR.uM hx;have m:=VR.mV hi;subst l;subst m;split at a
  ·rename_i e;cases c:s.data.toList[j.toNat]? with
   |none=>simp[c]at a
   |some b=>
    simp only[c,dC,aI]at a;subst a;refine gy.pure H ?_ rfl;have o:s[j.toNat]?=some b:=by
     have d:j.toNat<s.size:=by have:=e.2.2;simp at this;omega
     rw[getElem?_pos s j.toNat d];have n:j.toNat<s.data.toList.length:=by simpa using d
     rw[ah n]at c;injection c with c;rw[<-c];rfl
    simp[Instr.index,asIntOf,run_underlying hu,e.2.1,o]
  ·simp at a
 ·grind
 ·simp at a
theorem Qq{t e:TypeId}{n z c:Nat}{x i o m v:Value}(H:bG A φ h w base)(hu:A.P.underlying t=some (.array n e))(g:fj A e=some z)
  (u:pX n (if qy A e then z else 0)=some c) (B:qy A e=true->0<z) (C:qy A e=false->z=1) (hx:VR A φ x o) (hi:VR A φ i m) (a:uk c x i=some v):gy A φ h w base v h (Instr.index t o m):=by
 obtain⟨_,_,q,r,E⟩:=yD u;unfold uk at a;split at a
 ·grind
 ·rename_i cs k j;obtain⟨us,rfl,y⟩:=VR.Av hx;have s:=VR.mV hi;subst s;rw[q,r]at a;split at a
  ·rename_i l;have hp:bD (if qy A e then z+1 else 0) (j.toNat*z) (.agg cs)=some v:=by
    cases b:qy A e with
    |true=>
     simp only[b,if_true]at a;have:=B b;rw[if_neg (by omega)]at a;simp only[bD,if_true]
     grind
    |false=>
     have d:=C b;subst d;simp only[b,ax,if_false,if_true]at a;simp only[bD,ax,if_false,if_true,dn];exact a
   obtain⟨D,w',f,p,rest⟩:=VZ H g y hp;exact⟨D,w',f,by simp[Instr.index,asIntOf,run_underlying hu,l.2.1,l.2.2,run_sizeOf g,p],rest⟩
  ·simp at a
 ·simp at a
theorem adN{i:Nat}{x u v:Value}(H:bG A φ h w base)(hx:VR A φ x u)(a:Em i x=some v):gy A φ h w base v h (Instr.extract u i):=by
 unfold Em at a;split at a
 ·rename_i vs;obtain⟨us,rfl,c⟩:=VR.ahd hx;obtain⟨y,hy,d⟩:=c.get i v (by simpa using a);have b:us[i]?=some y:=by simpa using hy
  exact gy.pure H (by simp[Instr.extract,b]) (VR.of1 d)
 ·simp at a
end
end Am
namespace Am
open Go
section
variable {A : iG} {φ : dS} {h : a9} {w : World} {base : Nat}
def B2(A:iG)(φ:dS):Option Value->Option Value->Prop
 |none,none=>True
 |some x,some u=>VR A φ x u
 |_,_=>False
theorem zw{d l:Nat}{lo b:Option Value}(f:B2 A φ lo b)(a:bound d lo=some l):(b=none∧l=d)∨∃k n,b=some (.int k n)∧0<=n∧n.toNat=l:=by
 cases lo with
 |none=>
  cases b with
  |none=>simp[bound]at a;exact .inl ⟨rfl,a.symm⟩
  |some u=>exact f.elim
 |some x=>
  cases b with
  |none=>exact f.elim
  |some u=>
   unfold bound at a;split at a
   ·rename_i c;cases c
   ·rename_i k n c;injection c with c;subst c;split at a
    ·rename_i h0;injection a with a;have e:=VR.mV (show VR A φ _ u from f);subst e
     grind
    ·simp at a
   ·simp at a
theorem qE{k:IntKind}{n:Int}{l y:Nat}(h0:0<=n)(hn:n.toNat=l)(hl:l<=y)(code:BoundsCode)(P:Program)(w:World):(Instr.sliceBound (.int k n) y code).run P w=.ok l w:=by
 have:n<=(y:Int):=by omega
 simp[Instr.sliceBound,asIntOf,h0,this,hn]
theorem BG{lo hi b d:Option Value}{l e len cap:Nat}(isSlice:Bool)(h:B2 A φ lo b)(g:B2 A φ hi d)(hl:bound 0 lo=some l)(he:bound len hi=some e)(hle:l<=e)(a:e<=cap)(P:Program)(w:World):
  (Instr.sliceBounds isSlice len cap b d none).run P w=.ok (l,e,cap) w:=by
 rcases zw h hl with⟨rfl,rfl⟩|⟨k,n,rfl,h0,hn⟩<;>rcases zw g he with⟨rfl,rfl⟩|⟨k',i,rfl,c,f⟩
 ·simp[Instr.sliceBounds]
 ·simp[Instr.sliceBounds,qE c f a]
 ·simp[Instr.sliceBounds,qE h0 hn hle]
 ·simp[Instr.sliceBounds,qE c f a,qE h0 hn hle]
theorem SJ{t:TypeId}{x u v:Value}{lo hi g c d b:Option Value}{h':a9}(H:bG A φ h w base)(hu:A.P.underlying t=some .string)(hx:VR A φ x u)(n:B2 A φ lo c)(j:B2 A φ hi d)(i:B2 A φ g b)
  (a:gS 0 h x lo hi g=some (v,h')):gy A φ h w base v h' (Instr.sliceAt t u c d b):=by
 unfold gS at a;simp only[if_true]at a;split at a
 ·rename_i s;split at a
  ·rename_i l e hl he;split at a
   ·rename_i f;injection a with a;injection a with k m;subst k;subst m;have es:=VR.uM hx;subst es;cases b with
    |some _=>exact i.elim
    |none=>
     refine gy.pure H (u:=.string (s.extract l e)) ?_ ?_
     ·simp[Instr.sliceAt,run_underlying hu,Instr.slice,BG (A:=A) (φ:=φ) false n j hl he f.1 f.2]
     ·show Value.string _=Value.string _
      rw[Lib.extract_eq]
      congr 2
      rw[afR]
   ·simp at a
  ·simp at a
 ·simp at a
theorem Qs{t e:TypeId}{z:Nat}{x u v:Value}{lo hi S L M g:Option Value}{h':a9}(H:bG A φ h w base)(hu:A.P.underlying t=some (.slice e))(G:fj A e=some z)(hz:z<1000)
  (hx:VR A φ x u) (Q:B2 A φ lo L) (o:B2 A φ hi M) (j:B2 A φ S g) (b:gS (2*z+1) h x lo hi S=some (v,h')):gy A φ h w base v h' (Instr.sliceAt t u L M g):=by
 unfold gS at b;rw[if_neg (by omega),if_pos (by omega)]at b;split at b
 ·rename_i a n y;split at b
  ·rename_i l N hl he;split at b
   ·rename_i Y;obtain⟨hle,JB,K⟩:=Y;obtain⟨DM,X,c,rfl,rC,h0,h1,i⟩:=VR.oU hx;have U:(2*z+1)/2=z:=by omega
    rw[U]at K;split at b
    ·injection b with b;injection b with C D;subst C;subst D;cases g with
     |some _=>exact j.elim
     |none=>
      refine gy.pure H (u:=.slice (if c=l then X else X.map (·.add (l*z))) (N-l) (c-l)) ?_ ⟨rfl,_,_,rfl,by omega,λd=>by have:=h0 d;omega,λd=>?_,(by
       rw[<-i];split
       ·exact Iff.rfl
       ·cases X<;>simp)⟩
      ·simp[Instr.sliceAt,run_underlying hu,Instr.slice,BG (A:=A) (φ:=φ) true Q o hl he hle (by omega:N<=c),run_sizeOf G]
      ·obtain⟨lc,V,iC⟩:=h1 d;refine⟨lc,V,?_⟩;by_cases s:c=l
       ·exact .inl (by omega)
       ·rcases iC with BU|⟨rfl,xC,W⟩
        ·omega
        ·have J:y=z:=by
          grind
         subst J;refine .inr ⟨?_,?_,W⟩
         ·rw[if_neg s];simp[Addr.add_lit,dR]
         ·have:l*y+(c-l)*y=c*y:=by rw[<-cX];congr 1;omega
          simp only;omega
    ·rename_i m;split at b
     ·rename_i mA;injection b with b;injection b with C D;subst C;subst D;obtain⟨hm,rfl,rfl,B,I⟩:=mA;cases g with
      |none=>exact j.elim
      |some um=>
       rcases zw j hm with⟨f,_⟩|⟨k,q,f,E,Z⟩
       ·cases f
       ·injection f with f;subst f;refine gy.pure H (u:=.slice X 0 0) ?_ ⟨rfl,_,_,rfl,aa _,λ_=>rfl,λd=>absurd rfl d,⟨λe=>⟨rfl,(i.1 e).2⟩,λe=>i.2 ⟨I.resolve_left (λh=>h e.2),e.2⟩⟩⟩;have R:∀code,(Instr.sliceBound (.int k q) c code).run A.P w=.ok 0 w:=λcode=>qE E Z (iE _) code A.P w;rcases zw o he with⟨rfl,AF⟩|⟨k',q',rfl,p,T⟩
        ·cases hi with
         |none=>simp at B
         |some _=>exact o.elim
        ·have O:∀code,(Instr.sliceBound (.int k' q') 0 code).run A.P w=.ok 0 w:=λcode=>qE p T (aa _) code A.P w;rcases zw Q hl with⟨rfl,_⟩|⟨k2,q2,rfl,r,F⟩
         ·simp[Instr.sliceAt,run_underlying hu,Instr.slice,Instr.sliceBounds,R,O,run_sizeOf G]
         ·have wV:∀code,(Instr.sliceBound (.int k2 q2) 0 code).run A.P w=.ok 0 w:=λcode=>qE r F (aa _) code A.P w;simp[Instr.sliceAt,run_underlying hu,Instr.slice,Instr.sliceBounds,R,O,wV,run_sizeOf G]
     ·simp at b
   ·simp at b
  ·simp at b
 ·simp at b
theorem Qr{t e:TypeId}{n z c:Nat}{a:Addr}{u v:Value}{lo hi y q s i:Option Value}{h':a9}(H:bG A φ h w base)(hu:A.P.underlying t=some (.array n e))(J:fj A e=some z)(j:pX n z=some c)
  (hx:VR A φ (.pointer (some a)) u) (E:B2 A φ lo q) (C:B2 A φ hi s) (B:B2 A φ y i) (b:gS c h (.pointer (some a)) lo hi y=some (v,h')):gy A φ h w base v h' (Instr.sliceAt t u q s i):=by
 obtain⟨_,O,m,p,N⟩:=yD j;unfold gS at b;rw[if_neg (by omega),if_neg (by omega)]at b;rw[m,p]at b;split at b
 ·rename_i a' heq;injection heq with heq;injection heq with heq;subst heq;split at b
  ·rename_i l f hl he;split at b
   ·rename_i G;obtain⟨rfl,M,x,K,d⟩:=G;injection b with b;injection b with m p;subst m;subst p;obtain⟨L,lc,r,rfl⟩:=VR.uR hx;cases i with
    |some _=>exact B.elim
    |none=>
     have D:¬f=l:=by omega
     refine gy.pure H (u:=.slice (some ⟨lc.g,lc.o+(a.off+l*z),none⟩) (f-l) (f-l)) ?_ ⟨rfl,_,_,rfl,aa _,λF=>absurd F x,λ_=>⟨lc,r,.inr ⟨rfl,?_,λ_=>K⟩⟩,⟨λe=>(by cases e),λe=>absurd e.1 x⟩⟩
     ·simp only[Instr.sliceAt,Sem.run_bind,run_underlying hu,Result.andThen_ok,Instr.sureAddr,Sem.run_pure,BG (A:=A) (φ:=φ) false E C hl he (by omega:l<=f) (aa _),run_sizeOf J];simp[D,Addr.add_lit,dR]
     ·unfold Zl at d;split at d
      ·rename_i k I;simp at d;obtain⟨_,Q,_⟩:=H.row _ _ _ r I d.1
       grind
      ·simp at d
   ·simp at b
  ·simp at b
 ·simp at b
theorem W9{t ty:TypeId}{x u v:Value}(H:bG A φ h w base)(hu:A.P.underlying t=some .string)(hx:VR A φ x u)(a:En 0 x=some v):gy A φ h w base v h (Builtin.len_ #[t] ty #[u]):=by
 unfold En at a;split at a
 ·have e:=VR.uM hx;subst e;split at a
  ·injection a with a;subst a;exact gy.pure H (by simp[Builtin.len_,run_underlying hu,goInt]) rfl
  ·simp at a
 ·simp at a
 ·simp at a
theorem VQ{t e ty:TypeId}{x u v:Value}(H:bG A φ h w base)(hu:A.P.underlying t=some (.slice e))(hx:VR A φ x u)(a:En 1 x=some v):gy A φ h w base v h (Builtin.len_ #[t] ty #[u]):=by
 unfold En at a;split at a
 ·grind
 ·obtain⟨_,X,c,rfl,_⟩:=VR.oU hx;simp only[if_true]at a;injection a with a;subst a;exact gy.pure H (by simp[Builtin.len_,run_underlying hu,goInt]) rfl
 ·simp at a
theorem asi{ty:TypeId}{xs us:List Value}{ts:Array TypeId}{v:Value}(H:bG A φ h w base)(hx:cM (VR A φ) xs us)(c:Mj xs=some v):gy A φ h w base v h (Builtin.max_ ts ty us.toArray):=by
 unfold Mj at c;split at c
 ·rename_i k a k' b;injection c with c;subst c
  match us,hx with
  |[u1,u2],hx=>
   have d:=VR.mV hx.1;have e:=VR.mV hx.2.1;subst d;subst e;exact gy.pure H (by simp[Builtin.max_,Builtin.max2]) rfl
 ·simp at c
theorem asj{ty:TypeId}{xs us:List Value}{ts:Array TypeId}{v:Value}(H:bG A φ h w base)(hx:cM (VR A φ) xs us)(c:I4 xs=some v):gy A φ h w base v h (Builtin.min_ ts ty us.toArray):=by
 unfold I4 at c;split at c
 ·rename_i k a k' b;injection c with c;subst c
  match us,hx with
  |[u1,u2],hx=>
   have d:=VR.mV hx.1;have e:=VR.mV hx.2.1;subst d;subst e;exact gy.pure H (by simp[Builtin.min_,Builtin.min2]) rfl
 ·simp at c
theorem Bu{z:Nat}{x u:Value}{new:List Value}(H:bG A φ h w base)(M:0<z)(hx:VR A φ x u)(hn:cR z h x=some new):
  ∃m us,(Builtin.lenOf u).run A.P w=.ok m w∧cM (iS A φ) new us∧new.length=m*z∧
   ∀k,k<=m->(Builtin.firstCells z k u).run A.P w=.ok (us.take (k*z)).toArray w:=by
 unfold cR at hn;split at hn
 ·rename_i a n y;obtain⟨K,X,c,rfl,N,h0,h1,-⟩:=VR.oU hx;split at hn
  ·rename_i p;injection hn with hn;subst hn;subst p;refine⟨0,[],by simp[Builtin.lenOf],trivial,by simp,λk t=>?_⟩;have:k=0:=by omega
   subst this;cases X<;>simp[Builtin.firstCells,loadCells,loadCellsFrom]
  ·rename_i p;have I:a.block≠0:=λB=>by have:=h0 B;omega
   obtain⟨lc,hl,F⟩:=h1 I;rcases F with J|⟨rfl,_⟩
   ·omega
   ·obtain⟨hlen,us,L,E,v⟩:=sJ H hl hn;refine⟨n,us,by simp[Builtin.lenOf],E,hlen,λk t=>?_⟩;have f:(us.take (k*z)).length=k*z:=by
     simp_all
    simp only[Builtin.firstCells];have:=jX (A:=A) (w:=w) (g:=lc.g) (o:=lc.o+a.off) (us:=us.take (k*z)) (λj q l=>by
     have D:j<k*z:=by have:=(au.1 l).1;omega
     rw[bO D]at l;exact v j q l)
    rwa [f]at this
 ·rename_i s;split at hn
  ·rename_i G;injection hn with hn;subst hn;subst G;have e:=VR.uM hx;subst e;refine⟨s.size,(s.data.map λb=>(.int .u8 b.toNat:Value)).toList,by simp[Builtin.lenOf],?_,by simp,λk t=>?_⟩
   ·refine cM.Bv (by simp) λi a b h1 r=>?_;simp at h1 r;obtain⟨c1,C,rfl⟩:=h1;obtain⟨c2,d,rfl⟩:=r;rw[C]at d;injection d with d;subst d
    rfl
   ·simp only[Builtin.firstCells,Sem.run_pure,dn]
    congr 1
    apply iU
    simp_all
  ·simp at hn
 ·simp at hn
theorem AV{P:Program}{t t1 e ty:TypeId}{z n m cap:Nat}{X:Option Addr}{b:Value}{us:Array Value}{i:TypeInfo}(hu:P.underlying t=some (.slice e))(hi:P.info? e=some i)(g:i.size=z)
  (d:(∃c,P.underlying t1=some (.slice c))∨P.underlying t1=some .string) (hm:(Builtin.lenOf b).run P w=.ok m w) (f:(Builtin.firstCells z m b).run P w=.ok us w) (h:n+m<=cap):
  (Builtin.append_ #[t,t1] ty #[.slice X n cap,b]).run P w=(match X with
   |some a=>(storeCells (a.add (n*z)) us.toList).run P w
   |none=>.ok () w).andThen λ_ w'=>.ok (.slice X (n+m) cap) w':=by
 subst g;rcases d with⟨c,h1⟩|h1<;>cases X<;>
  simp[Builtin.append_,run_underlying hu,run_underlying h1,Go.sizeOf,typeInfo,hi,hm,f,h]
theorem NC{P:Program}{t t1 e ty:TypeId}{z n m cap:Nat}{X:Option Addr}{d h:Value}{us f:Array Value}{i:TypeInfo}(hu:P.underlying t=some (.slice e))(hi:P.info? e=some i)(r:i.size=z)(h0:i.zero=some h)
  (k:(∃g,P.underlying t1=some (.slice g))∨P.underlying t1=some .string) (hm:(Builtin.lenOf d).run P w=.ok m w) (p:(Builtin.firstCells z m d).run P w.drew=.ok us w.drew)
  (q:(Builtin.firstCells z n (.slice X n cap)).run P w.drew=.ok f w.drew) (a:cap<n+m) (j:n+m<=1073741824) (l:i.bytes<=4096):
  (Builtin.append_ #[t,t1] ty #[.slice X n cap,d]).run P w=.ok (.slice (some ⟨w.heap.size,0,none⟩) (n+m) (grownCap w (n+m) cap e))
    (w.drew.alloc (.cells (f++us++Builtin.zeroCells h.cells (grownCap w (n+m) cap e-(n+m))) e)):=by
 subst r;have hn:¬(n+m<=cap):=by omega
 have c:¬(9223372036854775807<((n:Int)+(m:Int))):=by omega
 have o:(n+m)*i.bytes<=140737488355328:=by have:=dh j l;omega
 have b:¬(281474976710656<Builtin.nextslicecap (n+m) cap*i.bytes):=by have:=growslice_fits a o;omega
 rcases k with⟨g,h1⟩|h1<;>
  simp[Builtin.append_,run_underlying hu,run_underlying h1,Go.sizeOf,typeInfo,zeroValue,hi,h0,hm,p,q,hn,c,b,Question.forced,newRow,grownCap]
theorem R5{t t1 e ty:TypeId}{z:Nat}{c:List Value}{s x us ux v:Value}{h':a9}(H:bG A φ h w base)(hb:base<=w.heap.size)(hφ:h.length<h'.length->φ h.length=none)
  (hu:A.P.underlying t=some (.slice e)) (hz:fj A e=some z) (hc:nG A e=some c) (EE:c.length=z) (LF:(A.P.info? e).map (decide<|·.bytes<=4096)=some true)
  (GV:(∃e1,A.P.underlying t1=some (.slice e1))∨A.P.underlying t1=some .string) (hs:VR A φ s us) (hx:VR A φ x ux) (ha:cu z h x s=some (v,h')):
  gy A φ h w base v h' (Builtin.append_ #[t,t1] ty #[us,ux]):=by
 unfold cu at ha
 split at ha
 ·rename_i a n y
  cases hn:cR z h x with
  |none=>simp[hn]at ha
  |some new=>
   simp only[hn]at ha
   obtain⟨DM,X,cp,rfl,rC,h0,h1,-⟩:=VR.oU hs
   obtain⟨i0,u0,hi,LP,K5⟩:=qG (φ:=φ) hc
   obtain⟨i1,Bh,MI⟩:=uJ hz
   rw[hi]at Bh;injection Bh with Bh;subst Bh
   have Oj:i0.bytes<=4096:=by simpa [hi]using LF
   have hu0:u0.cells.size=z:=by have:=K5.length;simp at this;omega
   by_cases arK:z=0
   ·rw[if_pos arK]at ha;simp at ha
   ·obtain⟨m,un,hm,uQ,mh,EF⟩:=Bu H (by omega) hx hn
    have Hd:bG A φ h w.drew base:=H.Io rfl
    obtain⟨m',un',vG,alR,adw,am1⟩:=Bu Hd (by omega) hx hn
    have Vc:m'=m:=by
     have:m'*z=m*z:=by omega
     exact mH (by omega) this
    subst Vc
    have OF:un.length=m'*z:=by have:=uQ.length;omega
    have aEP:un'.length=m'*z:=by have:=alR.length;omega
    have hf:=EF m' (aa _)
    rw[aY (by omega)]at hf
    have U1:=am1 m' (aa _)
    rw[aY (by omega)]at U1
    have qU:h.length≠0:=by have:=H.pos;omega
    rw[if_neg arK]at ha
    by_cases DE:new=[]
    ·rw[if_pos DE]at ha
     injection ha with ha;injection ha with e1 e2;subst e1;subst e2
     subst DE
     have LN:m'=0:=by
      have:m'*z=0:=by simpa using mh.symm
      rcases mJ.1 this with h|h<;>omega
     subst LN
     have hun:un=[]:=dI (by omega)
     subst hun
     refine gy.pure H (u:=.slice X n cp) ?_ hs
     rw[AV hu hi MI GV hm hf (by omega)]
     cases X<;>simp[storeCells]
    ·rw[if_neg DE]at ha
     split at ha
     ·simp at ha
     ·rename_i mw
      have ER:n+new.length<=1073741824:=by simp only[maxSize]at mw;omega
      have ajf:m'<=new.length:=by rw[mh];exact fL _ (by omega)
      have hdiv:new.length/z=m':=by rw[mh];exact gM _ (by omega)
      have LN:0<m':=by
       rcases Nat.eq_zero_or_pos m' with e0|e0
       ·subst e0
        have:new=[]:=dI (by omega)
        exact absurd this DE
       ·exact e0
      -- the new row
      have grow:∀(h2:a9) (Km:List Value) (uo:List Value),bG A φ h2 w base->h2.length=h.length->(∀(b:Nat) (k k':mm),h[b]?=some k->h2[b]?=some k'->k'.rw=true->k.rw=true)->φ h.length=none->Km.length=n*z->cM (iS A φ) Km uo->
        (Builtin.firstCells z n (.slice X n cp)).run A.P w.drew=.ok uo.toArray w.drew->cp<n+m'->Ext w.heap.size φ h w φ h2 w->
        gy A φ h w base (sl h.length 0 (n+m') z) (h2++[⟨Km++new,true⟩]) (Builtin.append_ #[t,t1] ty #[.slice X n cp,ux]):=by
       intro h2 Km uo H2 Ox alK Ab GS arp Be bB hE2
       have di:=NC (X:=X) (ty:=ty) hu hi MI LP GV hm U1 Be bB (by omega) Oj
       have Qh:=arp.length
       have dG:=grownCap_ge w (n+m') cp e
       have hR:cM (iS A φ) (Km++new) (uo++un'):=arp.append alR
       have aEr:(uo.toArray++un'.toArray++Builtin.zeroCells u0.cells (grownCap w (n+m') cp e-(n+m'))).size=grownCap w (n+m') cp e*z:=by
        simp only[Array.size_append,List.size_toArray,size_zeroCells,hu0,aEP,<-Qh,GS,<-cX]
        congr 1;omega
       have hS:=CY (w':=w.drew.alloc (.cells (uo.toArray++un'.toArray++Builtin.zeroCells u0.cells (grownCap w (n+m') cp e-(n+m'))) e)) (ty:=e) (lo:=0) (hi:=0) false (by omega) H2 hb (by rw[Ox];exact Ab) hR
        (λj q hq=>by
         have hj:j<(uo++un').length:=(au.1 hq).1
         rw[iV (by simpa using hj)]
         simpa [aeL]using hq) (by simp) (λg hg=>heap_alloc_old w.drew _ g hg) (heap_alloc_new w.drew _) (λi _=>by omega) rfl rfl rfl
       rw[Ox]at hS
       refine⟨_,_,_,di,⟨rfl,_,_,rfl,dG,λe0=>absurd e0 qU,λ_=>⟨_,dS.jG _ _ _,.inr ⟨rfl,?_,?_⟩⟩,⟨λe=>(by cases e),λe=>absurd e.1 qU⟩⟩,hS.1,Ext.trans (aa _) hE2 hS.2⟩
       ·simp only[aEr];omega
       ·intro e;cases e
      split at ha
      ·rename_i kf
       injection ha with ha;injection ha with e1 e2;subst e1;subst e2
       have UX:=h0 kf
       subst UX
       have AF:n=0:=by omega
       subst AF
       have Ab:φ h.length=none:=hφ (by simp)
       rw[hdiv]
       have:=grow h [] [] H rfl (λb k k' h1 h2 h3=>by rw[h1]at h2;injection h2 with h2;subst h2;exact h3) Ab (by simp) trivial (by cases X<;>simp[Builtin.firstCells,loadCells,loadCellsFrom]) (by omega) (Ext.refl _ _ _ _)
       simpa using this
      ·rename_i kf
       cases hk:h[a.block]? with
       |none=>simp[hk]at ha
       |some k=>
        simp only[hk]at ha
        split at ha
        ·rename_i hky
         obtain⟨EI,rfl⟩:=hky
         cases oA:aZ h a.block a.off (n*y)with
         |none=>simp[oA]at ha
         |some old=>
          simp only[oA]at ha
          injection ha with ha;injection ha with e1 e2;subst e1;subst e2
          have Ab:φ h.length=none:=hφ (by simp)
          obtain⟨lc,hl,iC⟩:=h1 kf
          rw[hdiv]
          have hoa:old.length=n*y∧∀(i:Nat) (v:Value),old[i]?=some v->k.cells[a.off+i]?=some v:=by
           unfold aZ at oA
           simp only[hk]at oA
           split at oA
           ·injection oA with oA;subst oA
            refine⟨by simp;omega,λi v hv=>?_⟩
            have hi:i<n*y:=by have:=(au.1 hv).1;simp at this;omega
            rw[bO hi,dU]at hv
            exact hv
           ·simp at oA
          by_cases xJ:n+m'<=cp
          ·rcases iC with BU|⟨rfl,xC,Gr⟩
           ·omega
           ·obtain⟨K2,mN,cur,Dn,lo,iY,hg,vC,EG⟩:=H.row _ _ _ hl hk EI
            have hmul:(n+m')*y<=cp*y:=bM _ xJ
            have ai9:(n+m')*y=n*y+m'*y:=cX _ _ _
            have ft:=kG (P:=A.P) lc.g (lc.o+a.off+n*y) Dn lo iY un 0 cur w hg (by omega) (by rw[vC];exact EG.1) (tq uQ)
            simp only[bA]at ft
            have hS:=I5 (w':=w.setRow lc.g (cur.toList.take (lc.o+a.off+n*y)++un++cur.toList.drop (lc.o+a.off+n*y+un.length)).toArray) (o:=a.off) (old:=old) H hl hk EI Ab hoa.2 uQ (by have:=hoa.1;omega) (by simp)
             (λg vD=>setRow_other w lc.g g _ vD) (λc t x y' mS=>by
              have:=yU (us:=un) (p:=lc.o+a.off+n*y) hg (by omega) c t x y' mS
              rw[hoa.1];exact this) rfl rfl rfl
            refine⟨.slice (some ⟨lc.g,lc.o+a.off,none⟩) (n+m') cp,_,_,?_,⟨rfl,_,_,rfl,xJ,λe0=>absurd e0 qU,λ_=>⟨_,dS.jG _ _ ⟨lc.g,lc.o+a.off,lc.size,lc.str⟩,.inr ⟨by simp,by simpa using xC,Gr⟩⟩,⟨λe=>(by cases e),λe=>absurd e.1 qU⟩⟩,hS.1,hS.2⟩
            rw[AV hu hi MI GV hm hf xJ]
            simp[Addr.add_lit,ft]
          ·have Hk:=Vw (b:=a.block) H
           have hEk:=Vv (φ:=φ) (h:=h) (w:=w) (b:=a.block) (lo:=w.heap.size)
           have hold:∃uo,cM (iS A φ) old uo∧(Builtin.firstCells y n (.slice X n cp)).run A.P w.drew=.ok uo.toArray w.drew:=by
            by_cases AF:n=0
            ·subst AF
             have:old=[]:=dI (by rw[hoa.1];simp)
             subst this
             exact⟨[],trivial,by cases X<;>simp[Builtin.firstCells,loadCells,loadCellsFrom]⟩
            ·rcases iC with BU|⟨rfl,xC,Gr⟩
             ·omega
             ·obtain⟨hlen,uo,Qh,hr,db⟩:=sJ Hd hl oA
              have Oy:=jX (A:=A) (w:=w.drew) db
              rw[Qh]at Oy
              exact⟨uo,hr,by simpa [Builtin.firstCells]using Oy⟩
           obtain⟨uo,za,Be⟩:=hold
           exact grow _ old uo Hk (by simp) hEk.mode Ab hoa.1 za Be (by omega) hEk
        ·simp at ha
 ·simp at ha
theorem ang{t t1 e ty:TypeId}{z:Nat}{s x us B v:Value}{h':a9}(H:bG A φ h w base)(hu:A.P.underlying t=some (.slice e))(p:fj A e=some z)(G:VR A φ s us)(hx:VR A φ x B)(b:Hz z h x s=some (v,h')):
  gy A φ h w base v h' (Builtin.copy_ #[t,t1] ty #[us,B]):=by
 unfold Hz at b;split at b
 ·rename_i a n y;cases hn:cR z h x with
  |none=>simp[hn]at b
  |some new=>
   simp only[hn]at b;split at b
   ·simp at b
   ·rename_i O;obtain⟨M,X,R,rfl,T,h0,h1,-⟩:=VR.oU G;obtain⟨m,un,hm,r,q,C⟩:=Bu H (by omega) hx hn;have Q:un.length=m*z:=by have:=r.length;omega
    have d:=C (Nat.min m n) (Nat.min_le_left _ _);split at b
    ·rename_i c;injection b with b;injection b with i j;subst i;subst j;have o:Nat.min m n=0:=by
      rcases c with c|c
      ·have:n=0:=by rcases mJ.1 c with h|h<;>omega
       subst this;simp
      ·subst c;have:m*z=0:=by simpa using q.symm
       have:m=0:=by rcases mJ.1 this with h|h<;>omega
       subst this;simp
     rw[o]at d;refine gy.pure H (u:=.int .i64 0) ?_ rfl;cases X<;>simp[Builtin.copy_,run_underlying hu,o,d,hm,storeCells,goInt,run_sizeOf p]
    ·rename_i c;cases k:storeAt h a.block a.off (new.take (n*z))with
     |none=>simp[k]at b
     |some S=>
      simp only[k,dC]at b;injection b with b;injection b with i j;subst i;subst j;have K:n≠0:=λg=>c (.inl (by simp[g]));have J:a.block≠0:=λg=>by have:=h0 g;omega
      obtain⟨lc,hl,I⟩:=h1 J;rcases I with L|⟨rfl,U,N⟩
      ·omega
      ·have l:un.take (Nat.min m n*z)=un.take (n*z):=by
        rcases Nat.le_total m n with hle|hle
        ·simp_all
        ·grind
       rw[l]at d;obtain⟨w',D,F,E⟩:=yT H k hl (r.take (n*z));have f:(min (n*z) new.length/z:Nat)=Nat.min m n:=by
        rw[q];rcases Nat.le_total m n with hle|hle
        ·rw[Nat.min_eq_right (bM z hle),gM _ (by omega)]
         grind
        ·rw[ks (bM z hle),gM _ (by omega)]
         grind
       refine⟨.int .i64 (Nat.min m n:Nat),w',φ,?_,by rw[f];exact rfl,F,E⟩;simp[Builtin.copy_,run_underlying hu,hm,run_sizeOf p,d,D,goInt]
 ·simp at b
end
end Am

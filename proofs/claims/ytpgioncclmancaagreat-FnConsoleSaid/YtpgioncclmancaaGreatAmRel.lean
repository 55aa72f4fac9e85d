/- How the model's values and memory stand to those of 'Am'; what new blocks, stores and the end of a block do to that. -/
import Derived.Test.YtpgioncclmancaaGreatAmRules
import Derived.Test.YtpgioncclmancaaGreatAmNorm
import Derived.Laws.AppendOwn
import Derived.Laws.MakeOwn
import Derived.Laws.CopyRow
import Derived.Laws.BytesString
import Derived.Laws.StructEq
import Derived.Orders
set_option linter.unusedVariables false
set_option linter.unusedSimpArgs false
namespace Am
open Go
/-- Two lists, element by element. -/
def All2{α β:Type}(R:α->β->Prop):List α->List β->Prop
 |[],[]=>True
 |a::x,b::y=>R a b∧All2 R x y
 |_,_=>False
section all2
variable {α β : Type} {R R' : α -> β -> Prop}
theorem All2.length:∀{x:List α} {y:List β},All2 R x y->x.length=y.length
 |[],[],_=>rfl
 |_::_,_::_,h=>by simp[All2.length h.2]
theorem All2.get:∀{x:List α} {y:List β},All2 R x y->∀(i:Nat) (a:α),x[i]?=some a->∃b,y[i]?=some b∧R a b
 |[],[],_,i,a,h=>by simp at h
 |a::x,b::y,hh,0,c,h=>by simp at h;subst h;exact⟨b,by simp,hh.1⟩
 |a::x,b::y,hh,i+1,c,h=>by simpa using hh.2.get i c (by simpa using h)
theorem All2.get':∀{x:List α} {y:List β},All2 R x y->∀(i:Nat) (b:β),y[i]?=some b->∃a,x[i]?=some a∧R a b
 |[],[],_,i,a,h=>by simp at h
 |a::x,b::y,hh,0,c,h=>by simp at h;subst h;exact⟨a,by simp,hh.1⟩
 |a::x,b::y,hh,i+1,c,h=>by simpa using hh.2.get' i c (by simpa using h)
theorem All2.of_get:∀{x:List α} {y:List β},x.length=y.length->(∀(i:Nat) (a:α) (b:β),x[i]?=some a->y[i]?=some b->R a b)->All2 R x y
 |[],[],_,_=>trivial
 |a::x,b::y,hl,h=>⟨h 0 a b (by simp) (by simp),All2.of_get (by simpa using hl) λi c d hc hd=>h (i+1) c d (by simpa using hc) (by simpa using hd)⟩
 |[],_::_,hl,_=>by simp at hl
 |_::_,[],hl,_=>by simp at hl
theorem All2.mono(h:∀a b,R a b->R' a b):∀{x:List α} {y:List β},All2 R x y->All2 R' x y
 |[],[],_=>trivial
 |_::_,_::_,hh=>⟨h _ _ hh.1,hh.2.mono h⟩
theorem All2.append:∀{x x':List α} {y y':List β},All2 R x y->All2 R x' y'->All2 R (x++x') (y++y')
 |[],_,[],_,_,h=>h
 |_::_,_,_::_,_,hh,h=>⟨hh.1,hh.2.append h⟩
theorem All2.take(n:Nat):∀{x:List α} {y:List β},All2 R x y->All2 R (x.take n) (y.take n):=by
 induction n with
 |zero=>intro x y _;simp[All2]
 |succ n ih=>
  intro x y h
  match x,y,h with
  |[],[],_=>exact trivial
  |_::_,_::_,h=>exact⟨h.1,ih h.2⟩
theorem All2.drop(n:Nat):∀{x:List α} {y:List β},All2 R x y->All2 R (x.drop n) (y.drop n):=by
 induction n with
 |zero=>intro x y h;exact h
 |succ n ih=>
  intro x y h
  match x,y,h with
  |[],[],_=>exact trivial
  |_::_,_::_,h=>exact ih h.2
theorem All2.replicate{a:α}{b:β}(h:R a b):∀n,All2 R (List.replicate n a) (List.replicate n b)
 |0=>trivial
 |n+1=>⟨h,All2.replicate h n⟩
end all2
/-- Where a block lies: the model's block, the cell where it begins, how many cells that block has. -/
structure Loc where
 g:Nat
 o:Nat
 size:Nat
 /-- The model marks it as memory that a text may share. -/
 str:Bool
abbrev Phi:=Nat->Option Loc
def Sub(φ φ':Phi):Prop:=∀b l,φ b=some l->φ' b=some l
theorem Sub.refl(φ:Phi):Sub φ φ:=λ_ _ h=>h
theorem Sub.trans{a b c:Phi}(x:Sub a b)(y:Sub b c):Sub a c:=λk l h=>y k l (x k l h)
section
variable (A : Seat)
/-- One cell's value, but no function. -/
def VRa(φ:Phi):Value->Value->Prop
 |.bool a,v=>v=.bool a
 |.int k n,v=>v=.int k n
 |.string s,v=>v=.string s
 |.pointer none,v=>v=.pointer none
 |.nilFunc,v=>v=.nilFunc
 |.pointer (some a),v=>a.spot=none∧∃l,φ a.block=some l∧v=.pointer (some ⟨l.g,l.o+a.off,none⟩)
 |.slice (some a) n z,v=>a.spot=none∧∃X c,v=.slice X n c∧n<=c∧(a.block=0->c=0)∧
   (a.block≠0->∃l,φ a.block=some l∧(c=0∨(X=some ⟨l.g,l.o+a.off,none⟩∧l.o+a.off+c*z<=l.size∧(l.str=true->z=1))))∧(X=none↔a.block=0∧z=0)
 |_,_=>False
/-- What a function holds of its receiver. -/
def VRb(φ:Phi):Value->Value->Prop
 |.agg cs,v=>∃vs,v=.agg vs∧All2 (VRa φ) cs.toList vs.toList
 |_,_=>False
def VR0(φ:Phi):Value->Value->Prop
 |.func (.func f) first caps,v=>∃g us vs,v=.func (.func g) us vs∧nFn A g=some f∧All2 (VRb φ) first.toList us.toList∧All2 (VRa φ) caps.toList vs.toList
 |x,v=>VRa φ x v
def VR1(φ:Phi):Value->Value->Prop
 |.agg cs,v=>∃vs,v=.agg vs∧All2 (VR0 A φ) cs.toList vs.toList
 |x,v=>VR0 A φ x v
def VR(φ:Phi):Value->Value->Prop
 |.nilIface,_=>True
 |.tuple cs,v=>∃vs,v=.tuple vs∧All2 (VR1 A φ) cs.toList vs.toList
 |x,v=>VR1 A φ x v
theorem VRa.mono{φ φ':Phi}(hs:Sub φ φ'){x v:Value}(h:VRa φ x v):VRa φ' x v:=by
 unfold VRa at*
 split at h
 ·exact h
 ·exact h
 ·exact h
 ·exact h
 ·exact h
 ·obtain⟨a,l,b,c⟩:=h;exact⟨a,l,hs _ _ b,c⟩
 ·obtain⟨a,X,c,hv,hn,h0,h1,hnil⟩:=h
  exact⟨a,X,c,hv,hn,h0,λhb=>let ⟨l,hl,hc⟩:=h1 hb;⟨l,hs _ _ hl,hc⟩,hnil⟩
 ·exact h
theorem VRb.mono{φ φ':Phi}(hs:Sub φ φ'){x v:Value}(h:VRb φ x v):VRb φ' x v:=by
 unfold VRb at*
 split at h
 ·obtain⟨vs,b,c⟩:=h;exact⟨vs,b,c.mono λ_ _=>VRa.mono hs⟩
 ·exact h
theorem VR0.mono{φ φ':Phi}(hs:Sub φ φ'){x v:Value}(h:VR0 A φ x v):VR0 A φ' x v:=by
 unfold VR0 at*
 split at h
 ·obtain⟨g,us,vs,b,c,d,e⟩:=h;exact⟨g,us,vs,b,c,d.mono λ_ _=>VRb.mono hs,e.mono λ_ _=>VRa.mono hs⟩
 ·exact h.mono hs
theorem VR1.mono{φ φ':Phi}(hs:Sub φ φ'){x v:Value}(h:VR1 A φ x v):VR1 A φ' x v:=by
 unfold VR1 at*
 split at h
 ·obtain⟨vs,b,c⟩:=h;exact⟨vs,b,c.mono λ_ _=>VR0.mono A hs⟩
 ·exact h.mono A hs
theorem VR.mono{φ φ':Phi}(hs:Sub φ φ'){x v:Value}(h:VR A φ x v):VR A φ' x v:=by
 unfold VR at*
 split at h
 ·trivial
 ·obtain⟨vs,b,c⟩:=h;exact⟨vs,b,c.mono λ_ _=>VR1.mono A hs⟩
 ·exact h.mono A hs
section inv
variable {A} {φ : Phi} {v : Value}
theorem VRa.scalar{x:Value}(h:VRa φ x v):scalar x=true:=by unfold VRa at h;split at h<;>first|rfl|exact h.elim
theorem VR0.scalar{x:Value}(h:VR0 A φ x v):scalar x=true:=by
 unfold VR0 at h;split at h
 ·rfl
 ·exact VRa.scalar h
theorem VRa.one{x:Value}(h:VRa φ x v):v.oneCell'=true:=by
 unfold VRa at h
 split at h
 ·subst h;rfl
 ·subst h;rfl
 ·subst h;rfl
 ·subst h;rfl
 ·subst h;rfl
 ·obtain⟨_,l,_,rfl⟩:=h;rfl
 ·obtain⟨_,X,c,rfl,_⟩:=h;rfl
 ·exact h.elim
theorem VR0.one{x:Value}(h:VR0 A φ x v):v.oneCell'=true:=by
 unfold VR0 at h;split at h
 ·obtain⟨g,us,vs,rfl,_⟩:=h;rfl
 ·exact VRa.one h
/-- A scalar is related as a scalar. -/
theorem VR.of_scalar{x:Value}(hx:Am.scalar x=true)(h:VR A φ x v):VR0 A φ x v:=by
 cases x<;>first|exact h|simp[Am.scalar]at hx
theorem VR.of0{x:Value}(h:VR0 A φ x v):VR A φ x v:=by
 have hs:=h.scalar
 cases x<;>first|exact h|simp[Am.scalar]at hs
theorem VR1.of0{x:Value}(h:VR0 A φ x v):VR1 A φ x v:=by
 have hs:=h.scalar
 cases x<;>first|exact h|simp[Am.scalar]at hs
theorem VR.of1{x:Value}(h:VR1 A φ x v):VR A φ x v:=by
 cases x<;>first|exact h|exact trivial|exact(show False from h).elim
theorem VR.poison:VR A φ Am.poison v:=trivial
theorem VR.int_inv{k:IntKind}{n:Int}(h:VR A φ (.int k n) v):v=.int k n:=h
theorem VR.bool_inv{b:Bool}(h:VR A φ (.bool b) v):v=.bool b:=h
theorem VR.string_inv{s:ByteArray}(h:VR A φ (.string s) v):v=.string s:=h
theorem VR.agg_inv{cs:Array Value}(h:VR A φ (.agg cs) v):∃vs,v=.agg vs∧All2 (VR0 A φ) cs.toList vs.toList:=h
theorem VR.tuple_inv{cs:Array Value}(h:VR A φ (.tuple cs) v):∃vs,v=.tuple vs∧All2 (VR1 A φ) cs.toList vs.toList:=h
theorem VR.pointer_inv{a:Addr}(h:VR A φ (.pointer (some a)) v):a.spot=none∧∃l,φ a.block=some l∧v=.pointer (some ⟨l.g,l.o+a.off,none⟩):=h
theorem VR.slice_inv{a:Addr}{n z:Nat}(h:VR A φ (.slice (some a) n z) v):a.spot=none∧∃X c,v=.slice X n c∧n<=c∧(a.block=0->c=0)∧
   (a.block≠0->∃l,φ a.block=some l∧(c=0∨(X=some ⟨l.g,l.o+a.off,none⟩∧l.o+a.off+c*z<=l.size∧(l.str=true->z=1))))∧(X=none↔a.block=0∧z=0):=h
theorem VR.func_inv{f:Nat}{first caps:Array Value}(h:VR A φ (.func (.func f) first caps) v):∃g us vs,v=.func (.func g) us vs∧nFn A g=some f∧All2 (VRb φ) first.toList us.toList∧All2 (VRa φ) caps.toList vs.toList:=h
theorem cellsOf_rel{x:Value}{cs:List Value}(hc:cellsOf x=some cs)(h:VR A φ x v):All2 (VR0 A φ) cs v.cells.toList:=by
 unfold cellsOf at hc
 split at hc
 ·injection hc with hc;subst hc
  obtain⟨vs,rfl,hh⟩:=VR.agg_inv h
  exact hh
 ·split at hc
  ·rename_i hs
   injection hc with hc;subst hc
   have h0:=VR.of_scalar hs h
   have h1:=h0.one
   have:v.cells=#[v]:=by cases v<;>first|rfl|simp[Value.oneCell']at h1
   rw[this]
   exact⟨h0,trivial⟩
  ·simp at hc
end inv
/-- Memory: each block that has a place reads there as it should; blocks that may be written lie apart, in memory of our own. -/
structure HeapR (φ:Phi) (h:Heap) (w:World) (base:Nat):Prop where
 pos:0<h.length
 low:∀b l,φ b=some l->l.g<w.heap.size
 cells:∀b l k,φ b=some l->h[b]?=some k->∀i v,k.cells[i]?=some v->∃u,w.cell? ⟨l.g,l.o+i,none⟩=some u∧VR0 A φ v u
 row:∀b l k,φ b=some l->h[b]?=some k->k.rw=true->base<=l.g∧l.o+k.cells.length<=l.size∧
  ∃cur ty lo hi,w.heap[l.g]?=some (.cells cur ty (lo,hi))∧cur.size=l.size∧(∀i,i<l.size->¬(lo<=i∧i<hi))∧(lo<=l.size∧l.size<hi->l.str=true)
 one:∀b b' l l' k k',φ b=some l->φ b'=some l'->h[b]?=some k->h[b']?=some k'->k.rw=true->k'.rw=true->l.g=l'.g->b=b'
 old:∀b l k,φ b=some l->h[b]?=some k->k.rw=false->k.cells≠[]->l.g<base
/-- From one state of memory to a later one. Below 'lo' only blocks that may be written have turned. -/
structure Ext (lo:Nat) (φ:Phi) (h:Heap) (w:World) (φ':Phi) (h':Heap) (w':World):Prop where
 sub:Sub φ φ'
 newd:∀b,h.length<=b->b<h'.length->φ' b≠none
 same:∀b,b<h.length∨h'.length<=b->φ' b=φ b
 len:h.length<=h'.length
 mode:∀(b:Nat) (k k':Blk),h[b]?=some k->h'[b]?=some k'->k'.rw=true->k.rw=true
 size:w.heap.size<=w'.heap.size
 os:w'.os=w.os
 tape:w'.tape=w.tape
 output:w'.output=w.output
 frame:∀g,g<lo->(∀b l k,φ b=some l->h[b]?=some k->k.rw=true->l.g≠g)->w'.heap[g]?=w.heap[g]?
 fresh:∀b l,h.length<=b->b<h'.length->φ' b=some l->w.heap.size<=l.g∨∃b0 l0 k0,φ b0=some l0∧h[b0]?=some k0∧k0.rw=true∧l0.g=l.g
theorem Ext.refl(lo:Nat)(φ:Phi)(h:Heap)(w:World):Ext lo φ h w φ h w where
 sub:=Sub.refl φ
 newd:=λb h1 h2=>by omega
 same:=λ_ _=>rfl
 len:=Nat.le_refl _
 mode:=λb k k' h1 h2 h3=>by rw[h1]at h2;injection h2 with h2;subst h2;exact h3
 size:=Nat.le_refl _
 os:=rfl
 tape:=rfl
 output:=rfl
 frame:=λ_ _ _=>rfl
 fresh:=λb l h1 h2=>by omega
theorem Ext.trans{lo:Nat}{φ φ1 φ2:Phi}{h h1 h2:Heap}{w w1 w2:World}(hlo:lo<=w.heap.size)(a:Ext lo φ h w φ1 h1 w1)(b:Ext lo φ1 h1 w1 φ2 h2 w2):Ext lo φ h w φ2 h2 w2 where
 sub:=a.sub.trans b.sub
 newd:=λk hk1 hk2=>by
  by_cases hk:k<h1.length
  ·rw[b.same k (.inl hk)];exact a.newd k hk1 hk
  ·exact b.newd k (by omega) hk2
 same:=λk hk=>by
  have:=a.len;have:=b.len
  rcases hk with hk|hk
  ·rw[b.same k (.inl (by omega)),a.same k (.inl hk)]
  ·rw[b.same k (.inr hk),a.same k (.inr (by omega))]
 len:=Nat.le_trans a.len b.len
 mode:=λk x y hx hy hr=>by
  have hlt:k<h1.length:=by have:=a.len;have:=(List.getElem?_eq_some_iff.1 hx).1;omega
  obtain⟨z,hz⟩:∃z,h1[k]?=some z:=⟨_,List.getElem?_eq_getElem hlt⟩
  exact a.mode k x z hx hz (b.mode k z y hz hy hr)
 size:=Nat.le_trans a.size b.size
 os:=b.os.trans a.os
 tape:=b.tape.trans a.tape
 output:=b.output.trans a.output
 frame:=λg hg hn=>by
  rw[b.frame g hg,a.frame g hg hn]
  intro k l kk hl hk hr he
  have hk1:k<h1.length:=(List.getElem?_eq_some_iff.1 hk).1
  by_cases hlt:k<h.length
  ·have hφ:φ k=some l:=by rw[<-a.same k (.inl hlt)];exact hl
   obtain⟨z,hz⟩:∃z,h[k]?=some z:=⟨_,List.getElem?_eq_getElem hlt⟩
   exact hn k l z hφ hz (a.mode k z kk hz hk hr) he
  ·rcases a.fresh k l (by omega) hk1 hl with hf|⟨b0,l0,k0,h1',h2',h3',h4'⟩
   ·omega
   ·exact hn b0 l0 k0 h1' h2' h3' (h4'.trans he)
 fresh:=λk l hk1 hk2 hl=>by
  by_cases hlt:k<h1.length
  ·exact a.fresh k l hk1 hlt (by rw[<-b.same k (.inl hlt)];exact hl)
  ·rcases b.fresh k l (by omega) hk2 hl with hf|⟨b0,l0,k0,e1,e2,e3,e4⟩
   ·exact .inl (Nat.le_trans a.size hf)
   ·have hb0:b0<h1.length:=(List.getElem?_eq_some_iff.1 e2).1
    by_cases hb:b0<h.length
    ·refine .inr ⟨b0,l0,_,by rw[<-a.same b0 (.inl hb)];exact e1,List.getElem?_eq_getElem hb,?_,e4⟩
     exact a.mode b0 _ k0 (List.getElem?_eq_getElem hb) e2 e3
    ·rcases a.fresh b0 l0 (by omega) hb0 e1 with hf|⟨c0,m0,n0,f1,f2,f3,f4⟩
     ·exact .inl (by omega)
     ·exact .inr ⟨c0,m0,n0,f1,f2,f3,f4.trans e4⟩
theorem Ext.weak{lo lo':Nat}{φ φ':Phi}{h h':Heap}{w w':World}(hl:lo<=lo')(a:Ext lo' φ h w φ' h' w'):Ext lo φ h w φ' h' w':=
 {a with frame:=λg hg=>a.frame g (Nat.lt_of_lt_of_le hg hl)}
end
end Am

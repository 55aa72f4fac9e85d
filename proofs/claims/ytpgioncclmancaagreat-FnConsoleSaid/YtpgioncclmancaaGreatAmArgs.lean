/- The arguments of a law, of whatever shape, as memory of 'Am' that may be read alone. -/
import Derived.Test.YtpgioncclmancaaGreatAmEntry
import Derived.WideKeyArgs
import Derived.Deep.Slices
import Derived.ChangeArms
import Derived.OpenShut
set_option linter.unusedVariables false
set_option linter.unusedSimpArgs false
namespace Am
open Go Go.RowKit Go.ChangeShapes Go.WideShapes
/-- What a value is made of. -/
inductive Shp where
 |int (k:IntKind)|str|bool|pair (a b:Shp)|slice (a:Shp)
@[reducible] def Shp.T:Shp->Type
 |.int _=>Int
 |.str=>List UInt8
 |.bool=>Bool
 |.pair a b=>a.T×b.T
 |.slice a=>List a.T
def Shp.n:Shp->Nat
 |.pair a b=>a.n+b.n
 |_=>1
theorem Shp.pos:∀D:Shp,0<D.n
 |.int _|.str|.bool|.slice _=>by simp[Shp.n]
 |.pair a b=>by have:=a.pos;simp[Shp.n];omega
/-- These cells, in this memory, read so. -/
def Rd(h:Heap):(D:Shp)->List Value->D.T->Prop
 |.int k,cs,(x:Int)=>cs=[.int k x]∧(Lit.int k x).wf=true
 |.str,cs,(x:List UInt8)=>cs=[S x]∧x.length<=maxLen
 |.bool,cs,(x:Bool)=>cs=[.bool x]
 |.pair a b,cs,(x:a.T×b.T)=>∃c1 c2,cs=c1++c2∧Rd h a c1 x.1∧Rd h b c2 x.2
 |.slice a,cs,(x:List a.T)=>∃b o z css,cs=[sl b o x.length z]∧(z=a.n∨b=0∧x=[])∧x.length<=maxLen∧All2 (λc y=>Rd h a c y) css x∧(x=[]∨cellsAt h b o (x.length*a.n)=some css.flatten)
theorem Rd.len{h:Heap}:∀{D:Shp} {cs:List Value} {x:D.T},Rd h D cs x->cs.length=D.n
 |.int _,cs,x,⟨e,_⟩=>by rw[e];rfl
 |.str,cs,x,⟨e,_⟩=>by rw[e];rfl
 |.bool,cs,x,e=>by rw[show cs=_ from e];rfl
 |.pair a b,cs,x,⟨c1,c2,e,h1,h2⟩=>by rw[e,List.length_append,h1.len,h2.len];rfl
 |.slice a,cs,x,⟨b,o,z,css,e,_⟩=>by rw[e];rfl
theorem grows_cellsAt{h h':Heap}(g:Grows h h'){b o n:Nat}{cs:List Value}(hc:cellsAt h b o n=some cs):cellsAt h' b o n=some cs:=by
 obtain⟨l,rfl⟩:=g
 unfold cellsAt at hc ⊢
 split at hc
 ·rename_i k hk
  rw[List.getElem?_append_left (List.getElem?_eq_some_iff.1 hk).1,hk];exact hc
 ·simp at hc
theorem Rd.grow{h h':Heap}(g:Grows h h'):∀{D:Shp} {cs:List Value} {x:D.T},Rd h D cs x->Rd h' D cs x
 |.int _,cs,x,r=>r
 |.str,cs,x,r=>r
 |.bool,cs,x,r=>r
 |.pair a b,cs,x,⟨c1,c2,e,h1,h2⟩=>⟨c1,c2,e,h1.grow g,h2.grow g⟩
 |.slice a,cs,x,⟨b,o,z,css,e,hz,hm,h1,h2⟩=>⟨b,o,z,css,e,hz,hm,h1.mono λ_ _ r=>Rd.grow g r,h2.imp id (grows_cellsAt g)⟩
/-! ### the shape of a type -/
def shapesOf(P:Program)(g:TypeId->Option Shp):List Field->Nat->Option Shp
 |[],_=>none
 |[f],off=>match g f.type with
  |some D=>if f.offset=off∧P.cellsOf f.type=D.n then some D else none
  |none=>none
 |f::r,off=>match g f.type,shapesOf P g r (off+P.cellsOf f.type)with
  |some D,some E=>if f.offset=off∧P.cellsOf f.type=D.n then some (.pair D E)else none
  |_,_=>none
def shapeOf(P:Program):Nat->TypeId->Option Shp
 |0,_=>none
 |k+1,t=>match P.underlying t with
  |some (.int i)=>some (.int i)
  |some .string=>some .str
  |some .bool=>some .bool
  |some (.slice e)=>match shapeOf P k e with
   |some D=>if P.cellsOf e=D.n then some (.slice D)else none
   |none=>none
  |some (.struct fs)=>match shapesOf P (shapeOf P k) fs.toList 0 with
   |some (.pair D E)=>if P.cellsOf t=(Shp.pair D E).n then some (.pair D E)else none
   |_=>none
  |_=>none
section
variable {A : Seat} {H : Type} {enc : TypeId × Value -> H} {W : World}
/-- No block of it may be written. -/
def RO(h:Heap):Prop:=∀(b:Nat) (k:Blk),h[b]?=some k->k.rw=false
/-- A state of the arguments' memory. -/
structure ArgM (A:Seat) (W:World) (φ:Phi) (h:Heap):Prop where
 rel:HeapR A φ h W W.heap.size
 ro:RO h
 out:∀b,h.length<=b->φ b=none
theorem ArgM.push{φ:Phi}{h:Heap}(x:ArgM A W φ h){l:Loc}{cs us:List Value}(hlt:l.g<W.heap.size)(hu:∀i u,us[i]?=some u->W.cell? ⟨l.g,l.o+i,none⟩=some u)(hv:All2 (VR0 A φ) cs us):
  ArgM A W (λb=>if b=h.length then some l else φ b) (h++[⟨cs,false⟩])∧Sub φ (λb=>if b=h.length then some l else φ b):=by
 have hs:Sub φ (λb=>if b=h.length then some l else φ b):=by
  intro b l' hb
  have:b≠h.length:=λe=>by rw[x.out b (by omega)]at hb;cases hb
  simp[this,hb]
 refine⟨⟨⟨by simp,?_,?_,?_,?_,?_⟩,?_,?_⟩,hs⟩
 ·intro b l' hb
  split at hb
  ·injection hb with hb;subst hb;exact hlt
  ·exact x.rel.low b l' hb
 ·intro b l' k hb hk i v hi
  split at hb
  ·rename_i e
   injection hb with hb;subst hb;subst e
   simp at hk;subst hk
   obtain⟨u,hu',hr⟩:=hv.get i v hi
   exact⟨u,hu i u hu',hr.mono A hs⟩
  ·rename_i e
   have hbl:b<h.length:=by
    by_cases hc:b<h.length
    ·exact hc
    ·rw[x.out b (by omega)]at hb;cases hb
   rw[List.getElem?_append_left hbl]at hk
   obtain⟨u,hu',hr⟩:=x.rel.cells b l' k hb hk i v hi
   exact⟨u,hu',hr.mono A hs⟩
 ·intro b l' k hb hk hrw
  exfalso
  by_cases hc:b<h.length
  ·rw[List.getElem?_append_left hc]at hk;rw[x.ro b k hk]at hrw;cases hrw
  ·have hlt':=(List.getElem?_eq_some_iff.1 hk).1
   have:b=h.length:=by simp at hlt';omega
   subst this;simp at hk;subst hk;cases hrw
 ·intro b b' l' l'' k k' hb hb' hk hk' hrw
  exfalso
  by_cases hc:b<h.length
  ·rw[List.getElem?_append_left hc]at hk;rw[x.ro b k hk]at hrw;cases hrw
  ·have hlt':=(List.getElem?_eq_some_iff.1 hk).1
   have:b=h.length:=by simp at hlt';omega
   subst this;simp at hk;subst hk;cases hrw
 ·intro b l' k hb hk hrw hne
  split at hb
  ·injection hb with hb;subst hb;exact hlt
  ·exact x.rel.low b l' hb
 ·intro b k hk
  by_cases hc:b<h.length
  ·rw[List.getElem?_append_left hc]at hk;exact x.ro b k hk
  ·have hlt':=(List.getElem?_eq_some_iff.1 hk).1
   have:b=h.length:=by simp at hlt';omega
   subst this;simp at hk;subst hk;rfl
 ·intro b hb
  simp at hb
  rw[if_neg (by omega)]
  exact x.out b (by omega)
/-- What opening one piece gives. -/
def Opened(A:Seat)(W:World)(D:Shp)(cs:List Value):Prop:=∀φ h,ArgM A W φ h->∃φ' l cs' X,ArgM A W φ' (h++l)∧Sub φ φ'∧Rd (h++l) D cs' X∧All2 (VR0 A φ') cs' cs
theorem All2.len_flatten{h:Heap}{a:Shp}:∀{css:List (List Value)} {x:List a.T},All2 (λc y=>Rd h a c y) css x->css.flatten.length=x.length*a.n
 |[],[],_=>by simp
 |c::css,y::x,h=>by
  simp only[List.flatten_cons,List.length_append,List.length_cons,Nat.add_mul,Nat.one_mul]
  rw[h.1.len,All2.len_flatten h.2];omega
theorem cell_block{a:Addr}{v:Value}(h:W.cell? a=some v):a.block<W.heap.size∧a.spot=none:=by
 unfold World.cell? at h
 split at h
 ·rename_i c _ _ hh
  refine⟨(Array.getElem?_eq_some_iff.1 hh).1,?_⟩
  split at h
  ·cases h
  ·rename_i hs;simpa using hs
 ·cases h
/-- The elements of a slice, one by one. -/
theorem open_elems{a:Shp}{css:List (List Value)}(he:∀c∈css,Opened A W a c):∀φ h,ArgM A W φ h->
  ∃φ' l css' X,ArgM A W φ' (h++l)∧Sub φ φ'∧All2 (λc y=>Rd (h++l) a c y) css' X∧All2 (VR0 A φ') css'.flatten css.flatten∧X.length=css.length:=by
 induction css with
 |nil=>intro φ h x;exact⟨φ,[],[],[],by simpa using x,Sub.refl φ,trivial,trivial,rfl⟩
 |cons c css ih=>
  intro φ h x
  obtain⟨φ1,l1,c',y,x1,s1,r1,v1⟩:=he c (by simp) φ h x
  obtain⟨φ2,l2,css',X,x2,s2,r2,v2,e2⟩:=ih (λc hc=>he c (by simp[hc])) φ1 (h++l1) x1
  refine⟨φ2,l1++l2,c'::css',y::X,by simpa using x2,s1.trans s2,⟨?_,by simpa using r2⟩,?_,by simp[e2]⟩
  ·have:=r1.grow (h':=h++(l1++l2)) ⟨l2,by simp⟩
   exact this
  ·simp only[List.flatten_cons]
   exact All2.append (v1.mono λ_ _=>VR0.mono A s2) v2
theorem mapM_cells{base:Nat}{a:Addr}{n:Nat}{cs:List Value}(h:W.cells? base a n=some cs):cs.length=n∧∀i,i<n->W.cell? (a.add i)=cs[i]?:=(World.cells?_some h).2
theorem flat_get{α:Type}{z:Nat}:∀{css:List (List α)} (_:∀c∈css,c.length=z) {i:Nat} {u:α},css.flatten[i]?=some u->∃k j c,k<css.length∧j<z∧i=k*z+j∧css[k]?=some c∧c[j]?=some u
 |[],_,i,u,h=>by simp at h
 |c::css,hz,i,u,h=>by
  have hc:c.length=z:=hz c (by simp)
  simp only[List.flatten_cons]at h
  by_cases hi:i<z
  ·rw[List.getElem?_append_left (by omega)]at h
   exact⟨0,i,c,by simp,hi,by simp,by simp,h⟩
  ·rw[List.getElem?_append_right (by omega),hc]at h
   obtain⟨k,j,c',h1,h2,h3,h4,h5⟩:=flat_get (λc hc=>hz c (by simp[hc])) h
   refine⟨k+1,j,c',by simp;omega,h2,?_,by simpa using h4,h5⟩
   rw[Nat.add_mul];omega
theorem open_shape:∀(k:Nat) (D:Shp) (t:TypeId) (n:Nat) (cs:List Value) (x:DataW H×List MemPlace),shapeOf A.P k t=some D->DataW.trod enc A.P W 0 (λ_=>true) true n t cs=some x->Opened A W D cs:=by
 intro k
 induction k with
 |zero=>intro D t n cs x hD;simp[shapeOf]at hD
 |succ k ih=>
  intro D t n cs x hD hx φ h hm
  unfold shapeOf at hD
  split at hD
  ·rename_i i hu
   injection hD with hD;subst hD
   obtain⟨m,rfl,_,hw⟩:=DataW.trod_int hu hx
   exact⟨φ,[],[.int i m],m,by simpa using hm,Sub.refl φ,⟨rfl,hw⟩,⟨rfl,trivial⟩⟩
  ·rename_i hu
   injection hD with hD;subst hD
   obtain⟨s,rfl,_,hw⟩:=DataW.trod_string hu hx
   exact⟨φ,[],[.string s],s.data.toList,by simpa using hm,Sub.refl φ,⟨by rw[S_data],hw⟩,⟨rfl,trivial⟩⟩
  ·rename_i hu
   injection hD with hD;subst hD
   obtain⟨b,rfl,_⟩:=DataW.trod_bool hu hx
   exact⟨φ,[],[.bool b],b,by simpa using hm,Sub.refl φ,rfl,⟨rfl,trivial⟩⟩
  ·rename_i e hu
   split at hD
   ·rename_i a ha
    split at hD
    ·rename_i hc
     injection hD with hD;subst hD
     have hap:=a.pos
     rcases Go.Deep.open_slice hu hx with⟨rfl,_⟩|⟨ad,len,cap,m,fu,Dt,Pl,rfl,_,hl,hmx,hmm,_,hel⟩
     ·exact⟨φ,[],[sl 0 0 0 0],[],by simpa using hm,Sub.refl φ,⟨0,0,0,[],rfl,.inr ⟨rfl,rfl⟩,by simp,trivial,.inl rfl⟩,⟨⟨rfl,none,0,rfl,Nat.le_refl _,λ_=>rfl,λe=>absurd rfl e,⟨λ_=>⟨rfl,rfl⟩,λ_=>rfl⟩⟩,trivial⟩⟩
     ·simp only[if_true]at hmm
      subst hmm
      by_cases h0:m=0
      ·subst h0
       have:len=0:=by omega
       subst this
       exact⟨φ,[],[sl 0 0 0 a.n],[],by simpa using hm,Sub.refl φ,⟨0,0,a.n,[],rfl,.inl rfl,by simp,trivial,.inl rfl⟩,⟨⟨rfl,some ad,0,rfl,Nat.le_refl _,λ_=>rfl,λe=>absurd rfl e,⟨λe=>(by cases e),λe=>absurd e.2 (by omega)⟩⟩,trivial⟩⟩
      · -- the elements' cells
       obtain⟨cf,hcf⟩:=Go.Deep.choose_lt (n:=m) (p:=λi cs'=>W.cells? 0 (ad.add (i*A.P.cellsOf e)) (A.P.cellsOf e)=some cs'∧DataW.trod enc A.P W 0 (λ_=>true) true fu e cs'=some (Dt i,Pl i)) hel
       rw[hc]at hcf
       have first:=(mapM_cells (hcf 0 (by omega)).1).2 0 hap
       have flen:=(mapM_cells (hcf 0 (by omega)).1).1
       rw[List.getElem?_eq_getElem (by omega)]at first
       have hblk:=cell_block first
       simp[Addr.add]at hblk
       obtain⟨hbk,hsp⟩:=hblk
       have css:∃css:List (List Value),css=(List.range len).map cf:=⟨_,rfl⟩
       obtain⟨css,hcss⟩:=css
       have hcl:css.length=len:=by rw[hcss];simp
       have hcg:∀i,i<len->css[i]?=some (cf i):=λi hi=>by rw[hcss];simp[hi]
       obtain⟨φ1,l1,css',X,x1,s1,r1,v1,e1⟩:=open_elems (A:=A) (W:=W) (a:=a) (css:=css) (λc hc'=>by
        rw[hcss]at hc'
        obtain⟨i,hi,rfl⟩:=List.mem_map.1 hc'
        exact ih a e fu (cf i) _ ha (hcf i (by have:=List.mem_range.1 hi;omega)).2) φ h hm
       have eX:X.length=len:=by rw[e1,hcl]
       have hz:∀c∈css,c.length=a.n:=λc hc'=>by
        rw[hcss]at hc'
        obtain⟨i,hi,rfl⟩:=List.mem_map.1 hc'
        exact(mapM_cells (hcf i (by have:=List.mem_range.1 hi;omega)).1).1
       have adn:∀q,(ad.add q)=⟨ad.block,ad.off+q,none⟩:=λq=>by
        unfold Addr.add
        split
        ·rename_i h0;subst h0;cases ad;simp at hsp;subst hsp;rfl
        ·rfl
       obtain⟨x2,s2⟩:=x1.push (l:=⟨ad.block,ad.off,ad.off+m*a.n,false⟩) (cs:=css'.flatten) (us:=css.flatten) hbk (λi u hu'=>by
        obtain⟨q,j,c,h1,h2,h3,h4,h5⟩:=flat_get hz hu'
        rw[hcl]at h1
        rw[hcg q h1]at h4
        injection h4 with h4;subst h4
        have:=(mapM_cells (hcf q (by omega)).1).2 j h2
        rw[h5,Go.Deep.add_add,<-h3,adn]at this
        exact this) v1
       refine⟨_,l1++[⟨css'.flatten,false⟩],[sl (h++l1).length 0 len a.n],X,by simpa using x2,s1.trans s2,⟨(h++l1).length,0,a.n,css',by rw[eX],.inl rfl,by omega,?_,?_⟩,?_⟩
       ·exact r1.mono λ_ _ r=>r.grow ⟨[⟨css'.flatten,false⟩],by simp⟩
       ·right
        have hfl:=All2.len_flatten r1
        rw[<-List.append_assoc]
        unfold cellsAt
        rw[List.getElem?_append_right (by omega)]
        simp[hfl]
        rw[<-hfl,List.take_length]
       ·refine⟨⟨rfl,some ad,m,rfl,hl,λe=>?_,λ_=>⟨⟨ad.block,ad.off,ad.off+m*a.n,false⟩,if_pos rfl,.inr ⟨?_,by simp,λe=>(by cases e)⟩⟩,⟨λe=>(by cases e),λe=>absurd e.2 (by omega)⟩⟩,trivial⟩
        ·exfalso
         have:=x1.rel.pos
         simp only[List.length_append]at e this
         omega
        ·show some ad=some ⟨ad.block,ad.off+0,none⟩
         rw[<-adn 0]
         rfl
    ·cases hD
   ·cases hD
  ·rename_i fs hu
   split at hD
   ·rename_i E1 E2 hE
    split at hD
    ·rename_i hc
     injection hD with hD;subst hD
     obtain⟨E,hEE⟩:∃E,E=Shp.pair E1 E2:=⟨_,rfl⟩
     rw[<-hEE]at hE hc ⊢
     obtain⟨xs,fu,_,_,hlen,hxl,hf⟩:=DataW.trod_struct hu hx
     rw[hc]at hlen
     -- field by field
     have key:∀(l:List Field) (off:Nat) (E:Shp),shapesOf A.P (shapeOf A.P k) l off=some E->(∀f∈l,∃y,DataW.trod enc A.P W 0 (λ_=>true) true fu f.type ((cs.drop f.offset).take (A.P.cellsOf f.type))=some y)->
       off+E.n=cs.length->Opened A W E (cs.drop off):=by
      intro l
      induction l with
      |nil=>intro off E hE;simp[shapesOf]at hE
      |cons f r ihl=>
       intro off E hE hall hoff
       cases r with
       |nil=>
        simp only[shapesOf]at hE
        split at hE
        ·rename_i D hD
         split at hE
         ·rename_i hfo
          injection hE with hE;subst hE
          obtain⟨y,hy⟩:=hall f (by simp)
          rw[hfo.1,hfo.2,List.take_of_length_le (by simp;omega)]at hy
          exact ih D _ _ _ _ hD hy
         ·cases hE
        ·cases hE
       |cons g r=>
        simp only[shapesOf]at hE
        split at hE
        ·rename_i D F hD hF
         split at hE
         ·rename_i hfo
          injection hE with hE;subst hE
          obtain⟨y,hy⟩:=hall f (by simp)
          rw[hfo.1,hfo.2]at hy
          have o1:=ih D _ _ _ _ hD hy
          rw[hfo.2]at hF
          have hn:(Shp.pair D F).n=D.n+F.n:=rfl
          have o2:=ihl (off+D.n) F hF (λf hf=>hall f (List.mem_cons_of_mem _ hf)) (by omega)
          intro φ h hm
          obtain⟨φ1,l1,c1,X1,m1,s1,r1,v1⟩:=o1 φ h hm
          obtain⟨φ2,l2,c2,X2,m2,s2,r2,v2⟩:=o2 φ1 (h++l1) m1
          refine⟨φ2,l1++l2,c1++c2,(X1,X2),by simpa using m2,s1.trans s2,⟨c1,c2,rfl,r1.grow ⟨l2,by simp⟩,by simpa using r2⟩,?_⟩
          have e:cs.drop off=(cs.drop off).take D.n++cs.drop (off+D.n):=by
           rw[<-List.drop_drop,List.take_append_drop]
          rw[e]
          exact All2.append (v1.mono λ_ _=>VR0.mono A s2) v2
         ·cases hE
        ·cases hE
     have hgo:=key fs.toList 0 E hE (λf hf'=>by
      obtain⟨i,hi⟩:=List.getElem?_of_mem hf'
      have:=hf i f (by simpa using hi)
      have hil:i<xs.length:=by rw[hxl];have:=(List.getElem?_eq_some_iff.1 hi).1;simpa using this
      rw[List.getElem?_eq_getElem hil]at this
      exact⟨_,this⟩) (by omega)
     simpa using hgo φ h hm
    ·cases hD
   ·cases hD
  ·cases hD
/-- Cells as a value. -/
def asVal:Shp->List Value->Value
 |.pair _ _,cs=>.agg cs.toArray
 |_,cs=>cs.headD poison
/-- An argument. -/
def ArgR(h:Heap)(D:Shp)(v:Value):Prop:=∃cs X,Rd h D cs X∧v=asVal D cs
theorem ArgR.grow{h h':Heap}(g:Grows h h'){D:Shp}{v:Value}(x:ArgR h D v):ArgR h' D v:=by
 obtain⟨cs,X,r,e⟩:=x;exact⟨cs,X,r.grow g,e⟩
theorem VR_of_VR0{φ:Phi}{x v:Value}(h:VR0 A φ x v)(hs:scalar x=true):VR A φ x v:=by
 unfold VR VR1
 cases x<;>first|exact h|cases hs
/-- One argument. -/
theorem open_arg{k:Nat}{D:Shp}{t:TypeId}{base:Nat}{u:Value}{d:DataW H}{p:List MemPlace}(hD:shapeOf A.P k t=some D)(hok:Value.okWide A.P W .any base t u)(hd:DataW.Trod enc A.P W 0 (λ_=>true) true t u d p){φ:Phi}{h:Heap}(hm:ArgM A W φ h):
  ∃φ' l v,ArgM A W φ' (h++l)∧Sub φ φ'∧ArgR (h++l) D v∧VR A φ' v u:=by
 obtain⟨n,hn⟩:=hd
 obtain⟨φ',l,cs',X,m',s',r',v'⟩:=open_shape k D t n _ _ hD hn φ h hm
 refine⟨φ',l,asVal D cs',m',s',⟨cs',X,r',rfl⟩,?_⟩
 have hl:=r'.len
 cases k with
 |zero=>simp[shapeOf]at hD
 |succ k=>
  unfold shapeOf at hD
  split at hD
  ·rename_i i hu
   injection hD with hD;subst hD
   obtain⟨q,rfl⟩:=okWide_int hu hok
   obtain⟨rfl,_⟩:=r'
   exact VR_of_VR0 v'.1 rfl
  ·rename_i hu
   injection hD with hD;subst hD
   obtain⟨q,rfl⟩:=okWide_string hu hok
   obtain⟨rfl,_⟩:=r'
   exact VR_of_VR0 v'.1 rfl
  ·rename_i hu
   injection hD with hD;subst hD
   obtain⟨q,rfl⟩:=okWide_bool hu hok
   obtain rfl:cs'=_:=r'
   exact VR_of_VR0 v'.1 rfl
  ·rename_i e hu
   split at hD
   ·split at hD
    ·injection hD with hD;subst hD
     obtain⟨a,b,c,rfl⟩:=okWide_slice hu hok
     obtain⟨b,o,z,css,rfl,_⟩:=r'
     exact VR_of_VR0 v'.1 rfl
    ·cases hD
   ·cases hD
  ·rename_i fs hu
   split at hD
   ·rename_i E1 E2 hE
    split at hD
    ·rename_i hc
     injection hD with hD;subst hD
     obtain⟨us,rfl,hus⟩:=okWide_struct hu hok
     exact⟨us,rfl,by simpa [Value.cells]using v'⟩
    ·cases hD
   ·cases hD
  ·cases hD
/-- The arguments. -/
theorem open_args{k:Nat}{base:Nat}:∀{ts:List TypeId} {Ds:List Shp} {us:List Value} {ds:List (DataW H)} {p:List MemPlace} (_:ts.map (shapeOf A.P k)=Ds.map some) (_:∀(j:Nat) t v,ts[j]?=some t->us[j]?=some v->Value.okWide A.P W .any base t v)
  (_:DataW.TrodAll enc A.P W 0 (λ_=>true) true ts us ds p) {φ:Phi} {h:Heap} (_:ArgM A W φ h),∃φ' l vs,ArgM A W φ' (h++l)∧Sub φ φ'∧All2 (ArgR (h++l)) Ds vs∧All2 (VR A φ') vs us:=by
 intro ts
 induction ts with
 |nil=>
  intro Ds us ds p hD hok hd φ h hm
  obtain⟨rfl,rfl,rfl⟩:=trodAll_nil hd
  have:Ds=[]:=by cases Ds<;>simp_all
  subst this
  exact⟨φ,[],[],by simpa using hm,Sub.refl φ,trivial,trivial⟩
 |cons t ts ih=>
  intro Ds us ds p hD hok hd φ h hm
  obtain⟨v,vs,d,ds',p',q',rfl,rfl,rfl,h1,h2⟩:=trodAll_cons hd
  cases Ds with
  |nil=>simp at hD
  |cons D Ds=>
   simp only[List.map_cons,List.cons.injEq]at hD
   obtain⟨φ1,l1,v1,m1,s1,r1,e1⟩:=open_arg hD.1 (hok 0 t v rfl rfl) h1 hm
   obtain⟨φ2,l2,vs2,m2,s2,r2,e2⟩:=ih hD.2 (λj t v h h'=>hok (j+1) t v h h') h2 m1
   refine⟨φ2,l1++l2,v1::vs2,by simpa using m2,s1.trans s2,⟨?_,by simpa using r2⟩,⟨e1.mono A s2,e2⟩⟩
   exact r1.grow ⟨l2,by simp⟩
theorem flat_arg:ArgM A W (λ_=>none) flat:=⟨flat_rel W,flat_ro,λ_ _=>rfl⟩
/-- A law whose contract holds for arguments of these shapes answers true in the model. -/
theorem law_any{Γ:Nat->Option AFun}{f g k base:Nat}{ts:List TypeId}{Ds:List Shp}{us:List Value}{ds:List (DataW H)}{p:List MemPlace}(hmix:A.P.follows .mixedOrders=true)(hE:EqOk A)(hlink:∀base,Link A base Γ)(hg:nFn A g=some f)
  (law:∀h vs,0<h.length->All2 (ArgR h) Ds vs->ACall Γ f vs h λv _=>v=.bool true) (hD:ts.map (shapeOf A.P k)=Ds.map some) (hok:∀(j:Nat) t v,ts[j]?=some t->us[j]?=some v->Value.okWide A.P W .any base t v)
  (hd:DataW.TrodAll enc A.P W 0 (λ_=>true) true ts us ds p):Calls A.P g us.toArray W λe w'=>e=.returned (.bool true)∧Below W.heap.size W w':=by
 obtain⟨φ,l,vs,m,_,r,v⟩:=open_args hD hok hd (flat_arg (A:=A) (W:=W))
 exact law_calls hmix hE hlink hg (law _ vs (by simp[flat]) r) m.rel m.ro m.out v
theorem trodAll_stays{P:Program}(hl:laidOutB P=true){W':World}{sp':Nat->Bool}:∀{ts:List TypeId} (_:∀t∈ts,P.readableRec t=true∧t<P.types.size) {vs:List Value} {ds:List (DataW H)} {ps:List MemPlace}
  (_:DataW.TrodAll enc P W 0 (λ_=>true) true ts vs ds ps) (_:∀p∈ps,W.sameAt W' p) (_:∀p∈ps,sp' p.block=true),DataW.TrodAll enc P W' 0 sp' true ts vs ds ps:=by
 intro ts
 induction ts with
 |nil=>
  intro _ vs ds ps hd _ _
  obtain⟨rfl,rfl,rfl⟩:=trodAll_nil hd
  exact trodAll_mk0
 |cons t ts ih=>
  intro ht vs ds ps hd hs hp
  obtain⟨v,vs,d,ds',p',q',rfl,rfl,rfl,h1,h2⟩:=trodAll_cons hd
  have:=ht t (by simp)
  exact trodAll_cons_mk (Go.WideElems.Trod_stays hl this.1 this.2 h1 (λp hp=>hs p (by simp[hp])) (λp h=>hp p (by simp[h]))) (ih (λt h=>ht t (by simp[h])) h2 (λp hp=>hs p (by simp[hp])) (λp h=>hp p (by simp[h])))
theorem below_same{W W':World}(hb:Below W.heap.size W W'){p:MemPlace}(hp:p.block<W.heap.size):W.sameAt W' p:=by
 have e:=hb.block p.block hp
 cases p with
 |cell b off=>show W'.cell? _=W.cell? _;unfold World.cell?;simp only[MemPlace.block]at e;rw[e]
 |map b=>exact e
theorem readable_of{P:Program}{ts:List TypeId}(h:(ts.all λt=>P.readableRec t&&decide (t<P.types.size))=true):∀t∈ts,P.readableRec t=true∧t<P.types.size:=by
 intro t ht
 have:=List.all_eq_true.1 h t ht
 simpa using this
theorem trod_len{P:Program}{sp:Nat->Bool}{hd:Bool}{base:Nat}:∀{ts:List TypeId} {vs:List Value} {ds:List (DataW H)} {ps:List MemPlace},DataW.TrodAll enc P W base sp hd ts vs ds ps->ds.length=ts.length:=by
 intro ts
 induction ts with
 |nil=>intro vs ds ps h;obtain⟨_,rfl,_⟩:=trodAll_nil h;rfl
 |cons t ts ih=>intro vs ds ps h;obtain⟨v,vs,d,ds',p,q,rfl,rfl,rfl,_,h2⟩:=trodAll_cons h;simp[ih h2]
section
variable {P : Program} {sp : Nat -> Bool} {hd : Bool} {base : Nat} {ts : Array TypeId} {vs : List Value} {ds : List (DataW H)} {ps : List MemPlace}
theorem trod_list0(h:DataW.TrodAll enc P W base sp hd ts.toList vs ds ps)(e:ts.size=0):ds=[]:=by
 have:=trod_len h;simp[e]at this;exact this
theorem trod_list1(h:DataW.TrodAll enc P W base sp hd ts.toList vs ds ps)(e:ts.size=1):∃a,ds=[a]:=by
 have:=trod_len h;simp[e]at this
 match ds,this with|[a],_=>exact⟨a,rfl⟩
theorem trod_list2(h:DataW.TrodAll enc P W base sp hd ts.toList vs ds ps)(e:ts.size=2):∃a b,ds=[a,b]:=by
 have:=trod_len h;simp[e]at this
 match ds,this with|[a,b],_=>exact⟨a,b,rfl⟩
theorem trod_list3(h:DataW.TrodAll enc P W base sp hd ts.toList vs ds ps)(e:ts.size=3):∃a b c,ds=[a,b,c]:=by
 have:=trod_len h;simp[e]at this
 match ds,this with|[a,b,c],_=>exact⟨a,b,c,rfl⟩
theorem trod_list4(h:DataW.TrodAll enc P W base sp hd ts.toList vs ds ps)(e:ts.size=4):∃a b c d,ds=[a,b,c,d]:=by
 have:=trod_len h;simp[e]at this
 match ds,this with|[a,b,c,d],_=>exact⟨a,b,c,d,rfl⟩
theorem trod_list5(h:DataW.TrodAll enc P W base sp hd ts.toList vs ds ps)(e:ts.size=5):∃a b c d f,ds=[a,b,c,d,f]:=by
 have:=trod_len h;simp[e]at this
 match ds,this with|[a,b,c,d,f],_=>exact⟨a,b,c,d,f,rfl⟩
end
end
end Am

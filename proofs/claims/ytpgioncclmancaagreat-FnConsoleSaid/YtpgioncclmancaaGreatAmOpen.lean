/- A region whose order is open: however it runs, it leaves what 'Am' gets in text order. -/
import Derived.Test.YtpgioncclmancaaGreatAmRegion
set_option linter.unusedVariables false
set_option linter.unusedSimpArgs false
namespace Am
open Go
/-! ### heaps that grow -/
section grow
variable {A : Seat} {φ φ' : Phi} {h h' hR : Heap} {w w' : World} {base lo : Nat}
theorem Grows.get(g:Grows h h'){b:Nat}(hb:b<h.length):h'[b]?=h[b]?:=by
 obtain⟨l,rfl⟩:=g
 exact List.getElem?_append_left hb
theorem Grows.get'(g:Grows h h'){b:Nat}{k:Blk}(hk:h[b]?=some k):h'[b]?=some k:=by
 rw[g.get (List.getElem?_eq_some_iff.1 hk).1];exact hk
theorem Grows.len(g:Grows h h'):h.length<=h'.length:=by
 obtain⟨l,rfl⟩:=g;simp
theorem HeapR.shorter(g:Grows h h')(hp:0<h.length)(H:HeapR A φ h' w base):HeapR A φ h w base where
 pos:=hp
 low:=H.low
 cells:=λb l k hl hk=>H.cells b l k hl (g.get' hk)
 row:=λb l k hl hk=>H.row b l k hl (g.get' hk)
 one:=λb b' l l' k k' h1 h2 h3 h4=>H.one b b' l l' k k' h1 h2 (g.get' h3) (g.get' h4)
 old:=λb l k hl hk=>H.old b l k hl (g.get' hk)
theorem HeapR.extend(g:Grows h h')(hn:∀b,h.length<=b->b<h'.length->φ b=none)(H:HeapR A φ h w base):HeapR A φ h' w base:=by
 have back:∀b l k,φ b=some l->h'[b]?=some k->h[b]?=some k:=by
  intro b l k hl hk
  have hlt:=(List.getElem?_eq_some_iff.1 hk).1
  by_cases hb:b<h.length
  ·rw[<-g.get hb];exact hk
  ·rw[hn b (by omega) hlt]at hl;cases hl
 exact⟨Nat.lt_of_lt_of_le H.pos g.len,H.low,λb l k hl hk=>H.cells b l k hl (back b l k hl hk),λb l k hl hk=>H.row b l k hl (back b l k hl hk),
  λb b' l l' k k' h1 h2 h3 h4=>H.one b b' l l' k k' h1 h2 (back b l k h1 h3) (back b' l' k' h2 h4),λb l k hl hk=>H.old b l k hl (back b l k hl hk)⟩
/-- An operation that runs before its time: what later ones have laid stays. -/
theorem HeapR.merge(g1:Grows h h')(g2:Grows h' hR)(HR:HeapR A φ hR w base)(H:HeapR A φ' h' w' base)(E:Ext w.heap.size φ h w φ' h' w'):HeapR A φ' hR w' base:=by
 have hlen:=g1.len
 have later:∀b l,h'.length<=b->φ' b=some l->φ b=some l:=λb l hb hl=>by rw[<-E.same b (.inr hb)];exact hl
 have stay:∀b l k,h'.length<=b->φ b=some l->hR[b]?=some k->(k.rw=true∨k.cells≠[])->w'.heap[l.g]?=w.heap[l.g]?:=by
  intro b l k hb hl hk hor
  refine E.frame l.g (HR.low b l hl) λb0 l0 k0 h1 h2 h3 h4=>?_
  have hb0:b0<h.length:=(List.getElem?_eq_some_iff.1 h2).1
  have hk0:=(g1.trans g2).get' h2
  cases hrw:k.rw with
  |true=>
   have:=HR.one b0 b l0 l k0 k h1 hl hk0 hk h3 hrw h4
   omega
  |false=>
   rcases hor with hor|hor
   ·rw[hrw]at hor;cases hor
   ·have q1:=HR.old b l k hl hk hrw hor
    have q2:=(HR.row b0 l0 k0 h1 hk0 h3).1
    omega
 have low':∀b k,b<h'.length->hR[b]?=some k->h'[b]?=some k:=λb k hb hk=>by rw[<-g2.get hb];exact hk
 refine⟨HR.pos,H.low,λb l k hl hk i v hv=>?_,λb l k hl hk hr=>?_,λb b' l l' k k' h1 h2 h3 h4 r1 r2 he=>?_,λb l k hl hk hr hc=>?_⟩
 ·by_cases hb:b<h'.length
  ·exact H.cells b l k hl (low' b k hb hk) i v hv
  ·have hl':=later b l (by omega) hl
   obtain⟨u,hu,hr⟩:=HR.cells b l k hl' hk i v hv
   refine⟨u,?_,hr.mono A E.sub⟩
   rw[cell_of_heap (w:=w) (w':=w') (stay b l k (by omega) hl' hk (.inr λe=>by rw[e]at hv;simp at hv))]
   exact hu
 ·by_cases hb:b<h'.length
  ·exact H.row b l k hl (low' b k hb hk) hr
  ·have hl':=later b l (by omega) hl
   rw[stay b l k (by omega) hl' hk (.inl hr)]
   exact HR.row b l k hl' hk hr
 ·have mixed:∀b b' l l' k k',b<h'.length->h'.length<=b'->φ' b=some l->φ' b'=some l'->hR[b]?=some k->hR[b']?=some k'->k.rw=true->k'.rw=true->l.g=l'.g->b=b':=by
   intro b b' l l' k k' hb hb' h1 h2 h3 h4 r1 r2 he
   have h2':=later b' l' hb' h2
   by_cases hbh:b<h.length
   ·rw[E.same b (.inl hbh)]at h1
    exact HR.one b b' l l' k k' h1 h2' h3 h4 r1 r2 he
   ·rcases E.fresh b l (by omega) hb h1 with hf|⟨b0,l0,k0,f1,f2,f3,f4⟩
    ·have:=HR.low b' l' h2';omega
    ·have:=HR.one b0 b' l0 l' k0 k' f1 h2' ((g1.trans g2).get' f2) h4 f3 r2 (f4.trans he)
     have hb0:b0<h.length:=(List.getElem?_eq_some_iff.1 f2).1
     omega
  by_cases hb:b<h'.length
  ·by_cases hb':b'<h'.length
   ·exact H.one b b' l l' k k' h1 h2 (low' b k hb h3) (low' b' k' hb' h4) r1 r2 he
   ·exact mixed b b' l l' k k' hb (by omega) h1 h2 h3 h4 r1 r2 he
  ·by_cases hb':b'<h'.length
   ·exact(mixed b' b l' l k' k hb' (by omega) h2 h1 h4 h3 r2 r1 he.symm).symm
   ·exact HR.one b b' l l' k k' (later b l (by omega) h1) (later b' l' (by omega) h2) h3 h4 r1 r2 he
 ·by_cases hb:b<h'.length
  ·exact H.old b l k hl (low' b k hb hk) hr hc
  ·exact HR.old b l k (later b l (by omega) hl) hk hr hc
theorem grows_at(hl:h.length<=h'.length)(hs:∀b,b<h.length->h'[b]?=h[b]?):Grows h h':=by
 refine⟨h'.drop h.length,?_⟩
 apply List.ext_getElem?
 intro i
 by_cases hi:i<h.length
 ·rw[hs i hi,List.getElem?_append_left hi]
 ·rw[List.getElem?_append_right (by omega),List.getElem?_drop];congr 1;omega
theorem over_self(g:Grows h h'):h++h'.drop h.length=h':=by
 obtain⟨t,rfl⟩:=g;simp
/-- Another heap that has the same blocks where there are any. -/
theorem HeapR.swap(hp:0<h'.length)(he:∀b l,φ b=some l->h'[b]?=h[b]?)(H:HeapR A φ h w base):HeapR A φ h' w base:=
 ⟨hp,H.low,λb l k hl hk=>H.cells b l k hl (by rw[<-he b l hl];exact hk),λb l k hl hk=>H.row b l k hl (by rw[<-he b l hl];exact hk),
  λb b' l l' k k' h1 h2 h3 h4=>H.one b b' l l' k k' h1 h2 (by rw[<-he b l h1];exact h3) (by rw[<-he b' l' h2];exact h4),λb l k hl hk=>H.old b l k hl (by rw[<-he b l hl];exact hk)⟩
theorem over_low{h T:Heap}{b:Nat}(hb:b<h.length):(h++T.drop h.length)[b]?=h[b]?:=List.getElem?_append_left hb
theorem over_high{h T:Heap}{b:Nat}(hb:h.length<=b):(h++T.drop h.length)[b]?=T[b]?:=by
 rw[List.getElem?_append_right hb,List.getElem?_drop];congr 1;omega
theorem over_len{h T:Heap}(hl:h.length<=T.length):(h++T.drop h.length).length=T.length:=by
 rw[List.length_append,List.length_drop];omega
/-- An operation that runs while others that stand behind it in the text have laid blocks: these stay. -/
theorem HeapR.over{T:Heap}(g:Grows h T)(hn:∀b,h.length<=b->b<h'.length->φ b=none)(HR:HeapR A φ T w base)(H:HeapR A φ' h' w' base)(E:Ext w.heap.size φ h w φ' h' w'):HeapR A φ' (h'++T.drop h'.length) w' base:=by
 have hlen:=E.len
 have later:∀b l,h'.length<=b->φ' b=some l->φ b=some l:=λb l hb hl=>by rw[<-E.same b (.inr hb)];exact hl
 have low':∀b k,b<h'.length->(h'++T.drop h'.length)[b]?=some k->h'[b]?=some k:=λb k hb hk=>by rw[<-over_low hb];exact hk
 have high':∀b k,h'.length<=b->(h'++T.drop h'.length)[b]?=some k->T[b]?=some k:=λb k hb hk=>by rw[<-over_high hb];exact hk
 have stay:∀b l k,h'.length<=b->φ b=some l->T[b]?=some k->(k.rw=true∨k.cells≠[])->w'.heap[l.g]?=w.heap[l.g]?:=by
  intro b l k hb hl hk hor
  refine E.frame l.g (HR.low b l hl) λb0 l0 k0 h1 h2 h3 h4=>?_
  have hb0:b0<h.length:=(List.getElem?_eq_some_iff.1 h2).1
  have hk0:=g.get' h2
  cases hrw:k.rw with
  |true=>
   have:=HR.one b0 b l0 l k0 k h1 hl hk0 hk h3 hrw h4
   omega
  |false=>
   rcases hor with hor|hor
   ·rw[hrw]at hor;cases hor
   ·have q1:=HR.old b l k hl hk hrw hor
    have q2:=(HR.row b0 l0 k0 h1 hk0 h3).1
    omega
 refine⟨?_,H.low,λb l k hl hk i v hv=>?_,λb l k hl hk hr=>?_,λb b' l l' k k' h1 h2 h3 h4 r1 r2 he=>?_,λb l k hl hk hr hc=>?_⟩
 ·rw[List.length_append];have:=H.pos;omega
 ·by_cases hb:b<h'.length
  ·exact H.cells b l k hl (low' b k hb hk) i v hv
  ·have hl':=later b l (by omega) hl
   have hk':=high' b k (by omega) hk
   obtain⟨u,hu,hr⟩:=HR.cells b l k hl' hk' i v hv
   refine⟨u,?_,hr.mono A E.sub⟩
   rw[cell_of_heap (w:=w) (w':=w') (stay b l k (by omega) hl' hk' (.inr λe=>by rw[e]at hv;simp at hv))]
   exact hu
 ·by_cases hb:b<h'.length
  ·exact H.row b l k hl (low' b k hb hk) hr
  ·have hl':=later b l (by omega) hl
   have hk':=high' b k (by omega) hk
   rw[stay b l k (by omega) hl' hk' (.inl hr)]
   exact HR.row b l k hl' hk' hr
 ·have mixed:∀b b' l l' k k',b<h'.length->h'.length<=b'->φ' b=some l->φ' b'=some l'->h'[b]?=some k->T[b']?=some k'->k.rw=true->k'.rw=true->l.g=l'.g->b=b':=by
   intro b b' l l' k k' hb hb' h1 h2 h3 h4 r1 r2 he
   have h2':=later b' l' hb' h2
   by_cases hbh:b<h.length
   ·rw[E.same b (.inl hbh)]at h1
    have hx:=List.getElem?_eq_getElem hbh
    exact HR.one b b' l l' _ k' h1 h2' (g.get' hx) h4 (E.mode b _ k hx h3 r1) r2 he
   ·rcases E.fresh b l (by omega) hb h1 with hf|⟨b0,l0,k0,f1,f2,f3,f4⟩
    ·have:=HR.low b' l' h2';omega
    ·have:=HR.one b0 b' l0 l' k0 k' f1 h2' (g.get' f2) h4 f3 r2 (f4.trans he)
     have hb0:b0<h.length:=(List.getElem?_eq_some_iff.1 f2).1
     omega
  by_cases hb:b<h'.length
  ·by_cases hb':b'<h'.length
   ·exact H.one b b' l l' k k' h1 h2 (low' b k hb h3) (low' b' k' hb' h4) r1 r2 he
   ·exact mixed b b' l l' k k' hb (by omega) h1 h2 (low' b k hb h3) (high' b' k' (by omega) h4) r1 r2 he
  ·by_cases hb':b'<h'.length
   ·exact(mixed b' b l' l k' k hb' (by omega) h2 h1 (low' b' k' hb' h4) (high' b k (by omega) h3) r2 r1 he.symm).symm
   ·exact HR.one b b' l l' k k' (later b l (by omega) h1) (later b' l' (by omega) h2) (high' b k (by omega) h3) (high' b' k' (by omega) h4) r1 r2 he
 ·by_cases hb:b<h'.length
  ·exact H.old b l k hl (low' b k hb hk) hr hc
  ·exact HR.old b l k (later b l (by omega) hl) (high' b k (by omega) hk) hr hc
end grow
/-! ### when an operation may run -/
section runs
variable {call : Caller} {s : Nat -> Value} {h h' : Heap} {p : Oper} {v : Value}
theorem sameAt_self{h g:Heap}{v:Value}(x:sameAt h h v=true):sameAt g g v=true:=by
 unfold sameAt at x ⊢
 split at x
 ·simp
 ·cases x
theorem okQ_self{q:Nat}{ρ:Operand->Value}{h g:Heap}(x:okQ qzP q ρ h h=true):okQ qzP q ρ g g=true:=by
 unfold okQ at x ⊢
 simp only[Bool.and_eq_true,Bool.or_eq_true,Bool.not_eq_true']at x ⊢
 refine⟨.inr (qzP_iff.2 (Grows.refl g)),?_⟩
 have:=x.2
 split at this
 ·rfl
 ·exact sameAt_self this
theorem okQ_grows{q:Nat}{ρ:Operand->Value}{h g:Heap}(hq:q<4)(x:Grows h g):okQ qzP q ρ h g=true:=by
 rw[okQ_small hq];exact .inr (qzP_iff.2 x)
theorem runS_free(hs:slotOnly p.op=true∨wantS s p.guard=some false)(hr:runS qzP call s h p=some (v,h')):h'=h∧∀g,runS qzP call s g p=some (v,g):=by
 unfold runS at hr ⊢
 split at hr
 ·simp at hr
 ·injection hr with hr;injection hr with e1 e2;subst e1;subst e2
  exact⟨rfl,λg=>rfl⟩
 ·rename_i hw
  rcases hs with hs|hs
  ·simp only[slotOnly_call hs]at hr ⊢
   unfold quietly at hr
   split at hr
   ·rename_i v1 h1 heq
    split at hr
    ·rename_i hq
     injection hr with hr;injection hr with e1 e2;subst e1;subst e2
     obtain⟨rfl,hall⟩:=slotOnly_free hs heq
     refine⟨rfl,λg=>?_⟩
     rw[hall g]
     simp only[quietly]
     rw[if_pos (okQ_self hq)]
    ·simp at hr
   ·simp at hr
  ·rw[hs]at hw;cases hw
/-- What lays a block from its operands alone lays the same one on any heap of that length. -/
theorem lays_op{ρ:Operand->Value}{o:Op}(hs:laysOnly o=true)(hr:aOp ρ h o=some (v,h')):callOf ρ o=none∧∃new,h'=h++new∧∀g:Heap,g.length=h.length->aOp ρ g o=some (v,g++new):=by
 cases o with
 |box n x=>
  refine⟨rfl,?_⟩
  simp only[aOp,aBox]at hr ⊢
  split at hr
  ·rename_i cs hc
   split at hr
   ·rename_i hl
    injection hr with hr;injection hr with e1 e2;subst e1;subst e2
    exact⟨_,rfl,λg hg=>by simp[hc,hl,hg]⟩
   ·simp at hr
  ·simp at hr
 |buildSlice z n ps=>
  refine⟨rfl,?_⟩
  simp only[aOp]at hr ⊢
  generalize (ps.toList.map λp=>(p.1,ρ p.2))=L at hr ⊢
  unfold aBuildSlice at hr ⊢
  split at hr
  ·rename_i c r
   split at hr
   ·rename_i hl
    obtain⟨cs,hc,e⟩:=Option.map_eq_some_iff.1 hr
    injection e with e1 e2;subst e1;subst e2
    exact⟨_,rfl,λg hg=>by simp[hl,hc,hg]⟩
   ·simp at hr
  ·simp at hr
 |mapUpdate z l c e=>
  refine⟨rfl,?_⟩
  simp only[aOp]at hr ⊢
  generalize ρ l=l at hr ⊢
  generalize ρ c=c at hr ⊢
  generalize ρ e=e at hr ⊢
  unfold aMake at hr ⊢
  split at hr
  ·split at hr
   ·rename_i hl
    injection hr with hr;injection hr with e1 e2;subst e1;subst e2
    exact⟨_,rfl,λg hg=>by simp only[hg];rw[if_pos hl]⟩
   ·simp at hr
  ·simp at hr
 |convert s c x=>
  refine⟨rfl,?_⟩
  have hc:c=20:=by simpa [laysOnly]using hs
  subst hc
  simp only[aOp,aConv,if_true]at hr ⊢
  generalize ρ x=x at hr ⊢
  cases x with
  |string s=>
   simp only at hr ⊢
   split at hr
   ·rename_i hl
    injection hr with hr;injection hr with e1 e2;subst e1;subst e2
    exact⟨_,rfl,λg hg=>by rw[if_pos hl,hg]⟩
   ·simp at hr
  |_=>simp at hr
 |_=>simp[laysOnly]at hs
theorem runS_lays(h4:p.type<4)(hs:laysOnly p.op=true)(hw:wantS s p.guard≠some false)(hr:runS qzP call s h p=some (v,h')):∃new,h'=h++new∧∀g:Heap,g.length=h.length->runS qzP call s g p=some (v,g++new):=by
 unfold runS at hr ⊢
 split at hr
 ·simp at hr
 ·rename_i hw';exact absurd hw' hw
 ·have hcall:callOf (evs s) p.op=none:=by
   cases ho:p.op<;>first|rfl|(rw[ho]at hs;simp[laysOnly]at hs)
  rw[hcall]at hr ⊢
  simp only[quietly]at hr ⊢
  split at hr
  ·rename_i v1 h1 heq
   split at hr
   ·injection hr with hr;injection hr with e1 e2;subst e1;subst e2
    obtain⟨_,new,rfl,hall⟩:=lays_op hs heq
    refine⟨new,rfl,λg hg=>?_⟩
    rw[hall g hg]
    simp only
    rw[if_pos (okQ_grows h4 ⟨new,rfl⟩)]
   ·simp at hr
  ·simp at hr
theorem load_same{k:Nat}{g:Heap}{v:Value}(x:sameAt h g v=true):aLoad k g v=aLoad k h v:=by
 cases v with
 |pointer o=>
  cases o with
  |none=>cases x
  |some a=>
   have e:=sameAt_iff.1 x
   simp only[aLoad,cell,cellsAt,e]
 |_=>cases x
theorem load_block{k:Nat}{v w:Value}(x:aLoad k h v=some w):∃a,v=.pointer (some a)∧a.block<h.length:=by
 unfold aLoad at x
 split at x
 ·rename_i a
  refine⟨a,rfl,?_⟩
  by_cases hb:a.block<h.length
  ·exact hb
  ·have e:h[a.block]?=none:=List.getElem?_eq_none (Nat.le_of_not_lt hb)
   simp only[cell,cellsAt,e]at x
   split at x<;>simp at x
 ·cases x
/-- A reader reads the same from any heap that has the block that it reads. -/
theorem runS_load{n:Nat}{y:Operand}(h4:p.type<4)(hp:p.op=.load n y)(hw:wantS s p.guard≠some false)(hr:runS qzP call s h p=some (v,h')):
  h'=h∧(∃a,evs s y=.pointer (some a)∧a.block<h.length)∧∀g,sameAt h g (evs s y)=true->runS qzP call s g p=some (v,g):=by
 unfold runS at hr ⊢
 split at hr
 ·simp at hr
 ·rename_i hw';exact absurd hw' hw
 ·have hc:callOf (evs s) p.op=none:=by rw[hp];rfl
  rw[hc]at hr ⊢
  rw[hp]at hr ⊢
  simp only[aOp,quietly]at hr ⊢
  cases hl:aLoad n h (evs s y)with
  |none=>simp[hl,with_]at hr
  |some u=>
   simp only[hl,with_,Option.map_some]at hr
   split at hr
   ·injection hr with hr;injection hr with e1 e2;subst e1;subst e2
    refine⟨rfl,load_block hl,λg hg=>?_⟩
    rw[load_same hg,hl]
    show(if okQ qzP p.type (evs s) g g=true then some (u,g)else none)=_
    rw[if_pos (okQ_grows h4 (Grows.refl g))]
   ·simp at hr
/-- A mover leaves the block that is read beside it. -/
theorem runS_side{y:Operand}(hs:sideOf p.type=some y)(hn:¬Grows h h')(hr:runS qzP call s h p=some (v,h')):sameAt h h' (evs s y)=true:=by
 unfold runS at hr
 split at hr
 ·simp at hr
 ·injection hr with hr;injection hr with e1 e2;subst e2;exact absurd (Grows.refl h) hn
 ·unfold quietly at hr
  split at hr
  ·split at hr
   ·rename_i hq
    injection hr with hr;injection hr with e1 e2;subst e2
    exact okQ_side hq hs
   ·simp at hr
  ·simp at hr
theorem runS_calm(ht:turns p.op=false)(hm:mayTurn p.op=false∨isQuiet p.type=true)(hr:runS qzP call s h p=some (v,h')):Grows h h':=by
 unfold runS at hr
 split at hr
 ·simp at hr
 ·injection hr with hr;injection hr with e1 e2;subst e2;exact Grows.refl h
 ·unfold quietly at hr
  split at hr
  ·rename_i v1 h1 heq
   split at hr
   ·rename_i hq
    have hq:=okQ_quiet hq
    injection hr with hr;injection hr with e1 e2;subst e1;subst e2
    by_cases hqt:isQuiet p.type=true
    ·rcases hq with hq|hq
     ·rw[hqt]at hq;cases hq
     ·exact qzP_iff.1 hq
    ·rcases hm with hm|hm
     ·split at heq
      ·rename_i f args hc
       exfalso
       unfold callOf at hc
       split at hc
       ·rename_i hop;rw[hop]at hm;simp[mayTurn]at hm
       ·simp at hc
      ·exact(aOp_heap heq).2 ht hm
     ·exact absurd hm hqt
   ·simp at hr
  ·simp at hr
end runs
/-! ### what is in the slots when some have run -/
def dstL(l:List Oper)(k:Nat):Option Nat:=(l[k]?).bind (·.dst)
def valD(l:List Oper)(s:Nat->Value)(V:Nat->Value)(D:Nat->Bool):Nat->Nat->Value
 |0=>s
 |k+1=>if D k then updO (valD l s V D k) (dstL l k) (V k)else valD l s V D k
theorem updO_other{s:Nat->Value}{d:Option Nat}{v:Value}{t:Nat}(h:d≠some t):updO s d v t=s t:=by
 cases d with
 |none=>rfl
 |some i=>
  have:t≠i:=λe=>h (by rw[e])
  simp[updO,upd,this]
theorem updO_comm{s:Nat->Value}{d e:Option Nat}{u v:Value}(h:∀t,d=some t->e≠some t):updO (updO s d u) e v=updO (updO s e v) d u:=by
 funext t
 by_cases h1:d=some t
 ·rw[updO_other (h t h1)]
  subst h1;simp[updO,upd]
 ·rw[updO_other h1]
  by_cases h2:e=some t
  ·subst h2;simp[updO,upd]
  ·rw[updO_other h2,updO_other h1,updO_other h2]
section vals
variable {qz : Heap -> Heap -> Bool} {call : Caller} {l : List Oper} {Sq : Nat -> Nat -> Value} {Hq : Nat -> Heap} {V : Nat -> Value} {D D' : Nat -> Bool}
theorem seq_next(hq:RunSeq qz call l Sq Hq V){k:Nat}(hk:k<l.length):Sq (k+1)=updO (Sq k) (dstL l k) (V k):=by
 have:=(hq.step k l[k] (List.getElem?_eq_getElem hk)).2
 rw[this];simp[dstL,List.getElem?_eq_getElem hk]
theorem valD_all(hq:RunSeq qz call l Sq Hq V):∀k,k<=l.length->(∀j,j<k->D j=true)->valD l (Sq 0) V D k=Sq k
 |0,_,_=>rfl
 |k+1,hk,hD=>by
  rw[valD,if_pos (hD k (by omega)),valD_all hq k (by omega) λj hj=>hD j (by omega),seq_next hq (by omega)]
theorem valD_read (hq : RunSeq qz call l Sq Hq V) {k t : Nat} (hk : k ≤ l.length) (h1 : ∀ j, j < k → dstL l j = some t → D j = true) (h2 : ∀ j, k ≤ j → dstL l j = some t → D j = false) :
    ∀ m, m ≤ l.length → (m ≤ k → valD l (Sq 0) V D m t = Sq m t) ∧ (k ≤ m → valD l (Sq 0) V D m t = Sq k t)
  | 0, _ => ⟨fun _ => rfl, fun hm => by have : k = 0 := by omega
                                        subst this; rfl⟩
  | m + 1, hm => by
    obtain ⟨i1, i2⟩ := valD_read hq hk h1 h2 m (by omega)
    have first : m + 1 ≤ k → valD l (Sq 0) V D (m + 1) t = Sq (m + 1) t := by
      intro hmk
      rw [valD, seq_next hq (by omega)]
      by_cases hd : dstL l m = some t
      · rw [if_pos (h1 m (by omega) hd), hd]; simp [updO, upd]
      · rw [updO_other hd, ← i1 (by omega)]
        split
        · rw [updO_other hd]
        · rfl
    refine ⟨first, fun hkm => ?_⟩
    by_cases he : k = m + 1
    · rw [he]; exact first (by omega)
    · rw [valD]
      by_cases hd : dstL l m = some t
      · rw [if_neg (by rw [h2 m (by omega) hd]; simp)]; exact i2 (by omega)
      · split
        · rw [updO_other hd]; exact i2 (by omega)
        · exact i2 (by omega)
theorem valD_put{s:Nat->Value}{k:Nat}(hk:D k=false)(hD:∀j,D' j=if j=k then true else D j)(h2:∀t j,dstL l k=some t->k<j->dstL l j=some t->D j=false):
  ∀m,valD l s V D' m=if m<=k then valD l s V D m else updO (valD l s V D m) (dstL l k) (V k)
 |0=>by simp[valD]
 |m+1=>by
  have ih:=valD_put (s:=s) hk hD h2 m
  rw[valD,hD m]
  by_cases he:m=k
  ·subst he
   rw[if_pos rfl,if_pos rfl,ih,if_pos (Nat.le_refl _),if_neg (by omega),valD,if_neg (by rw[hk];simp)]
  ·rw[if_neg he,ih]
   by_cases hlt:m<=k
   ·have h3:m+1<=k:=by omega
    simp only[hlt,h3,if_true,valD]
   ·have h3:¬(m+1<=k):=by omega
    simp only[hlt,h3,if_false,valD]
    cases hd:D m with
    |false=>simp
    |true=>
     simp only[if_true]
     refine updO_comm λt ht htm=>?_
     have:=h2 t m ht (by omega) htm
     rw[hd]at this;cases this
end vals
/-! ### the open region -/
def bit(ops:Array Oper)(j i:Nat):Prop:=((Region.before ops).getD j 0).testBit i=true
/-- What the normal form of an open region gives. -/
structure RegOpen (env:List (Nat×Nat)) (ops:Array Oper) (l:List Oper):Prop where
 edges:edgesOk ops=true
 apart:∀(i j:Nat) (x y:Oper),i<j->l[i]?=some x->l[j]?=some y->bit ops j i∨((∀d,x.dst=some d->d∉readsN y∧y.dst≠some d)∧(∀d,y.dst=some d->d∉readsN x))
 first:∀(i j:Nat) (x y:Oper) (a d:Nat),ops[i]?=some x->ops[j]?=some y->x.dst=some a->y.dst=some d->boxOf env d=some a->j<i∨bit ops j i
 flat:∀(k:Nat) (p:Oper),l[k]?=some p->mayTurn p.op=true∨p.type<4
 kind:∀(k:Nat) (p:Oper),l[k]?=some p->slotOnly p.op=true∨(∀(j:Nat) (q:Oper),l[j]?=some q->j≠k->slotOnly q.op=true∨(j<k∧bit ops k j)∨(k<=j∧(bit ops j k∨laysOnly q.op=true)))∨
  (turns p.op=false∧(mayTurn p.op=false∨isQuiet p.type=true))∨
  (∃y,sideOf p.type=some y∧∀(j:Nat) (q:Oper),l[j]?=some q->j≠k->slotOnly q.op=true∨(j<k∧bit ops k j)∨(k<=j∧(bit ops j k∨laysOnly q.op=true))∨(j<k∧(∃n,q.op=.load n y)∧∀(m:Nat) (z:Oper),j<=m->m<k->l[m]?=some z->z.dst≠slotNo y))
/-- The memory so far, some operations having run. -/
structure ExtW (lo:Nat) (φ0:Phi) (h0:Heap) (w0:World) (N:Nat) (φ:Phi) (w:World):Prop where
 sub:Sub φ0 φ
 same:∀b,b<h0.length∨N<=b->φ b=φ0 b
 size:w0.heap.size<=w.heap.size
 os:w.os=w0.os
 tape:w.tape=w0.tape
 output:w.output=w0.output
 frame:∀g,g<lo->(∀b l k,φ0 b=some l->h0[b]?=some k->k.rw=true->l.g≠g)->w.heap[g]?=w0.heap[g]?
 fresh:∀b l,h0.length<=b->b<N->φ b=some l->w0.heap.size<=l.g∨∃b0 l0 k0,φ0 b0=some l0∧h0[b0]?=some k0∧k0.rw=true∧l0.g=l.g
theorem ExtW.refl{lo:Nat}{φ0:Phi}{h0:Heap}{w0:World}{N:Nat}(hn:∀b,h0.length<=b->b<N->φ0 b=none):ExtW lo φ0 h0 w0 N φ0 w0:=
 ⟨Sub.refl _,λ_ _=>rfl,Nat.le_refl _,rfl,rfl,rfl,λ_ _ _=>rfl,λb l h1 h2 h3=>by rw[hn b h1 h2]at h3;cases h3⟩
theorem ExtW.step{lo:Nat}{φ0 φ φ':Phi}{h0 h h':Heap}{w0 w w':World}{N:Nat}(hlo:lo<=w0.heap.size)(X:ExtW lo φ0 h0 w0 N φ w)(E:Ext lo φ h w φ' h' w')(h1:h0.length<=h.length)(h2:h.length<=h'.length)(h3:h'.length<=N)
  (hmode:∀(b:Nat) (x y:Blk),h0[b]?=some x->h[b]?=some y->y.rw=true->x.rw=true):ExtW lo φ0 h0 w0 N φ' w':=by
 have old:∀b l k,φ b=some l->h[b]?=some k->k.rw=true->w0.heap.size<=l.g∨∃b0 l0 k0,φ0 b0=some l0∧h0[b0]?=some k0∧k0.rw=true∧l0.g=l.g:=by
  intro b l k hl hk hr
  have hb:=(List.getElem?_eq_some_iff.1 hk).1
  by_cases hb0:b<h0.length
  ·exact .inr ⟨b,l,_,by rw[<-X.same b (.inl hb0)];exact hl,List.getElem?_eq_getElem hb0,hmode b _ k (List.getElem?_eq_getElem hb0) hk hr,rfl⟩
  ·exact X.fresh b l (by omega) (by omega) hl
 refine⟨X.sub.trans E.sub,λb hb=>?_,Nat.le_trans X.size E.size,E.os.trans X.os,E.tape.trans X.tape,E.output.trans X.output,λg hg hn=>?_,λb l hb1 hb2 hl=>?_⟩
 ·rw[E.same b (by omega),X.same b hb]
 ·rw[E.frame g hg,X.frame g hg hn]
  intro b l k hl hk hr he
  rcases old b l k hl hk hr with h4|⟨b0,l0,k0,f1,f2,f3,f4⟩
  ·omega
  ·exact hn b0 l0 k0 f1 f2 f3 (f4.trans he)
 ·by_cases hin:h.length<=b∧b<h'.length
  ·rcases E.fresh b l hin.1 hin.2 hl with hf|⟨b0,l0,k0,f1,f2,f3,f4⟩
   ·exact .inl (Nat.le_trans X.size hf)
   ·rcases old b0 l0 k0 f1 f2 f3 with h4|⟨b1,l1,k1,e1,e2,e3,e4⟩
    ·exact .inl (by omega)
    ·exact .inr ⟨b1,l1,k1,e1,e2,e3,e4.trans f4⟩
  ·rw[E.same b (by omega)]at hl
   exact X.fresh b l hb1 hb2 hl
/-- In which step a block came. -/
theorem which{f:Nat->Nat}{i j b:Nat}(hij:i<=j)(h1:f i<=b)(h2:b<f j):∃k,i<=k∧k<j∧f k<=b∧b<f (k+1):=by
 obtain⟨d,rfl⟩:∃d,j=i+d:=⟨j-i,by omega⟩
 induction d with
 |zero=>simp at h2;omega
 |succ d ih=>
  by_cases hb:b<f (i+d)
  ·obtain⟨k,k1,k2,k3⟩:=ih (by omega) hb
   exact⟨k,k1,by omega,k3⟩
  ·exact⟨i+d,by omega,by omega,by omega,h2⟩
end Am

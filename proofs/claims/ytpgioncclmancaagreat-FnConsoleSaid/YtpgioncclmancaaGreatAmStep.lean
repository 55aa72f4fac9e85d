/- One operation that is no call: what 'Am' says of it holds of the model's. -/
import Derived.Test.YtpgioncclmancaaGreatAmOps4
set_option linter.unusedVariables false
set_option linter.unusedSimpArgs false
namespace Am
open Go
section
variable {A : Seat} {φ : Phi} {h : Heap} {w : World} {base : Nat} {loc pb : List Nat} {env : List (Nat × Nat)}
/-- Memory where each block with a place is as it was. -/
theorem HeapR.others{w':World}(H:HeapR A φ h w base)(hsz:w.heap.size<=w'.heap.size)(hold:∀b l,φ b=some l->w'.heap[l.g]?=w.heap[l.g]?):HeapR A φ h w' base where
 pos:=H.pos
 low:=λb l hb=>Nat.lt_of_lt_of_le (H.low b l hb) hsz
 cells:=λb l k hb hk i v hv=>by
  obtain⟨u,hu,hr⟩:=H.cells b l k hb hk i v hv
  exact⟨u,by rw[cell_of_heap (w:=w) (w':=w') (hold b l hb)];exact hu,hr⟩
 row:=λb l k hb hk hr=>by rw[hold b l hb];exact H.row b l k hb hk hr
 one:=H.one
 old:=H.old
theorem Ext.others{lo:Nat}{w':World}(hsz:w.heap.size<=w'.heap.size)(hold:∀g,g<lo->w'.heap[g]?=w.heap[g]?)(ho:w'.os=w.os)(ht:w'.tape=w.tape)(hp:w'.output=w.output):
  Ext lo φ h w φ h w' where
 sub:=Sub.refl φ
 newd:=λb h1 h2=>by omega
 same:=λ_ _=>rfl
 len:=Nat.le_refl _
 mode:=λb k k' h1 h2 h3=>by rw[h1]at h2;injection h2 with h2;subst h2;exact h3
 size:=hsz
 os:=ho
 tape:=ht
 output:=hp
 frame:=λg hg _=>hold g hg
 fresh:=λb l h1 h2=>by omega
/-- A block of the frame's own, that 'Am' has no number for. -/
theorem alloc_priv(k:Obj)(H:HeapR A φ h w base):HeapR A φ h (w.alloc k) base∧Ext w.heap.size φ h w φ h (w.alloc k):=
 ⟨H.others (by simp) λb l hb=>heap_alloc_old w _ _ (H.low b l hb),Ext.others (by simp) (λg hg=>heap_alloc_old w _ g hg) rfl rfl rfl⟩
/-- Behind an operation: a value, or none that is looked at. -/
def SimN(A:Seat)(φ:Phi)(h:Heap)(w:World)(base:Nat)(v:Value)(h':Heap)(s:Sem Next):Prop:=
 ∃r w' φ',s.run A.P w=.ok r w'∧((∃u,r=.value u∧VR A φ' v u)∨(r=.skip∧v=poison))∧HeapR A φ' h' w' base∧Ext w.heap.size φ h w φ' h' w'
theorem SimV.value{v:Value}{h':Heap}{s:Sem Value}(x:SimV A φ h w base v h' s):SimN A φ h w base v h' (s >>= λu=>Pure.pure (Next.value u)):=by
 obtain⟨u,w',φ',hr,hv,hH,hE⟩:=x
 exact⟨Next.value u,w',φ',by simp[hr],.inl ⟨u,rfl,hv⟩,hH,hE⟩
section lists
variable {ρa ρm : Operand -> Value} (hρ : ∀ x y, nOperand A loc pb env x = some y -> VR A φ (ρa y) (ρm x))
include hρ
theorem nOperands_rel:∀{l m:List Operand},nOperands A loc pb env l=some m->All2 (VR A φ) (m.map ρa) (l.map ρm)
 |[],m,hn=>by simp[nOperands]at hn;subst hn;exact trivial
 |x::r,m,hn=>by
  unfold nOperands at hn
  split at hn
  ·rename_i y ys h1 h2
   injection hn with hn;subst hn
   exact⟨hρ _ _ h1,nOperands_rel h2⟩
  ·simp at hn
theorem nOpt_rel{x:Option Operand}{y:Option Operand}(hn:nOpt A loc pb env x=some y):OptR A φ (y.map ρa) (x.map ρm):=by
 cases x with
 |none=>simp[nOpt]at hn;subst hn;exact trivial
 |some x=>
  simp only[nOpt]at hn
  cases hx:nOperand A loc pb env x with
  |none=>simp[hx]at hn
  |some z=>simp[hx]at hn;subst hn;exact hρ _ _ hx
theorem nParts_rel{f:Nat->Option Nat}:∀{l m:List (Nat×Operand)},nParts A loc pb env f l=some m->
  All2 (λp q=>f q.1=some p.1∧VR A φ p.2 q.2) (m.map λp=>(p.1,ρa p.2)) (l.map λp=>(p.1,ρm p.2))
 |[],m,hn=>by simp[nParts]at hn;subst hn;exact trivial
 |(i,x)::r,m,hn=>by
  unfold nParts at hn
  split at hn
  ·rename_i n y ys h1 h2 h3
   injection hn with hn;subst hn
   exact⟨⟨h1,hρ _ _ h2⟩,nParts_rel h3⟩
  ·simp at hn
end lists
theorem isU8_eq{d:Option TypeDesc}(hd:isU8 d=true):d=some (.int .u8):=by
 unfold isU8 at hd
 split at hd
 ·rfl
 ·simp at hd
theorem with_inv{o:Option Value}{v:Value}{h':Heap}(ha:with_ o h=some (v,h')):o=some v∧h=h':=by
 unfold with_ at ha
 cases o with
 |none=>simp at ha
 |some x=>simp at ha;exact⟨by rw[ha.1],ha.2⟩
theorem slice_ptr{c:Nat}{x:Value}{lo hi mx:Option Value}{r:Value×Heap}(hc:1000000<=c)(ha:aSlice c h x lo hi mx=some r):∃a,x=.pointer (some a):=by
 unfold aSlice at ha
 rw[if_neg (by omega),if_neg (by omega)]at ha
 split at ha
 ·exact⟨_,rfl⟩
 ·simp at ha
theorem indexAddr_ptr{c:Nat}{x i:Value}{r:Value}(hc:1000000<=c)(ha:aIndexAddr c x i=some r):∃a,x=.pointer (some a):=by
 unfold aIndexAddr at ha
 split at ha
 ·split at ha
  ·omega
  ·simp at ha
 ·exact⟨_,rfl⟩
 ·simp at ha
theorem aBox_len{n:Nat}{x:Value}{r:Value×Heap}(ha:aBox n x h=some r):h.length<r.2.length:=by
 unfold aBox at ha
 split at ha
 ·split at ha
  ·injection ha with ha;subst ha;simp
  ·simp at ha
 ·simp at ha
theorem aMake_len{z:Nat}{x y e:Value}{r:Value×Heap}(ha:aMake z h x y e=some r):h.length<r.2.length:=by
 unfold aMake at ha
 split at ha
 ·split at ha
  ·injection ha with ha;subst ha;simp
  ·simp at ha
 ·simp at ha
theorem aBuildSlice_len{z n:Nat}{ps:List (Nat×Value)}{r:Value×Heap}(ha:aBuildSlice z n h ps=some r):h.length<r.2.length:=by
 unfold aBuildSlice at ha
 split at ha
 ·split at ha
  ·simp only[Option.map_eq_some_iff]at ha
   obtain⟨cs,_,ha⟩:=ha
   subst ha;simp
  ·simp at ha
 ·simp at ha
theorem aConv20_len{x:Value}{r:Value×Heap}(ha:aConv 20 x h=some r):h.length<r.2.length:=by
 unfold aConv at ha
 simp only[if_true]at ha
 split at ha
 ·split at ha
  ·injection ha with ha;subst ha;simp
  ·simp at ha
 ·simp at ha
section ops
variable {ρa ρm : Operand -> Value} {v : Value} {h' : Heap} {dst : Option Tmp} {ty : TypeId} {pos : String} {after : Array Edge} {guard : Option (Nat × Bool)}
abbrev mk(dst:Option Tmp)(o:Op)(ty:TypeId)(pos:String)(after:Array Edge)(guard:Option (Nat×Bool)):Oper:={dst:=dst,op:=o,type:=ty,pos:=pos,after:=after,guard:=guard}
theorem plain_move(hE:EqOk A)(H:HeapR A φ h w base)(hb:base<=w.heap.size)(hφ:h.length<h'.length->φ h.length=none)(hk:∀v,ρa (.const v)=v)(hf:∀f,ρa (.func f)=.func (.func f) #[] #[])
  (hρ:∀x y,nOperand A loc pb env x=some y->VR A φ (ρa y) (ρm x)) {p:Op} {x:Operand} (hn:nOp A loc pb env (.move x)=some p)
  (ha:aOp ρa h p=some (v,h')):SimN A φ h w base v h' (execOp ρm (mk dst (.move x) ty pos after guard)):=by
 simp only[nOp]at hn
 cases hx:nOperand A loc pb env x with
 |none=>simp[hx]at hn
 |some y=>
  simp[hx]at hn;subst hn
  simp only[aOp,Option.some.injEq,Prod.mk.injEq]at ha
  obtain⟨rfl,rfl⟩:=ha
  exact⟨Next.value (ρm x),w,φ,by simp[execOp],.inl ⟨_,rfl,hρ _ _ hx⟩,H,Ext.refl _ _ _ _⟩
theorem plain_assign(hE:EqOk A)(H:HeapR A φ h w base)(hb:base<=w.heap.size)(hφ:h.length<h'.length->φ h.length=none)(hk:∀v,ρa (.const v)=v)(hf:∀f,ρa (.func f)=.func (.func f) #[] #[])
  (hρ:∀x y,nOperand A loc pb env x=some y->VR A φ (ρa y) (ρm x)) {p:Op} {x:Operand} (hn:nOp A loc pb env (.assign x)=some p)
  (ha:aOp ρa h p=some (v,h')):SimN A φ h w base v h' (execOp ρm (mk dst (.assign x) ty pos after guard)):=by
 simp only[nOp]at hn
 cases hx:nOperand A loc pb env x with
 |none=>simp[hx]at hn
 |some y=>
  simp[hx]at hn;subst hn
  simp only[aOp,Option.some.injEq,Prod.mk.injEq]at ha
  obtain⟨rfl,rfl⟩:=ha
  exact⟨Next.value (ρm x),w,φ,by simp[execOp],.inl ⟨_,rfl,hρ _ _ hx⟩,H,Ext.refl _ _ _ _⟩
theorem plain_pick(hE:EqOk A)(H:HeapR A φ h w base)(hb:base<=w.heap.size)(hφ:h.length<h'.length->φ h.length=none)(hk:∀v,ρa (.const v)=v)(hf:∀f,ρa (.func f)=.func (.func f) #[] #[])
  (hρ:∀x y,nOperand A loc pb env x=some y->VR A φ (ρa y) (ρm x)) {p:Op} {c a b:Operand} (hn:nOp A loc pb env (.pick c a b)=some p)
  (ha:aOp ρa h p=some (v,h')):SimN A φ h w base v h' (execOp ρm (mk dst (.pick c a b) ty pos after guard)):=by
 simp only[nOp]at hn
 split at hn
 ·rename_i c' a' b' h1 h2 h3
  injection hn with hn;subst hn
  simp only[aOp]at ha
  obtain⟨hv,he⟩:=with_inv ha
  subst he
  unfold pickV at hv
  split at hv
  ·rename_i t hc'
   have hcb:=hρ _ _ h1
   rw[hc']at hcb
   have e:=VR.bool_inv hcb
   injection hv with hv;subst hv
   refine⟨Next.value (if t then ρm a else ρm b),w,φ,by simp[execOp,e,asBool],.inl ⟨_,rfl,?_⟩,H,Ext.refl _ _ _ _⟩
   cases t
   ·exact hρ _ _ h3
   ·exact hρ _ _ h2
  ·simp at hv
 ·simp at hn
theorem plain_alloc(hE:EqOk A)(H:HeapR A φ h w base)(hb:base<=w.heap.size)(hφ:h.length<h'.length->φ h.length=none)(hk:∀v,ρa (.const v)=v)(hf:∀f,ρa (.func f)=.func (.func f) #[] #[])
  (hρ:∀x y,nOperand A loc pb env x=some y->VR A φ (ρa y) (ρm x)) {p:Op} {e:TypeId} (hn:nOp A loc pb env (.alloc e)=some p)
  (ha:aOp ρa h p=some (v,h')):SimN A φ h w base v h' (execOp ρm (mk dst (.alloc e) ty pos after guard)):=by
 simp only[nOp]at hn
 split at hn
 ·rename_i n z h1 h2
  injection hn with hn;subst hn
  simp only[aOp,hk]at ha
  exact(op_alloc H hb (hφ (aBox_len ha)) h2 ha).value
 ·simp at hn
theorem plain_box(hE:EqOk A)(H:HeapR A φ h w base)(hb:base<=w.heap.size)(hφ:h.length<h'.length->φ h.length=none)(hk:∀v,ρa (.const v)=v)(hf:∀f,ρa (.func f)=.func (.func f) #[] #[])
  (hρ:∀x y,nOperand A loc pb env x=some y->VR A φ (ρa y) (ρm x)) {p:Op} {e:TypeId} {x:Operand} (hn:nOp A loc pb env (.box e x)=some p)
  (ha:aOp ρa h p=some (v,h')):SimN A φ h w base v h' (execOp ρm (mk dst (.box e x) ty pos after guard)):=by
 simp only[nOp]at hn
 split at hn
 ·rename_i n y h1 h2
  injection hn with hn;subst hn
  simp only[aOp]at ha
  exact(op_box H hb (hφ (aBox_len ha)) (hρ _ _ h2) ha).value
 ·simp at hn
theorem plain_build(hE:EqOk A)(H:HeapR A φ h w base)(hb:base<=w.heap.size)(hφ:h.length<h'.length->φ h.length=none)(hk:∀v,ρa (.const v)=v)(hf:∀f,ρa (.func f)=.func (.func f) #[] #[])
  (hρ:∀x y,nOperand A loc pb env x=some y->VR A φ (ρa y) (ρm x)) {p:Op} {t:TypeId} {ps:Array (Nat×Operand)} (hn:nOp A loc pb env (.build t ps)=some p)
  (ha:aOp ρa h p=some (v,h')):SimN A φ h w base v h' (execOp ρm (mk dst (.build t ps) ty pos after guard)):=by
 simp only[nOp]at hn
 have hmap:(ps.map λ(i,x)=>(i,ρm x))=((ps.toList.map λp=>(p.1,ρm p.2))).toArray:=by
  apply Array.ext'
  simp
 split at hn
 ·rename_i fs z h1 h2
  split at hn
  ·rename_i l h3
   split at hn
   ·rename_i h4
    injection hn with hn;subst hn
    simp only[aOp]at ha
    obtain⟨hv,he⟩:=with_inv ha
    subst he
    simp only[List.map_cons,hk]at hv
    have hps:=nParts_rel hρ h3
    have:=op_build_struct H h1 h2 h4 (hps.mono λp q hpq=>by
     obtain⟨hp,hr⟩:=hpq
     refine⟨?_,hr⟩
     split at hp
     ·rename_i f hf'
      cases hs:sizeT A f.type with
      |none=>simp[hs]at hp
      |some n=>
       simp only[hs,Option.bind_some]at hp
       split at hp
       ·rename_i hlt
        injection hp with hp
        exact⟨f,n,hf',hs,hlt,hp.symm⟩
       ·simp at hp
     ·simp at hp) hv
    simpa [execOp,hmap]using this.value
   ·simp at hn
  ·simp at hn
 ·rename_i k e z h1 h2
  split at hn
  ·rename_i n h5
   split at hn
   ·rename_i l h3
    split at hn
    ·rename_i hn1
     injection hn with hn;subst hn
     simp only[aOp]at ha
     obtain⟨hv,he⟩:=with_inv ha
     subst he
     simp only[List.map_cons,hk]at hv
     have hps:=nParts_rel hρ h3
     have:=op_build_array H h1 h2 h5 hn1 (hps.mono λp q hpq=>by
      obtain⟨hp,hr⟩:=hpq
      injection hp with hp
      exact⟨hp.symm,hr⟩) hv
     simpa [execOp,hmap]using this.value
    ·simp at hn
   ·simp at hn
  ·simp at hn
 ·simp at hn
theorem plain_buildSlice(hE:EqOk A)(H:HeapR A φ h w base)(hb:base<=w.heap.size)(hφ:h.length<h'.length->φ h.length=none)(hk:∀v,ρa (.const v)=v)(hf:∀f,ρa (.func f)=.func (.func f) #[] #[])
  (hρ:∀x y,nOperand A loc pb env x=some y->VR A φ (ρa y) (ρm x)) {p:Op} {t:TypeId} {n:Nat} {ps:Array (Nat×Operand)} (hn:nOp A loc pb env (.buildSlice t n ps)=some p)
  (ha:aOp ρa h p=some (v,h')):SimN A φ h w base v h' (execOp ρm (mk dst (.buildSlice t n ps) ty pos after guard)):=by
 simp only[nOp]at hn
 have hmap:(ps.map λ(i,x)=>(i,ρm x))=((ps.toList.map λp=>(p.1,ρm p.2))).toArray:=by
  apply Array.ext'
  simp
 split at hn
 ·rename_i e h1
  split at hn
  ·rename_i z c h2 h3
   split at hn
   ·rename_i l h4
    have hps:=nParts_rel hρ h4
    split at hn
    ·rename_i hn0
     split at hn
     ·rename_i hl
      injection hn with hn;subst hn;subst hn0
      simp only[aOp,Option.some.injEq,Prod.mk.injEq,hk]at ha
      obtain⟨rfl,rfl⟩:=ha
      have hzne:z≠0:=by simp at hl;exact hl.2
      have hl0:l=[]:=by simp at hl;exact hl.1
      subst hl0
      have hq:ps.toList.map (λp=>(p.1,ρm p.2))=[]:=List.eq_nil_of_length_eq_zero (by rw[<-hps.length];rfl)
      obtain⟨i,u,hi,hz0,hzr⟩:=zeroCellsT_run (φ:=φ) h3
      have hsz:=sizeT_info h2
      obtain⟨i',hi',hsz⟩:=hsz
      rw[hi]at hi';injection hi' with hi';subst hi'
      obtain⟨hH,hE'⟩:=alloc_priv (.cells #[] e) H
      refine⟨Next.value (.slice (some ⟨w.heap.size,0,none⟩) 0 0),w.alloc (.cells #[] e),φ,?_,.inl ⟨_,rfl,⟨rfl,_,0,rfl,Nat.le_refl _,λ_=>rfl,λh0=>absurd rfl h0,⟨λe=>(by cases e),λe=>absurd e.2 hzne⟩⟩⟩,hH,hE'⟩
      have hbs:(Instr.buildSlice t 0 #[]).run A.P w=.ok (.slice (some ⟨w.heap.size,0,none⟩) 0 0) (w.alloc (.cells #[] e)):=by
       simp only[Instr.buildSlice,Sem.run_bind,run_underlying h1,Result.andThen_ok,run_sizeOf h2]
       have hr0:Array.range 0=#[]:=rfl
       simp[Instr.fill,newRow,hr0]
      simp[execOp,hmap,hq,hbs]
     ·simp at hn
    ·rename_i hn0
     split at hn
     ·rename_i hc
      injection hn with hn;subst hn
      simp only[aOp,List.map_cons,hk]at ha
      have:=op_buildSlice H hb (hφ (aBuildSlice_len ha)) h1 h2 h3 hc.1 hc.2.2.1 hc.2.2.2 hn0 hc.2.1 (hps.mono λp q hpq=>by
       obtain⟨hp,hr⟩:=hpq
       injection hp with hp
       exact⟨hp.symm,hr⟩) ha
      simpa [execOp,hmap]using this.value
     ·simp at hn
   ·simp at hn
  ·simp at hn
 ·simp at hn
theorem plain_load(hE:EqOk A)(H:HeapR A φ h w base)(hb:base<=w.heap.size)(hφ:h.length<h'.length->φ h.length=none)(hk:∀v,ρa (.const v)=v)(hf:∀f,ρa (.func f)=.func (.func f) #[] #[])
  (hρ:∀x y,nOperand A loc pb env x=some y->VR A φ (ρa y) (ρm x)) {p:Op} {t:TypeId} {a:Operand} (hn:nOp A loc pb env (.load t a)=some p)
  (ha:aOp ρa h p=some (v,h')):SimN A φ h w base v h' (execOp ρm (mk dst (.load t a) ty pos after guard)):=by
 simp only[nOp]at hn
 split at hn
 ·rename_i n y h1 h2
  injection hn with hn;subst hn
  simp only[aOp]at ha
  obtain⟨hv,he⟩:=with_inv ha
  subst he
  have hr:=hρ _ _ h2
  cases hy:ρa y with
  |pointer p=>
   cases p with
   |none=>rw[hy]at hv;simp[aLoad]at hv
   |some ad=>
    rw[hy]at hv hr
    obtain⟨hsp,l,hl,he⟩:=VR.pointer_inv hr
    have hpt:aLoad (if aggT A t then n+1 else 0) h (pt ad.block ad.off)=some v:=hv
    obtain⟨u,hrun,hu⟩:=loadVar_sim H h1 hl hpt
    exact⟨Next.value u,w,φ,by simp[execOp,Instr.loadAt,Instr.sureAddr,he,hrun],.inl ⟨_,rfl,hu⟩,H,Ext.refl _ _ _ _⟩
  |_=>rw[hy]at hv;simp[aLoad]at hv
 ·simp at hn
theorem plain_store(hE:EqOk A)(H:HeapR A φ h w base)(hb:base<=w.heap.size)(hφ:h.length<h'.length->φ h.length=none)(hk:∀v,ρa (.const v)=v)(hf:∀f,ρa (.func f)=.func (.func f) #[] #[])
  (hρ:∀x y,nOperand A loc pb env x=some y->VR A φ (ρa y) (ρm x)) {p:Op} {t:TypeId} {a x:Operand} (hn:nOp A loc pb env (.store t a x)=some p)
  (ha:aOp ρa h p=some (v,h')):SimN A φ h w base v h' (execOp ρm (mk dst (.store t a x) ty pos after guard)):=by
 simp only[nOp]at hn
 split at hn
 ·rename_i n y z h1 h2 h3
  injection hn with hn;subst hn
  simp only[aOp]at ha
  have hr:=hρ _ _ h2
  have hx:=hρ _ _ h3
  unfold behind at ha
  cases hst:aStore n h (ρa z) (ρa y)with
  |none=>simp[hst]at ha
  |some h1'=>
   simp[hst]at ha
   obtain⟨rfl,rfl⟩:=ha
   cases hy:ρa y with
   |pointer p=>
    cases p with
    |none=>rw[hy]at hst;simp[aStore]at hst
    |some ad=>
     rw[hy]at hst hr
     obtain⟨hsp,l,hl,he⟩:=VR.pointer_inv hr
     simp only[aStore]at hst
     split at hst
     ·rename_i cs hcs
      split at hst
      ·rename_i hlen
       obtain⟨w',hrun,hH,hE'⟩:=storeVar_sim H h1 hl hcs hlen hst hx
       exact⟨Next.skip,w',φ,by simp[execOp,Instr.storeAt,Instr.sureAddr,he,hrun],.inr ⟨rfl,rfl⟩,hH,hE'⟩
      ·simp at hst
     ·simp at hst
   |_=>rw[hy]at hst;simp[aStore]at hst
 ·simp at hn
theorem plain_nilCheck(hE:EqOk A)(H:HeapR A φ h w base)(hb:base<=w.heap.size)(hφ:h.length<h'.length->φ h.length=none)(hk:∀v,ρa (.const v)=v)(hf:∀f,ρa (.func f)=.func (.func f) #[] #[])
  (hρ:∀x y,nOperand A loc pb env x=some y->VR A φ (ρa y) (ρm x)) {p:Op} {x:Operand} (hn:nOp A loc pb env (.nilCheck x)=some p)
  (ha:aOp ρa h p=some (v,h')):SimN A φ h w base v h' (execOp ρm (mk dst (.nilCheck x) ty pos after guard)):=by
 simp only[nOp]at hn
 cases hx:nOperand A loc pb env x with
 |none=>simp[hx]at hn
 |some y=>
  simp[hx]at hn;subst hn
  simp only[aOp]at ha
  obtain⟨hv,he⟩:=with_inv ha
  subst he
  have hr:=hρ _ _ hx
  obtain⟨rfl,hc⟩:=op_nilCheck hr hv
  refine⟨Next.value (ρm x),w,φ,?_,.inl ⟨_,rfl,hr⟩,H,Ext.refl _ _ _ _⟩
  rcases hc with⟨a,ha'⟩|⟨g,c,d,ha'⟩<;>simp[execOp,ha']
theorem plain_binOp(hE:EqOk A)(H:HeapR A φ h w base)(hb:base<=w.heap.size)(hφ:h.length<h'.length->φ h.length=none)(hk:∀v,ρa (.const v)=v)(hf:∀f,ρa (.func f)=.func (.func f) #[] #[])
  (hρ:∀x y,nOperand A loc pb env x=some y->VR A φ (ρa y) (ρm x)) {p:Op} {o:BinOp} {t yt:TypeId} {x y:Operand} (hn:nOp A loc pb env (.binOp o t x y yt)=some p)
  (ha:aOp ρa h p=some (v,h')):SimN A φ h w base v h' (execOp ρm (mk dst (.binOp o t x y yt) ty pos after guard)):=by
 simp only[nOp]at hn
 split at hn
 ·rename_i x' y' h1 h2
  have key:(∃m:Nat,p=.binOp o m x' y' 0∧(2<=m->A.eqT.contains t=true∧sizeT A t=some (m-2))∧(m=1->A.P.underlying t=some .bool))∨(p=.binOp o 0 x' y' 1∧∃e,A.P.underlying t=some (.slice e)):=by
   split at hn
   ·rename_i hu
    injection hn with hn;subst hn
    exact .inl ⟨1,rfl,λ_=>by omega,λ_=>hu⟩
   ·rename_i e hu
    injection hn with hn;subst hn
    exact .inr ⟨rfl,e,hu⟩
   ·split at hn
    ·rename_i hc
     cases hs:sizeT A t with
     |none=>simp[hs]at hn
     |some n=>simp[hs]at hn;subst hn;exact .inl ⟨n+2,rfl,λ_=>⟨hc,by simp⟩,λ_=>by omega⟩
    ·simp at hn
   ·split at hn
    ·rename_i hc
     cases hs:sizeT A t with
     |none=>simp[hs]at hn
     |some n=>simp[hs]at hn;subst hn;exact .inl ⟨n+2,rfl,λ_=>⟨hc,by simp⟩,λ_=>by omega⟩
    ·simp at hn
   ·injection hn with hn;subst hn
    exact .inl ⟨0,rfl,λ_=>by omega,λ_=>by omega⟩
  rcases key with⟨m,rfl,k1,k2⟩|⟨rfl,e,hu⟩
  rotate_left
  ·simp only[aOp,if_true]at ha
   obtain⟨hv,he⟩:=with_inv ha
   subst he
   exact(op_binNil x y H hu (hρ _ _ h1) (hρ _ _ h2) hv).value
  simp only[aOp]at ha
  rw[if_neg (by decide)]at ha
  obtain⟨hv,he⟩:=with_inv ha
  subst he
  exact(op_binOp x y hE H k1 k2 (hρ _ _ h1) (hρ _ _ h2) hv).value
 ·simp at hn
theorem plain_unOp(hE:EqOk A)(H:HeapR A φ h w base)(hb:base<=w.heap.size)(hφ:h.length<h'.length->φ h.length=none)(hk:∀v,ρa (.const v)=v)(hf:∀f,ρa (.func f)=.func (.func f) #[] #[])
  (hρ:∀x y,nOperand A loc pb env x=some y->VR A φ (ρa y) (ρm x)) {p:Op} {o:UnOp} {t:TypeId} {x:Operand} (hn:nOp A loc pb env (.unOp o t x)=some p)
  (ha:aOp ρa h p=some (v,h')):SimN A φ h w base v h' (execOp ρm (mk dst (.unOp o t x) ty pos after guard)):=by
 simp only[nOp]at hn
 cases hx:nOperand A loc pb env x with
 |none=>simp[hx]at hn
 |some y=>
  simp[hx]at hn;subst hn
  simp only[aOp]at ha
  obtain⟨hv,he⟩:=with_inv ha
  subst he
  exact(op_unOp H (hρ _ _ hx) hv).value
theorem plain_convert(hE:EqOk A)(H:HeapR A φ h w base)(hb:base<=w.heap.size)(hφ:h.length<h'.length->φ h.length=none)(hk:∀v,ρa (.const v)=v)(hf:∀f,ρa (.func f)=.func (.func f) #[] #[])
  (hρ:∀x y,nOperand A loc pb env x=some y->VR A φ (ρa y) (ρm x)) {p:Op} {s d:TypeId} {x:Operand} (hn:nOp A loc pb env (.convert s d x)=some p)
  (ha:aOp ρa h p=some (v,h')):SimN A φ h w base v h' (execOp ρm (mk dst (.convert s d x) ty pos after guard)):=by
 simp only[nOp]at hn
 split at hn
 ·rename_i y k0 k h1 h2 h3
  injection hn with hn;subst hn
  simp only[aOp]at ha
  exact(conv_int H h2 h3 (hρ _ _ h1) ha).value
 ·rename_i y h1 h2 h3
  injection hn with hn;subst hn
  simp only[aOp]at ha
  exact(conv_same H h2 h3 (hρ _ _ h1) ha).value
 ·rename_i y e h1 h2 h3
  split at hn
  ·rename_i hc
   injection hn with hn;subst hn
   simp only[aOp]at ha
   exact(conv_bytes H hb (hφ (aConv20_len ha)) h2 h3 (isU8_eq hc.1) (hρ _ _ h1) ha).value
  ·simp at hn
 ·rename_i y e h1 h2 h3
  split at hn
  ·rename_i hc
   injection hn with hn;subst hn
   simp only[aOp]at ha
   exact(conv_text H h2 (isU8_eq hc) h3 (hρ _ _ h1) ha).value
  ·simp at hn
 ·simp at hn
theorem plain_makeFunc(hE:EqOk A)(H:HeapR A φ h w base)(hb:base<=w.heap.size)(hφ:h.length<h'.length->φ h.length=none)(hk:∀v,ρa (.const v)=v)(hf:∀f,ρa (.func f)=.func (.func f) #[] #[])
  (hρ:∀x y,nOperand A loc pb env x=some y->VR A φ (ρa y) (ρm x)) {p:Op} {g:FuncId} {first caps:Array Operand} (hn:nOp A loc pb env (.makeFunc (.func g) first caps)=some p)
  (ha:aOp ρa h p=some (v,h')):SimN A φ h w base v h' (execOp ρm (mk dst (.makeFunc (.func g) first caps) ty pos after guard)):=by
 simp only[nOp]at hn
 split at hn
 ·rename_i f l0 l h1 h0 h2
  injection hn with hn;subst hn
  simp only[aOp]at ha
  have:=op_makeFunc H h1 (nOperands_rel hρ h0) (nOperands_rel hρ h2) ha
  have hm:caps.map ρm=(caps.toList.map ρm).toArray:=by apply Array.ext';simp
  have hm0:first.map ρm=(first.toList.map ρm).toArray:=by apply Array.ext';simp
  simp only[execOp,hm,hm0]
  exact this.value
 ·simp at hn
theorem plain_makeSlice(hE:EqOk A)(H:HeapR A φ h w base)(hb:base<=w.heap.size)(hφ:h.length<h'.length->φ h.length=none)(hk:∀v,ρa (.const v)=v)(hf:∀f,ρa (.func f)=.func (.func f) #[] #[])
  (hρ:∀x y,nOperand A loc pb env x=some y->VR A φ (ρa y) (ρm x)) {p:Op} {t:TypeId} {l c:Operand} (hn:nOp A loc pb env (.makeSlice t l c)=some p)
  (ha:aOp ρa h p=some (v,h')):SimN A φ h w base v h' (execOp ρm (mk dst (.makeSlice t l c) ty pos after guard)):=by
 simp only[nOp]at hn
 split at hn
 ·rename_i e h1
  split at hn
  ·rename_i z cs l' c' h2 h3 h4 h5
   split at hn
   ·rename_i hc
    injection hn with hn;subst hn
    simp only[aOp,hk]at ha
    exact(op_make H hb (hφ (aMake_len ha)) h1 h2 h3 hc.1 hc.2.1 hc.2.2 (hρ _ _ h4) (hρ _ _ h5) ha).value
   ·simp at hn
  ·simp at hn
 ·simp at hn
theorem plain_slice(hE:EqOk A)(H:HeapR A φ h w base)(hb:base<=w.heap.size)(hφ:h.length<h'.length->φ h.length=none)(hk:∀v,ρa (.const v)=v)(hf:∀f,ρa (.func f)=.func (.func f) #[] #[])
  (hρ:∀x y,nOperand A loc pb env x=some y->VR A φ (ρa y) (ρm x)) {p:Op} {t:TypeId} {x:Operand} {lo hi mx:Option Operand} (hn:nOp A loc pb env (.slice t x lo hi mx)=some p)
  (ha:aOp ρa h p=some (v,h')):SimN A φ h w base v h' (execOp ρm (mk dst (.slice t x lo hi mx) ty pos after guard)):=by
 simp only[nOp]at hn
 split at hn
 ·rename_i x' lo' hi' mx' h1 h2 h3 h4
  have r1:=hρ _ _ h1
  have r2:=nOpt_rel hρ h2
  have r3:=nOpt_rel hρ h3
  have r4:=nOpt_rel hρ h4
  split at hn
  ·rename_i hu
   injection hn with hn;subst hn
   simp only[aOp]at ha
   exact(op_slice_text H hu r1 r2 r3 r4 ha).value
  ·rename_i e hu
   cases hs:sizeT A e with
   |none=>simp[hs]at hn
   |some z=>
    simp only[hs,Option.bind_some]at hn
    split at hn
    ·rename_i hz
     injection hn with hn;subst hn
     simp only[aOp]at ha
     exact(op_slice_slice H hu hs hz r1 r2 r3 r4 ha).value
    ·simp at hn
  ·rename_i n e hu
   cases hs:sizeT A e with
   |none=>simp[hs]at hn
   |some z=>
    simp only[hs,Option.bind_some]at hn
    cases hc:arrCode n z with
    |none=>simp[hc]at hn
    |some c=>
     simp[hc]at hn;subst hn
     simp only[aOp]at ha
     obtain⟨a,hx⟩:=slice_ptr (arrCode_eq hc).2.2.2.2 ha
     rw[hx]at ha r1
     exact(op_slice_array H hu hs hc r1 r2 r3 r4 ha).value
  ·simp at hn
 ·simp at hn
theorem plain_fieldAddr(hE:EqOk A)(H:HeapR A φ h w base)(hb:base<=w.heap.size)(hφ:h.length<h'.length->φ h.length=none)(hk:∀v,ρa (.const v)=v)(hf:∀f,ρa (.func f)=.func (.func f) #[] #[])
  (hρ:∀x y,nOperand A loc pb env x=some y->VR A φ (ρa y) (ρm x)) {p:Op} {t:TypeId} {x:Operand} {f:Nat} (hn:nOp A loc pb env (.fieldAddr t x f)=some p)
  (ha:aOp ρa h p=some (v,h')):SimN A φ h w base v h' (execOp ρm (mk dst (.fieldAddr t x f) ty pos after guard)):=by
 simp only[nOp]at hn
 split at hn
 ·rename_i x' fs h1 h2
  split at hn
  ·rename_i fd h3
   split at hn
   ·rename_i m h4
    injection hn with hn;subst hn
    simp only[aOp,if_true]at ha
    obtain⟨hv,he⟩:=with_inv ha
    subst he
    have r:=hρ _ _ h1
    unfold fieldAddrV at hv
    split at hv
    ·rename_i a hx
     injection hv with hv
     rw[hx]at r
     exact(op_fieldAddr H h2 h3 h4 r hv.symm).value
    ·simp at hv
   ·simp at hn
  ·simp at hn
 ·simp at hn
theorem plain_field(hE:EqOk A)(H:HeapR A φ h w base)(hb:base<=w.heap.size)(hφ:h.length<h'.length->φ h.length=none)(hk:∀v,ρa (.const v)=v)(hf:∀f,ρa (.func f)=.func (.func f) #[] #[])
  (hρ:∀x y,nOperand A loc pb env x=some y->VR A φ (ρa y) (ρm x)) {p:Op} {t:TypeId} {x:Operand} {f:Nat} (hn:nOp A loc pb env (.field t x f)=some p)
  (ha:aOp ρa h p=some (v,h')):SimN A φ h w base v h' (execOp ρm (mk dst (.field t x f) ty pos after guard)):=by
 simp only[nOp]at hn
 split at hn
 ·rename_i x' fs h1 h2
  split at hn
  ·rename_i fd h3
   split at hn
   ·rename_i m h4
    injection hn with hn;subst hn
    simp only[aOp]at ha
    obtain⟨hv,he⟩:=with_inv ha
    subst he
    exact(op_field H h2 h3 h4 (hρ _ _ h1) hv).value
   ·simp at hn
  ·simp at hn
 ·simp at hn
theorem plain_indexAddr(hE:EqOk A)(H:HeapR A φ h w base)(hb:base<=w.heap.size)(hφ:h.length<h'.length->φ h.length=none)(hk:∀v,ρa (.const v)=v)(hf:∀f,ρa (.func f)=.func (.func f) #[] #[])
  (hρ:∀x y,nOperand A loc pb env x=some y->VR A φ (ρa y) (ρm x)) {p:Op} {t:TypeId} {x i:Operand} (hn:nOp A loc pb env (.indexAddr t x i)=some p)
  (ha:aOp ρa h p=some (v,h')):SimN A φ h w base v h' (execOp ρm (mk dst (.indexAddr t x i) ty pos after guard)):=by
 simp only[nOp]at hn
 split at hn
 ·rename_i x' i' e h1 h2 h3
  cases hs:sizeT A e with
  |none=>simp[hs]at hn
  |some z=>
   simp only[hs,Option.bind_some]at hn
   split at hn
   ·rename_i hz
    injection hn with hn;subst hn
    simp only[aOp]at ha
    obtain⟨hv,he⟩:=with_inv ha
    subst he
    exact(op_indexAddr_slice H h3 hs hz (hρ _ _ h1) (hρ _ _ h2) hv).value
   ·simp at hn
 ·rename_i x' i' n e h1 h2 h3
  cases hs:sizeT A e with
  |none=>simp[hs]at hn
  |some z=>
   simp only[hs,Option.bind_some]at hn
   cases hc:arrCode n z with
   |none=>simp[hc]at hn
   |some c=>
    simp[hc]at hn;subst hn
    simp only[aOp]at ha
    obtain⟨hv,he⟩:=with_inv ha
    subst he
    have r:=hρ _ _ h1
    obtain⟨a,hx⟩:=indexAddr_ptr (arrCode_eq hc).2.2.2.2 hv
    rw[hx]at hv r
    exact(op_indexAddr_array H h3 hs hc r (hρ _ _ h2) hv).value
 ·simp at hn
theorem plain_index(hE:EqOk A)(H:HeapR A φ h w base)(hb:base<=w.heap.size)(hφ:h.length<h'.length->φ h.length=none)(hk:∀v,ρa (.const v)=v)(hf:∀f,ρa (.func f)=.func (.func f) #[] #[])
  (hρ:∀x y,nOperand A loc pb env x=some y->VR A φ (ρa y) (ρm x)) {p:Op} {t:TypeId} {x i:Operand} (hn:nOp A loc pb env (.index t x i)=some p)
  (ha:aOp ρa h p=some (v,h')):SimN A φ h w base v h' (execOp ρm (mk dst (.index t x i) ty pos after guard)):=by
 simp only[nOp]at hn
 split at hn
 ·rename_i x' i' h1 h2 h3
  injection hn with hn;subst hn
  simp only[aOp]at ha
  obtain⟨hv,he⟩:=with_inv ha
  subst he
  exact(op_index_text H h3 (hρ _ _ h1) (hρ _ _ h2) hv).value
 ·rename_i x' i' n e h1 h2 h3
  cases hs:sizeT A e with
  |none=>simp[hs]at hn
  |some z=>
   simp only[hs,Option.bind_some]at hn
   have key:∃c,arrCode n (if aggT A e then z else 0)=some c∧(aggT A e=true->0<z)∧(aggT A e=false->z=1)∧p=.index c x' i':=by
    split at hn
    ·rename_i hag
     split at hn
     ·rename_i hz
      cases hc:arrCode n z with
      |none=>simp[hc]at hn
      |some c=>simp[hc]at hn;exact⟨c,by simp[hag,hc],λ_=>hz,by simp[hag],hn.symm⟩
     ·simp at hn
    ·rename_i hag
     split at hn
     ·rename_i hz
      cases hc:arrCode n 0 with
      |none=>simp[hc]at hn
      |some c=>simp[hc]at hn;exact⟨c,by simp[hag,hc],λh'=>absurd h' hag,λ_=>hz,hn.symm⟩
     ·simp at hn
   obtain⟨c,k1,k2,k3,rfl⟩:=key
   simp only[aOp]at ha
   obtain⟨hv,he⟩:=with_inv ha
   subst he
   exact(op_index_array H h3 hs k1 k2 k3 (hρ _ _ h1) (hρ _ _ h2) hv).value
 ·simp at hn
theorem plain_extract(hE:EqOk A)(H:HeapR A φ h w base)(hb:base<=w.heap.size)(hφ:h.length<h'.length->φ h.length=none)(hk:∀v,ρa (.const v)=v)(hf:∀f,ρa (.func f)=.func (.func f) #[] #[])
  (hρ:∀x y,nOperand A loc pb env x=some y->VR A φ (ρa y) (ρm x)) {p:Op} {x:Operand} {i:Nat} (hn:nOp A loc pb env (.extract x i)=some p)
  (ha:aOp ρa h p=some (v,h')):SimN A φ h w base v h' (execOp ρm (mk dst (.extract x i) ty pos after guard)):=by
 simp only[nOp]at hn
 cases hx:nOperand A loc pb env x with
 |none=>simp[hx]at hn
 |some y=>
  simp[hx]at hn;subst hn
  simp only[aOp]at ha
  obtain⟨hv,he⟩:=with_inv ha
  subst he
  exact(op_extract H (hρ _ _ hx) hv).value
theorem aAppend_nil{A:Seat}{z:Nat}{s x v:Value}{h h':Heap}(ha:aAppend z h x s=some (v,h')):z≠0:=by
 unfold aAppend at ha
 split at ha
 ·split at ha
  ·split at ha
   ·simp at ha
   ·assumption
  ·simp at ha
 ·simp at ha
theorem two_of{α β:Type}{R:α->β->Prop}{l:List β}{a b:α}(h:All2 R [a,b] l):∃c d,l=[c,d]∧R a c∧R b d:=by
 match l,h with
 |[c,d],h=>exact⟨c,d,rfl,h.1,h.2.1⟩
theorem one_of{α β:Type}{R:α->β->Prop}{l:List β}{a:α}(h:All2 R [a] l):∃c,l=[c]∧R a c:=by
 match l,h with
 |[c],h=>exact⟨c,rfl,h.1⟩
theorem aBuiltin_inv{b:Builtin}{z:Nat}{args:List Value}{v:Value}{h h':Heap}(ha:aBuiltin b z h args=some (v,h')):
  (b=.len∧∃x,args=[x]∧aLen z x=some v∧h=h')∨(b=.append∧∃s x,args=[s,x]∧aAppend z h x s=some (v,h'))∨
  (b=.copy∧∃s x,args=[s,x]∧aCopy z h x s=some (v,h'))∨(b=.max∧aMax args=some v∧h=h')∨(b=.min∧aMin args=some v∧h=h'):=by
 unfold aBuiltin at ha
 split at ha
 ·obtain⟨h1,h2⟩:=with_inv ha;exact .inl ⟨rfl,_,rfl,h1,h2⟩
 ·exact .inr (.inl ⟨rfl,_,_,rfl,ha⟩)
 ·exact .inr (.inr (.inl ⟨rfl,_,_,rfl,ha⟩))
 ·obtain⟨h1,h2⟩:=with_inv ha;exact .inr (.inr (.inr (.inl ⟨rfl,h1,h2⟩)))
 ·obtain⟨h1,h2⟩:=with_inv ha;exact .inr (.inr (.inr (.inr ⟨rfl,h1,h2⟩)))
 ·simp at ha
theorem callb_run{b:Builtin}{args:Array Operand}{argTypes:Array TypeId}{us:List Value}(hu:args.toList.map ρm=us)(hs:SimN A φ h w base v h' (builtin b argTypes ty (args.map λ|.const _=>true|_=>false) us.toArray)):
  SimN A φ h w base v h' (execOp ρm (mk dst (.call {callee:=.builtin b,args:=args,argTypes:=argTypes}) ty pos after guard)):=by
 have hm:args.map ρm=us.toArray:=by apply Array.ext';simp[hu]
 have e0:(execOp ρm (mk dst (.call {callee:=.builtin b,args:=args,argTypes:=argTypes}) ty pos after guard)).run A.P w=
   (builtin b argTypes ty (args.map λ|.const _=>true|_=>false) us.toArray).run A.P w:=by
  simp[execOp,resolve,invoke,hm]
  rfl
 obtain⟨r,w',φ',hrun,rest⟩:=hs
 exact⟨r,w',φ',e0.trans hrun,rest⟩
theorem arr_one{α:Type}{a:Array α}{x:α}(h:a.toList=[x]):a=#[x]:=by apply Array.ext';simp[h]
theorem arr_two{α:Type}{a:Array α}{x y:α}(h:a.toList=[x,y]):a=#[x,y]:=by apply Array.ext';simp[h]
theorem plain_callb(hE:EqOk A)(H:HeapR A φ h w base)(hb:base<=w.heap.size)(hφ:h.length<h'.length->φ h.length=none)(hk:∀v,ρa (.const v)=v)(hf:∀f,ρa (.func f)=.func (.func f) #[] #[])
  (hρ:∀x y,nOperand A loc pb env x=some y->VR A φ (ρa y) (ρm x)) {p:Op} {b:Builtin} {args:Array Operand} {argTypes:Array TypeId} (hn:nOp A loc pb env (.call {callee:=.builtin b,args:=args,argTypes:=argTypes})=some p)
  (ha:aOp ρa h p=some (v,h')):SimN A φ h w base v h' (execOp ρm (mk dst (.call {callee:=.builtin b,args:=args,argTypes:=argTypes}) ty pos after guard)):=by
 simp only[nOp]at hn
 split at hn
 ·rename_i l h1
  have hr:=nOperands_rel hρ h1
  split at hn
  ·rename_i t hty
   have hty:=arr_one hty
   subst hty
   split at hn
   ·rename_i hu
    injection hn with hn;subst hn
    simp only[aOp]at ha
    rcases aBuiltin_inv ha with⟨_,x,hx,hv,rfl⟩|⟨h0,_⟩|⟨h0,_⟩|⟨h0,_⟩|⟨h0,_⟩<;>first|cases h0|skip
    simp only[hx]at hr
    obtain⟨u,hu',hr1⟩:=one_of hr
    exact callb_run hu' (op_len_text H hu hr1 hv).value
   ·rename_i e hu
    injection hn with hn;subst hn
    simp only[aOp]at ha
    rcases aBuiltin_inv ha with⟨_,x,hx,hv,rfl⟩|⟨h0,_⟩|⟨h0,_⟩|⟨h0,_⟩|⟨h0,_⟩<;>first|cases h0|skip
    simp only[hx]at hr
    obtain⟨u,hu',hr1⟩:=one_of hr
    exact callb_run hu' (op_len_slice H hu hr1 hv).value
   ·simp at hn
  ·rename_i t t1 hty
   have hty:=arr_two hty
   subst hty
   have key:∃e z c,A.P.underlying t=some (.slice e)∧((∃e1,A.P.underlying t1=some (.slice e1))∨A.P.underlying t1=some .string)∧sizeT A e=some z∧zeroCellsT A e=some c∧c.length=z∧
     (A.P.info? e).map (decide<|·.bytes<=4096)=some true∧p=.call {callee:=.builtin .append,args:=l.toArray,argTypes:=#[z]}:=by
    split at hn
    ·rename_i e e1 hu hu1
     split at hn
     ·rename_i z c hz hc
      split at hn
      ·rename_i hcond
       injection hn with hn
       exact⟨e,z,c,hu,.inl ⟨_,hu1⟩,hz,hc,hcond.1,hcond.2,hn.symm⟩
      ·simp at hn
     ·simp at hn
    ·rename_i e hu hu1
     split at hn
     ·rename_i z c hz hc
      split at hn
      ·rename_i hcond
       injection hn with hn
       exact⟨e,z,c,hu,.inr hu1,hz,hc,hcond.1,hcond.2,hn.symm⟩
      ·simp at hn
     ·simp at hn
    ·simp at hn
   obtain⟨e,z,c,hu,hu1,hz,hc,hcz,hby,rfl⟩:=key
   simp only[aOp]at ha
   rcases aBuiltin_inv ha with⟨h0,_⟩|⟨_,s,x,hx,hv⟩|⟨h0,_⟩|⟨h0,_⟩|⟨h0,_⟩<;>first|cases h0|skip
   simp only[hx]at hr
   obtain⟨u1,u2,hu',hr1,hr2⟩:=two_of hr
   have hv':aAppend z h x s=some (v,h'):=by simpa using hv
   exact callb_run hu' (op_append H hb hφ hu hz hc hcz hby hu1 hr1 hr2 hv').value
  ·rename_i t t1 hty
   have hty:=arr_two hty
   subst hty
   split at hn
   ·rename_i e hu
    split at hn
    ·rename_i z hz
     injection hn with hn;subst hn
     simp only[aOp]at ha
     rcases aBuiltin_inv ha with⟨h0,_⟩|⟨h0,_⟩|⟨_,s,x,hx,hv⟩|⟨h0,_⟩|⟨h0,_⟩<;>first|cases h0|skip
     simp only[hx]at hr
     obtain⟨u1,u2,hu',hr1,hr2⟩:=two_of hr
     have hv':aCopy z h x s=some (v,h'):=by simpa using hv
     exact callb_run hu' (op_copy H hu hz hr1 hr2 hv').value
    ·simp at hn
   ·simp at hn
  ·injection hn with hn;subst hn
   simp only[aOp]at ha
   rcases aBuiltin_inv ha with⟨h0,_⟩|⟨h0,_⟩|⟨h0,_⟩|⟨_,hv,rfl⟩|⟨h0,_⟩<;>first|cases h0|skip
   exact callb_run rfl (op_max H hr hv).value
  ·injection hn with hn;subst hn
   simp only[aOp]at ha
   rcases aBuiltin_inv ha with⟨h0,_⟩|⟨h0,_⟩|⟨h0,_⟩|⟨h0,_⟩|⟨_,hv,rfl⟩<;>first|cases h0|skip
   exact callb_run rfl (op_min H hr hv).value
  ·simp at hn
 ·simp at hn
/-- AN OPERATION THAT IS NO CALL. -/
theorem plain_op(hE:EqOk A)(H:HeapR A φ h w base)(hb:base<=w.heap.size)(hφ:h.length<h'.length->φ h.length=none)(hk:∀v,ρa (.const v)=v)(hf:∀f,ρa (.func f)=.func (.func f) #[] #[])
  (hρ:∀x y,nOperand A loc pb env x=some y->VR A φ (ρa y) (ρm x)) {o p:Op} (hc:∀f args ts,o≠.call {callee:=.value f,args:=args,argTypes:=ts}) (hn:nOp A loc pb env o=some p)
  (ha:aOp ρa h p=some (v,h')):SimN A φ h w base v h' (execOp ρm (mk dst o ty pos after guard)):=by
 cases o with
 |move x=>exact plain_move hE H hb hφ hk hf hρ hn ha
 |assign x=>exact plain_assign hE H hb hφ hk hf hρ hn ha
 |pick c a b=>exact plain_pick hE H hb hφ hk hf hρ hn ha
 |alloc e=>exact plain_alloc hE H hb hφ hk hf hρ hn ha
 |box e x=>exact plain_box hE H hb hφ hk hf hρ hn ha
 |build t ps=>exact plain_build hE H hb hφ hk hf hρ hn ha
 |buildSlice t n ps=>exact plain_buildSlice hE H hb hφ hk hf hρ hn ha
 |load t a=>exact plain_load hE H hb hφ hk hf hρ hn ha
 |store t a x=>exact plain_store hE H hb hφ hk hf hρ hn ha
 |nilCheck x=>exact plain_nilCheck hE H hb hφ hk hf hρ hn ha
 |binOp o t x y yt=>exact plain_binOp hE H hb hφ hk hf hρ hn ha
 |unOp o t x=>exact plain_unOp hE H hb hφ hk hf hρ hn ha
 |convert s d x=>exact plain_convert hE H hb hφ hk hf hρ hn ha
 |makeFunc f first caps=>
  cases f with
  |func g=>exact plain_makeFunc hE H hb hφ hk hf hρ hn ha
  |_=>simp[nOp]at hn
 |makeSlice t l c=>exact plain_makeSlice hE H hb hφ hk hf hρ hn ha
 |slice t x lo hi mx=>exact plain_slice hE H hb hφ hk hf hρ hn ha
 |fieldAddr t x f=>exact plain_fieldAddr hE H hb hφ hk hf hρ hn ha
 |field t x f=>exact plain_field hE H hb hφ hk hf hρ hn ha
 |indexAddr t x i=>exact plain_indexAddr hE H hb hφ hk hf hρ hn ha
 |index t x i=>exact plain_index hE H hb hφ hk hf hρ hn ha
 |extract x i=>exact plain_extract hE H hb hφ hk hf hρ hn ha
 |call c=>
  obtain⟨callee,args,ts⟩:=c
  cases callee with
  |builtin b=>exact plain_callb hE H hb hφ hk hf hρ hn ha
  |value f=>exact absurd rfl (hc f args ts)
  |invoke r m=>simp[nOp]at hn
 |_=>simp[nOp]at hn
end ops
end
end Am

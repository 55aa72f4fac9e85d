/- The plain operations, second part: boxes, structs, rows. -/
import Derived.Test.YtpgioncclmancaaGreatAmOps
set_option linter.unusedVariables false
set_option linter.unusedSimpArgs false
namespace Am
open Go
section
variable {A : Seat} {φ : Phi} {h : Heap} {w : World} {base : Nat}
theorem op_newVar{e:TypeId}{n:Nat}{x u v:Value}{h':Heap}(H:HeapR A φ h w base)(hb:base<=w.heap.size)(hφ:φ h.length=none)(hx:VR A φ x u)(ha:aBox n x h=some (v,h')):
  SimV A φ h w base v h' (do pure (.pointer (some (<-newVar e u)))):=by
 unfold aBox at ha
 cases hc:cellsOf x with
 |none=>simp[hc]at ha
 |some cs=>
  simp only[hc]at ha
  split at ha
  ·injection ha with ha
   injection ha with h1 h2
   subst h1;subst h2
   obtain⟨hrun,hH,hE⟩:=newRow_sim (e:=e) H hb hφ (cellsOf_rel hc hx)
   exact⟨_,_,_,by simp[newVar,hrun],⟨rfl,_,Phi.put_same _ _ _,rfl⟩,hH,hE⟩
  ·simp at ha
theorem op_box{e:TypeId}{n:Nat}{x u v:Value}{h':Heap}(H:HeapR A φ h w base)(hb:base<=w.heap.size)(hφ:φ h.length=none)(hx:VR A φ x u)(ha:aBox n x h=some (v,h')):
  SimV A φ h w base v h' (Instr.box e u):=op_newVar H hb hφ hx ha
theorem op_alloc{e:TypeId}{n:Nat}{z v:Value}{h':Heap}(H:HeapR A φ h w base)(hb:base<=w.heap.size)(hφ:φ h.length=none)(hz:zeroT A e=some z)(ha:aBox n z h=some (v,h')):
  SimV A φ h w base v h' (Instr.alloc e true (.tuple #[])):=by
 obtain⟨u,hu,hr⟩:=zeroT_run (φ:=φ) hz w
 obtain⟨x,w',φ',hrun,rest⟩:=op_newVar (e:=e) H hb hφ hr ha
 refine⟨x,w',φ',?_,rest⟩
 simpa [Instr.alloc,hu]using hrun
/-! ### structs -/
theorem foldl_set(off:Nat):∀(l:List Value) (i:Nat) (cells:Array Value),off+i+l.length<=cells.size->
  ((l.zipIdx i).foldl (λcs (p:Value×Nat)=>cs.setIfInBounds (off+p.2) p.1) cells).toList=cells.toList.take (off+i)++l++cells.toList.drop (off+i+l.length)
 |[],i,cells,_=>by simp
 |v::r,i,cells,hl=>by
  simp only[List.zipIdx_cons,List.foldl_cons]
  rw[foldl_set off r (i+1) _ (by simp at hl ⊢;omega)]
  simp only[Array.toList_setIfInBounds]
  have:=list_seg_step cells.toList (off+i) v r (by simp at hl ⊢;omega)
  simpa [Nat.add_assoc]using this
theorem foldl_cells(off:Nat)(v cells:Array Value)(hl:off+v.size<=cells.size):
  (v.zipIdx.foldl (λcs (c,j)=>cs.setIfInBounds (off+j) c) cells).toList=splice cells.toList off v.toList:=by
 have:=foldl_set off v.toList 0 cells (by simpa using hl)
 simp only[Nat.add_zero]at this
 rw[<-Array.foldl_toList,Array.toList_zipIdx]
 exact this
theorem splice_rel{cs us xs vs:List Value}{o:Nat}(hc:All2 (VR0 A φ) cs us)(hx:All2 (VR0 A φ) xs vs):All2 (VR0 A φ) (splice cs o xs) (splice us o vs):=by
 unfold splice
 rw[hx.length]
 exact((hc.take o).append hx).append (hc.drop _)
theorem length_splice'{cs xs:List Value}{o:Nat}(hl:o+xs.length<=cs.length):(splice cs o xs).length=cs.length:=by simp[splice];omega
/-- Parts, side by side: places and numbers. -/
def PartsR(A:Seat)(φ:Phi)(place:Nat->Option (Nat×Nat)):List (Nat×Value)->List (Nat×Value)->Prop:=
 All2 λp q=>(∃off n,place q.1=some (off,n)∧p.1=1000*off+n∧n<1000)∧VR A φ p.2 q.2
theorem fill_sim{place:Nat->Option (Nat×Nat)}:∀{ps qs:List (Nat×Value)} {cs out:List Value} {cells:Array Value},PartsR A φ place ps qs->All2 (VR0 A φ) cs cells.toList->
  fillC ps cs=some out->∃res,Instr.fill place cells qs=some res∧All2 (VR0 A φ) out res.toList
 |[],[],cs,out,cells,_,hc,hf=>by
  simp[fillC]at hf;subst hf
  exact⟨cells,by simp[Instr.fill],hc⟩
 |(p,v)::ps,(i,u)::qs,cs,out,cells,hp,hc,hf=>by
  obtain⟨⟨⟨off,n,hpl,hpe,hn⟩,hv⟩,hrest⟩:=hp
  simp only at hpl hpe hv
  unfold fillC at hf
  cases hco:cellsOf v with
  |none=>simp[hco]at hf
  |some xs=>
   simp only[hco]at hf
   split at hf
   ·rename_i hcond
    have e1:p%1000=n:=by omega
    have e2:p/1000=off:=by omega
    rw[e1,e2]at hcond
    rw[e2]at hf
    have hx:=cellsOf_rel hco hv
    have hlen:=hx.length
    have hcl:=hc.length
    simp only[Array.length_toList]at hlen hcl
    have hsp:=foldl_cells off u.cells cells (by omega)
    have hrel:All2 (VR0 A φ) (splice cs off xs) (u.cells.zipIdx.foldl (λcs (c,j)=>cs.setIfInBounds (off+j) c) cells).toList:=by
     rw[hsp];exact splice_rel hc hx
    obtain⟨res,hres,hr⟩:=fill_sim hrest hrel hf
    refine⟨res,?_,hr⟩
    simp only[Instr.fill,hpl]
    rw[if_neg (by simp;omega)]
    exact hres
   ·simp at hf
theorem mapM_places{fs:List Field}(hall:fs.all λf=>(sizeT A f.type).isSome):
  ∃places,fs.mapM (λf=>(A.P.info? f.type).map λi=>(f.offset,i.size))=some places∧∀(i:Nat) (f:Field) (n:Nat),fs[i]?=some f->sizeT A f.type=some n->places[i]?=some (f.offset,n):=by
 induction fs with
 |nil=>exact⟨[],by simp,by simp⟩
 |cons f fs ih=>
  simp only[List.all_cons,Bool.and_eq_true]at hall
  obtain⟨n,hn⟩:=Option.isSome_iff_exists.1 hall.1
  obtain⟨i0,hi,rfl⟩:=sizeT_info hn
  obtain⟨pl,hpl,hg⟩:=ih hall.2
  refine⟨(f.offset,i0.size)::pl,by simp[List.mapM_cons,hi,hpl],?_⟩
  intro i g m hgi hm
  cases i with
  |zero=>
   simp at hgi;subst hgi
   rw[hn]at hm;injection hm with hm;subst hm
   simp
  |succ i=>simpa using hg i g m (by simpa using hgi) hm
theorem op_build_struct{t:TypeId}{fs:Array Field}{z:Array Value}{ps qs:List (Nat×Value)}{v:Value}(H:HeapR A φ h w base)(hu:A.P.underlying t=some (.struct fs))(hz:zeroT A t=some (.agg z))
  (hall:fs.toList.all λf=>(sizeT A f.type).isSome)
  (hps:All2 (λp q=>(∃f n,fs[q.1]?=some f∧sizeT A f.type=some n∧n<1000∧p.1=1000*f.offset+n)∧VR A φ p.2 q.2) ps qs) (ha:aBuild ((0,.agg z)::ps)=some v):
  SimV A φ h w base v h (Instr.build t qs.toArray):=by
 unfold aBuild at ha
 cases hf:fillC ps z.toList with
 |none=>simp[hf]at ha
 |some out=>
  simp[hf]at ha;subst ha
  unfold zeroT at hz
  cases hi:A.P.info? t with
  |none=>simp[hi]at hz
  |some i=>
   cases h0:i.zero with
   |none=>simp[hi,h0]at hz
   |some u0=>
    simp[hi,h0]at hz
    obtain⟨us,rfl,hus⟩:=VR.agg_inv (cv_rel (A:=A) (φ:=φ) hz)
    obtain⟨places,hpl,hpg⟩:=mapM_places hall
    have hP:PartsR A φ (λi=>places[i]?) ps qs:=by
     refine hps.mono ?_
     rintro p q⟨⟨f,n,h1,h2,h3,h4⟩,hv⟩
     exact⟨⟨f.offset,n,hpg _ f n (by simpa using h1) h2,h4,h3⟩,hv⟩
    obtain⟨res,hres,hr⟩:=fill_sim hP hus hf
    refine SimV.pure H (run_build w t qs.toArray res ?_) ⟨res,rfl,by simpa using hr⟩
    unfold Program.built
    simp only[hi,hu,h0,hpl,Value.cells]
    simpa using hres
theorem op_build_array{t e:TypeId}{k n:Nat}{z:Array Value}{ps qs:List (Nat×Value)}{v:Value}(H:HeapR A φ h w base)(hu:A.P.underlying t=some (.array k e))(hz:zeroT A t=some (.agg z))
  (hn:sizeT A e=some n) (hn':n<1000) (hps:All2 (λp q=>p.1=1000*(q.1*n)+n∧VR A φ p.2 q.2) ps qs) (ha:aBuild ((0,.agg z)::ps)=some v):
  SimV A φ h w base v h (Instr.build t qs.toArray):=by
 unfold aBuild at ha
 cases hf:fillC ps z.toList with
 |none=>simp[hf]at ha
 |some out=>
  simp[hf]at ha;subst ha
  unfold zeroT at hz
  cases hi:A.P.info? t with
  |none=>simp[hi]at hz
  |some i=>
   cases h0:i.zero with
   |none=>simp[hi,h0]at hz
   |some u0=>
    simp[hi,h0]at hz
    obtain⟨us,rfl,hus⟩:=VR.agg_inv (cv_rel (A:=A) (φ:=φ) hz)
    obtain⟨ie,hie,hsz⟩:=sizeT_info hn
    have hP:PartsR A φ (λi=>some (i*ie.size,ie.size)) ps qs:=by
     refine hps.mono ?_
     rintro p q⟨h1,hv⟩
     exact⟨⟨q.1*n,n,by rw[hsz],h1,hn'⟩,hv⟩
    obtain⟨res,hres,hr⟩:=fill_sim hP hus hf
    refine SimV.pure H (run_build w t qs.toArray res ?_) ⟨res,rfl,by simpa using hr⟩
    unfold Program.built
    simp only[hi,hu,h0,hie,Value.cells]
    simpa using hres
/-! ### rows of zero values -/
theorem flatten_get{α:Type}{c:List α}(hc:0<c.length):∀(n i:Nat),i<n*c.length->(List.replicate n c).flatten[i]?=c[i%c.length]?
 |0,i,hi=>by simp at hi
 |n+1,i,hi=>by
  rw[List.replicate_succ,List.flatten_cons]
  by_cases h1:i<c.length
  ·rw[List.getElem?_append_left h1,Nat.mod_eq_of_lt h1]
  ·have hm:(n+1)*c.length=n*c.length+c.length:=Nat.succ_mul n c.length
   rw[List.getElem?_append_right (by omega),flatten_get hc n (i-c.length) (by omega)]
   rw[<-Nat.mod_eq_sub_mod (show i>=c.length by omega)]
theorem reps_length(n:Nat)(c:List Value):(reps n c).length=n*c.length:=by simp[reps]
theorem reps_rel{n:Nat}{c:List Value}{us:Array Value}{m:Nat}(hc:All2 (VR0 A φ) c us.toList)(hpos:0<c.length)(hm:n*c.length<=m):
  All2 (VR0 A φ) (reps n c) (((Array.range m).map (us[·%us.size]!)).toList.take (n*c.length)):=by
 have hl:=hc.length
 simp only[Array.length_toList]at hl
 refine All2.of_get (by simp[reps];omega) λi a b ha hb=>?_
 have hi:i<n*c.length:=by have:=(List.getElem?_eq_some_iff.1 ha).1;rwa [reps_length]at this
 have h1:c[i%c.length]?=some a:=by rw[<-flatten_get hpos n i hi];exact ha
 obtain⟨u,hu,hr⟩:=hc.get _ _ h1
 rw[List.getElem?_take_of_lt hi]at hb
 have hmod:i%us.size<us.size:=Nat.mod_lt _ (by omega)
 have hb':b=us[i%us.size]!:=by
  have:i<m:=by omega
  simp[this]at hb
  exact hb.symm
 rw[hl]at hu
 have:us[i%us.size]! =u:=by
  rw[getElem!_pos us _ hmod]
  have h2:us.toList[i%us.size]?=some us[i%us.size]:=by simp[hmod]
  rw[h2]at hu;injection hu
 rw[hb',this]
 exact hr
theorem op_make{t e:TypeId}{z:Nat}{c:List Value}{x y u1 u2 v:Value}{h':Heap}(H:HeapR A φ h w base)(hb:base<=w.heap.size)(hφ:φ h.length=none)(hu:A.P.underlying t=some (.slice e))
  (hz:sizeT A e=some z) (hc:zeroCellsT A e=some c) (hpos:0<z) (hcz:c.length=z) (hby:(A.P.info? e).map (decide<|·.bytes<=4096)=some true)
  (hx:VR A φ x u1) (hy:VR A φ y u2) (ha:aMake z h x y (.agg c.toArray)=some (v,h')):SimV A φ h w base v h' (Instr.makeSlice t u1 u2):=by
 unfold aMake at ha
 split at ha
 ·rename_i l cp e' heq
  injection heq with heq
  subst heq
  split at ha
  ·rename_i hcond
   injection ha with ha
   injection ha with h1 h2
   subst h1;subst h2
   have hx':=VR.int_inv hx
   have hy':=VR.int_inv hy
   subst hx';subst hy'
   obtain⟨i,u0,hi,h0,hrel⟩:=zeroCellsT_run (φ:=φ) hc
   obtain⟨i',hi',hsz⟩:=sizeT_info hz
   rw[hi]at hi';injection hi' with hi';subst hi'
   have hbytes:i.bytes<=4096:=by simpa [hi]using hby
   obtain⟨hl0,hlc,hcm,hes⟩:=hcond
   simp only[maxSize]at hcm
   have hcm':cp<=1073741824:=hcm
   have hbb:(i.bytes:Int)*cp<=281474976710656:=by
    have h1:(i.bytes:Int)<=4096:=by omega
    have:(i.bytes:Int)*cp<=4096*cp:=Int.mul_le_mul_of_nonneg_right h1 (by omega)
    omega
   have hrun:=run_make (P:=A.P) w t e i u0 hu hi h0 .i64 .i64 l cp hl0 hlc hbb (by omega)
   have hus:u0.cells.size=z:=by have:=hrel.length;simp at this;omega
   have hle:l.toNat*z<=cp.toNat*i.size:=by rw[hsz];exact Nat.mul_le_mul_right _ (by omega)
   have hmade:(madeCells u0.cells (cp.toNat*i.size))=(Array.range (cp.toNat*i.size)).map (u0.cells[·%u0.cells.size]!):=rfl
   have hR:All2 (VR0 A φ) (reps l.toNat c) ((madeCells u0.cells (cp.toNat*i.size)).toList.take (l.toNat*c.length)):=by
    rw[hmade];exact reps_rel hrel (by omega) (by rw[hcz];exact hle)
   have hS:=alloc_sim (w':=w.alloc (.cells (madeCells u0.cells (cp.toNat*i.size)) e)) (cs:=reps l.toNat c) (ty:=e) (lo:=0) (hi:=0) false (by omega) H hb hφ hR
    (λj v hv=>by
     have hj:j<l.toNat*c.length:=by have:=(List.getElem?_eq_some_iff.1 hv).1;simp at this;omega
     rw[List.getElem?_take_of_lt hj]at hv
     simpa using hv) (by simp) (λg hg=>heap_alloc_old w _ g hg) (heap_alloc_new w _) (λi _=>by omega) rfl rfl rfl
   have hpos0:h.length≠0:=by have:=H.pos;omega
   refine⟨_,_,_,hrun,⟨rfl,_,_,rfl,by omega,λe0=>absurd e0 hpos0,λ_=>⟨_,Phi.put_same _ _ _,.inr ⟨rfl,?_,?_⟩⟩,⟨λe=>(by cases e),λe=>absurd e.1 hpos0⟩⟩,by simpa using hS.1,by simpa using hS.2⟩
   ·simp[size_madeCells,hsz]
   ·intro e;cases e
  ·simp at ha
 ·simp at ha
theorem op_buildSlice{t e:TypeId}{z n:Nat}{c:List Value}{ps qs:List (Nat×Value)}{v:Value}{h':Heap}(H:HeapR A φ h w base)(hb:base<=w.heap.size)(hφ:φ h.length=none)(hu:A.P.underlying t=some (.slice e))
  (hz:sizeT A e=some z) (hc:zeroCellsT A e=some c) (hpos:0<z) (hcz:c.length=z) (hnz:n*z<=65536) (hn0:n≠0) (hz':z<1000)
  (hps:All2 (λp q=>p.1=1000*(q.1*z)+z∧VR A φ p.2 q.2) ps qs) (ha:aBuildSlice z n h ((0,.agg (reps n c).toArray)::ps)=some (v,h')):
  SimV A φ h w base v h' (Instr.buildSlice t n qs.toArray):=by
 unfold aBuildSlice at ha
 have hsz0:(reps n c).toArray.size=n*z:=by simp[reps_length,hcz]
 simp only[hsz0,if_true]at ha
 cases hf:fillC ps (reps n c)with
 |none=>simp[hf]at ha
 |some out=>
  simp only[hf,Option.map_some]at ha
  injection ha with ha
  injection ha with h1 h2
  subst h1;subst h2
  obtain⟨i,u0,hi,h0,hrel⟩:=zeroCellsT_run (φ:=φ) hc
  have hus:u0.cells.size=z:=by have:=hrel.length;simp at this;omega
  have hR:=reps_rel (n:=n) (m:=n*z) hrel (by omega) (by rw[hcz];exact Nat.le_refl _)
  have htk:(((Array.range (n*z)).map (u0.cells[·%u0.cells.size]!)).toList.take (n*c.length))=((Array.range (n*z)).map (u0.cells[·%u0.cells.size]!)).toList:=by
   apply List.take_of_length_le;simp[hcz]
  rw[htk]at hR
  have hP:PartsR A φ (λi=>some (i*z,z)) ps qs:=by
   refine hps.mono ?_
   rintro p q⟨h1,hv⟩
   exact⟨⟨q.1*z,z,rfl,h1,hz'⟩,hv⟩
  obtain⟨res,hres,hr⟩:=fill_sim hP hR hf
  obtain⟨hrun,hH,hE⟩:=newRow_sim (e:=e) H hb hφ hr
  have hpos0:h.length≠0:=by have:=H.pos;omega
  have hzv:(zeroValue e).run A.P w=.ok u0 w:=by simp[zeroValue,typeInfo,hi,h0]
  have hnz0:¬n*z=0:=by
   intro e0
   rcases Nat.mul_eq_zero.1 e0 with e0|e0<;>omega
  refine⟨.slice (some ⟨w.heap.size,0,none⟩) n n,_,_,?_,⟨rfl,_,_,rfl,Nat.le_refl _,λe0=>absurd e0 hpos0,λ_=>⟨_,Phi.put_same _ _ _,.inr ⟨rfl,?_,?_⟩⟩,⟨λe=>(by cases e),λe=>absurd e.1 hpos0⟩⟩,hH,hE⟩
  ·have hbig:¬(16777216<n*z):=by omega
   simp only[Instr.buildSlice,Sem.run_bind,run_underlying hu,Result.andThen_ok,run_sizeOf hz]
   simp[hbig,hnz0,hzv,hres,hrun]
  ·have hlen:res.size=n*z:=by
    have e1:=hr.length
    have e2:out.length=n*z:=by
     have:∀(ps:List (Nat×Value)) (cs out:List Value),fillC ps cs=some out->out.length=cs.length:=by
      intro ps
      induction ps with
      |nil=>intro cs out hf;simp[fillC]at hf;subst hf;rfl
      |cons p ps ih=>
       intro cs out hf
       obtain⟨p,v⟩:=p
       unfold fillC at hf
       split at hf
       ·split at hf
        ·rename_i hcond
         rw[ih _ _ hf,length_splice' hcond.2]
        ·simp at hf
       ·simp at hf
     rw[this _ _ _ hf,reps_length,hcz]
    simp at e1;omega
   simp[hlen]
  ·intro e;cases e
end
end Am

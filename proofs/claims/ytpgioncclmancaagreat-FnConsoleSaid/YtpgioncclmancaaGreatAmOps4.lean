/- The plain operations, fourth part: slices, and the builtins. -/
import Derived.Test.YtpgioncclmancaaGreatAmOps3
import Derived.Lib.Strings
set_option linter.unusedVariables false
set_option linter.unusedSimpArgs false
namespace Am
open Go
section
variable {A : Seat} {φ : Phi} {h : Heap} {w : World} {base : Nat}
/-- An operand that may be missing. -/
def OptR(A:Seat)(φ:Phi):Option Value->Option Value->Prop
 |none,none=>True
 |some x,some u=>VR A φ x u
 |_,_=>False
theorem bound_cases{d l:Nat}{lo ulo:Option Value}(hlo:OptR A φ lo ulo)(hb:bound d lo=some l):(ulo=none∧l=d)∨∃k n,ulo=some (.int k n)∧0<=n∧n.toNat=l:=by
 cases lo with
 |none=>
  cases ulo with
  |none=>simp[bound]at hb;exact .inl ⟨rfl,hb.symm⟩
  |some u=>exact hlo.elim
 |some x=>
  cases ulo with
  |none=>exact hlo.elim
  |some u=>
   unfold bound at hb
   split at hb
   ·rename_i hh;cases hh
   ·rename_i k n hh
    injection hh with hh;subst hh
    split at hb
    ·rename_i h0
     injection hb with hb
     have e:=VR.int_inv (show VR A φ _ u from hlo);subst e
     exact .inr ⟨k,n,rfl,h0,hb⟩
    ·simp at hb
   ·simp at hb
theorem sliceBound_run{k:IntKind}{n:Int}{l y:Nat}(h0:0<=n)(hn:n.toNat=l)(hl:l<=y)(code:BoundsCode)(P:Program)(w:World):(Instr.sliceBound (.int k n) y code).run P w=.ok l w:=by
 have:n<=(y:Int):=by omega
 simp[Instr.sliceBound,asIntOf,h0,this,hn]
theorem sliceBounds_run{lo hi ulo uhi:Option Value}{l e len cap:Nat}(isSlice:Bool)(hlo:OptR A φ lo ulo)(hhi:OptR A φ hi uhi)(hl:bound 0 lo=some l)(he:bound len hi=some e)(hle:l<=e)(hec:e<=cap)(P:Program)(w:World):
  (Instr.sliceBounds isSlice len cap ulo uhi none).run P w=.ok (l,e,cap) w:=by
 rcases bound_cases hlo hl with⟨rfl,rfl⟩|⟨k,n,rfl,h0,hn⟩<;>rcases bound_cases hhi he with⟨rfl,rfl⟩|⟨k',n',rfl,h0',hn'⟩
 ·simp[Instr.sliceBounds]
 ·simp[Instr.sliceBounds,sliceBound_run h0' hn' hec]
 ·simp[Instr.sliceBounds,sliceBound_run h0 hn hle]
 ·simp[Instr.sliceBounds,sliceBound_run h0' hn' hec,sliceBound_run h0 hn hle]
theorem op_slice_text{t:TypeId}{x u v:Value}{lo hi mx ulo uhi umx:Option Value}{h':Heap}(H:HeapR A φ h w base)(hu:A.P.underlying t=some .string)(hx:VR A φ x u)(hlo:OptR A φ lo ulo)(hhi:OptR A φ hi uhi)(hmx:OptR A φ mx umx)
  (ha:aSlice 0 h x lo hi mx=some (v,h')):SimV A φ h w base v h' (Instr.sliceAt t u ulo uhi umx):=by
 unfold aSlice at ha
 simp only[if_true]at ha
 split at ha
 ·rename_i s
  split at ha
  ·rename_i l e hl he
   split at ha
   ·rename_i hc
    injection ha with ha;injection ha with e1 e2;subst e1;subst e2
    have es:=VR.string_inv hx;subst es
    cases umx with
    |some _=>exact hmx.elim
    |none=>
     refine SimV.pure H (u:=.string (s.extract l e)) ?_ ?_
     ·simp[Instr.sliceAt,run_underlying hu,Instr.slice,sliceBounds_run (A:=A) (φ:=φ) false hlo hhi hl he hc.1 hc.2]
     ·show Value.string _=Value.string _
      rw[Lib.extract_eq]
      congr 2
      rw[List.drop_take]
   ·simp at ha
  ·simp at ha
 ·simp at ha
theorem op_slice_slice{t e:TypeId}{z:Nat}{x u v:Value}{lo hi mx ulo uhi umx:Option Value}{h':Heap}(H:HeapR A φ h w base)(hu:A.P.underlying t=some (.slice e))(hs:sizeT A e=some z)(hz:z<1000)
  (hx:VR A φ x u) (hlo:OptR A φ lo ulo) (hhi:OptR A φ hi uhi) (hmx:OptR A φ mx umx) (ha:aSlice (2*z+1) h x lo hi mx=some (v,h')):SimV A φ h w base v h' (Instr.sliceAt t u ulo uhi umx):=by
 unfold aSlice at ha
 rw[if_neg (by omega),if_pos (by omega)]at ha
 split at ha
 ·rename_i a n y
  split at ha
  ·rename_i l ee hl he
   split at ha
   ·rename_i hc
    obtain⟨hle,hen,hzy⟩:=hc
    obtain⟨hsp,X,c,rfl,hnc,h0,h1,hnil⟩:=VR.slice_inv hx
    have hz2:(2*z+1)/2=z:=by omega
    rw[hz2]at hzy
    split at ha
    ·injection ha with ha;injection ha with e1 e2;subst e1;subst e2
     cases umx with
     |some _=>exact hmx.elim
     |none=>
      refine SimV.pure H (u:=.slice (if c=l then X else X.map (·.add (l*z))) (ee-l) (c-l)) ?_ ⟨rfl,_,_,rfl,by omega,λhb=>by have:=h0 hb;omega,λhb=>?_,(by
       rw[<-hnil]
       split
       ·exact Iff.rfl
       ·cases X<;>simp)⟩
      ·simp[Instr.sliceAt,run_underlying hu,Instr.slice,sliceBounds_run (A:=A) (φ:=φ) true hlo hhi hl he hle (by omega:ee<=c),run_sizeOf hs]
      ·obtain⟨lc,hlc,hcl⟩:=h1 hb
       refine⟨lc,hlc,?_⟩
       by_cases hcl0:c=l
       ·exact .inl (by omega)
       ·rcases hcl with hc0|⟨rfl,hfit,hstr⟩
        ·omega
        ·have hyz:y=z:=by
          rcases hzy with h'|h'
          ·exact h'
          ·exact absurd h' hb
         subst hyz
         refine .inr ⟨?_,?_,hstr⟩
         ·rw[if_neg hcl0]
          simp[Addr.add_lit,Nat.add_assoc]
         ·have:l*y+(c-l)*y=c*y:=by rw[<-Nat.add_mul];congr 1;omega
          simp only;omega
    ·rename_i m
     split at ha
     ·rename_i hc2
      injection ha with ha;injection ha with e1 e2;subst e1;subst e2
      obtain⟨hm,rfl,rfl,hsome,hyb⟩:=hc2
      cases umx with
      |none=>exact hmx.elim
      |some um=>
       rcases bound_cases hmx hm with⟨hh,_⟩|⟨k,q,hh,hq0,hq⟩
       ·cases hh
       ·injection hh with hh;subst hh
        refine SimV.pure H (u:=.slice X 0 0) ?_ ⟨rfl,_,_,rfl,Nat.le_refl _,λ_=>rfl,λhb=>absurd rfl hb,⟨λe=>⟨rfl,(hnil.1 e).2⟩,λe=>hnil.2 ⟨hyb.resolve_left (λh=>h e.2),e.2⟩⟩⟩
        have hb1:∀code,(Instr.sliceBound (.int k q) c code).run A.P w=.ok 0 w:=λcode=>sliceBound_run hq0 hq (Nat.zero_le _) code A.P w
        rcases bound_cases hhi he with⟨rfl,hn0⟩|⟨k',q',rfl,hq0',hq'⟩
        ·cases hi with
         |none=>simp at hsome
         |some _=>exact hhi.elim
        ·have hb2:∀code,(Instr.sliceBound (.int k' q') 0 code).run A.P w=.ok 0 w:=λcode=>sliceBound_run hq0' hq' (Nat.le_refl _) code A.P w
         rcases bound_cases hlo hl with⟨rfl,_⟩|⟨k2,q2,rfl,hq02,hq2⟩
         ·simp[Instr.sliceAt,run_underlying hu,Instr.slice,Instr.sliceBounds,hb1,hb2,run_sizeOf hs]
         ·have hb3:∀code,(Instr.sliceBound (.int k2 q2) 0 code).run A.P w=.ok 0 w:=λcode=>sliceBound_run hq02 hq2 (Nat.le_refl _) code A.P w
          simp[Instr.sliceAt,run_underlying hu,Instr.slice,Instr.sliceBounds,hb1,hb2,hb3,run_sizeOf hs]
     ·simp at ha
   ·simp at ha
  ·simp at ha
 ·simp at ha
theorem op_slice_array{t e:TypeId}{n z c:Nat}{a:Addr}{u v:Value}{lo hi mx ulo uhi umx:Option Value}{h':Heap}(H:HeapR A φ h w base)(hu:A.P.underlying t=some (.array n e))(hs:sizeT A e=some z)(hcode:arrCode n z=some c)
  (hx:VR A φ (.pointer (some a)) u) (hlo:OptR A φ lo ulo) (hhi:OptR A φ hi uhi) (hmx:OptR A φ mx umx) (ha:aSlice c h (.pointer (some a)) lo hi mx=some (v,h')):SimV A φ h w base v h' (Instr.sliceAt t u ulo uhi umx):=by
 obtain⟨_,hz,e1,e2,e3⟩:=arrCode_eq hcode
 unfold aSlice at ha
 rw[if_neg (by omega),if_neg (by omega)]at ha
 rw[e1,e2]at ha
 split at ha
 ·rename_i a' heq
  injection heq with heq;injection heq with heq;subst heq
  split at ha
  ·rename_i l ee hl he
   split at ha
   ·rename_i hc
    obtain⟨rfl,hlt,hb0,hz1,hok⟩:=hc
    injection ha with ha;injection ha with e1 e2;subst e1;subst e2
    obtain⟨hsp,lc,hlc,rfl⟩:=VR.pointer_inv hx
    cases umx with
    |some _=>exact hmx.elim
    |none=>
     have hne:¬ee=l:=by omega
     refine SimV.pure H (u:=.slice (some ⟨lc.g,lc.o+(a.off+l*z),none⟩) (ee-l) (ee-l)) ?_ ⟨rfl,_,_,rfl,Nat.le_refl _,λhb=>absurd hb hb0,λ_=>⟨lc,hlc,.inr ⟨rfl,?_,λ_=>hz1⟩⟩,⟨λe=>(by cases e),λe=>absurd e.1 hb0⟩⟩
     ·simp only[Instr.sliceAt,Sem.run_bind,run_underlying hu,Result.andThen_ok,Instr.sureAddr,Sem.run_pure,sliceBounds_run (A:=A) (φ:=φ) false hlo hhi hl he (by omega:l<=ee) (Nat.le_refl _),run_sizeOf hs]
      simp[hne,Addr.add_lit,Nat.add_assoc]
     ·unfold arrOk at hok
      split at hok
      ·rename_i k hk
       simp at hok
       obtain⟨_,hin,_⟩:=H.row _ _ _ hlc hk hok.1
       have:l*z+(ee-l)*z=ee*z:=by rw[<-Nat.add_mul];congr 1;omega
       simp only;omega
      ·simp at hok
   ·simp at ha
  ·simp at ha
 ·simp at ha
/-! ### builtins -/
theorem op_len_text{t ty:TypeId}{x u v:Value}(H:HeapR A φ h w base)(hu:A.P.underlying t=some .string)(hx:VR A φ x u)(ha:aLen 0 x=some v):SimV A φ h w base v h (Builtin.len_ #[t] ty #[u]):=by
 unfold aLen at ha
 split at ha
 ·have e:=VR.string_inv hx;subst e
  split at ha
  ·injection ha with ha;subst ha
   exact SimV.pure H (by simp[Builtin.len_,run_underlying hu,goInt]) rfl
  ·simp at ha
 ·simp at ha
 ·simp at ha
theorem op_len_slice{t e ty:TypeId}{x u v:Value}(H:HeapR A φ h w base)(hu:A.P.underlying t=some (.slice e))(hx:VR A φ x u)(ha:aLen 1 x=some v):SimV A φ h w base v h (Builtin.len_ #[t] ty #[u]):=by
 unfold aLen at ha
 split at ha
 ·split at ha
  ·omega
  ·simp at ha
 ·obtain⟨_,X,c,rfl,_⟩:=VR.slice_inv hx
  simp only[if_true]at ha
  injection ha with ha;subst ha
  exact SimV.pure H (by simp[Builtin.len_,run_underlying hu,goInt]) rfl
 ·simp at ha
theorem op_max{ty:TypeId}{xs us:List Value}{ts:Array TypeId}{v:Value}(H:HeapR A φ h w base)(hx:All2 (VR A φ) xs us)(ha:aMax xs=some v):SimV A φ h w base v h (Builtin.max_ ts ty us.toArray):=by
 unfold aMax at ha
 split at ha
 ·rename_i k a k' b
  injection ha with ha;subst ha
  match us,hx with
  |[u1,u2],hx=>
   have e1:=VR.int_inv hx.1;have e2:=VR.int_inv hx.2.1
   subst e1;subst e2
   exact SimV.pure H (by simp[Builtin.max_,Builtin.max2]) rfl
 ·simp at ha
theorem op_min{ty:TypeId}{xs us:List Value}{ts:Array TypeId}{v:Value}(H:HeapR A φ h w base)(hx:All2 (VR A φ) xs us)(ha:aMin xs=some v):SimV A φ h w base v h (Builtin.min_ ts ty us.toArray):=by
 unfold aMin at ha
 split at ha
 ·rename_i k a k' b
  injection ha with ha;subst ha
  match us,hx with
  |[u1,u2],hx=>
   have e1:=VR.int_inv hx.1;have e2:=VR.int_inv hx.2.1
   subst e1;subst e2
   exact SimV.pure H (by simp[Builtin.min_,Builtin.min2]) rfl
 ·simp at ha
/-! ### append -/
theorem newCells_sim{z:Nat}{x u:Value}{new:List Value}(H:HeapR A φ h w base)(hz:0<z)(hx:VR A φ x u)(hn:newCells z h x=some new):
  ∃m us,(Builtin.lenOf u).run A.P w=.ok m w∧All2 (VR0 A φ) new us∧new.length=m*z∧
   ∀k,k<=m->(Builtin.firstCells z k u).run A.P w=.ok (us.take (k*z)).toArray w:=by
 unfold newCells at hn
 split at hn
 ·rename_i a n y
  obtain⟨hsp,X,c,rfl,hnc,h0,h1,-⟩:=VR.slice_inv hx
  split at hn
  ·rename_i hn0
   injection hn with hn;subst hn;subst hn0
   refine⟨0,[],by simp[Builtin.lenOf],trivial,by simp,λk hk=>?_⟩
   have:k=0:=by omega
   subst this
   cases X<;>simp[Builtin.firstCells,loadCells,loadCellsFrom]
  ·rename_i hn0
   have hb0:a.block≠0:=λe0=>by have:=h0 e0;omega
   obtain⟨lc,hl,hcl⟩:=h1 hb0
   rcases hcl with hc0|⟨rfl,_⟩
   ·omega
   ·obtain⟨hlen,us,hul,hr,hcell⟩:=cellsAt_sim H hl hn
    refine⟨n,us,by simp[Builtin.lenOf],hr,hlen,λk hk=>?_⟩
    have hkl:(us.take (k*z)).length=k*z:=by
     have:=Nat.mul_le_mul_right z hk
     simp;omega
    simp only[Builtin.firstCells]
    have:=run_loadCells_at (A:=A) (w:=w) (g:=lc.g) (o:=lc.o+a.off) (us:=us.take (k*z)) (λj q hq=>by
     have hj:j<k*z:=by have:=(List.getElem?_eq_some_iff.1 hq).1;omega
     rw[List.getElem?_take_of_lt hj]at hq
     exact hcell j q hq)
    rwa [hkl]at this
 ·rename_i s
  split at hn
  ·rename_i hz1
   injection hn with hn;subst hn;subst hz1
   have e:=VR.string_inv hx;subst e
   refine⟨s.size,(s.data.map λb=>(.int .u8 b.toNat:Value)).toList,by simp[Builtin.lenOf],?_,by simp,λk hk=>?_⟩
   ·refine All2.of_get (by simp) λi a b h1 h2=>?_
    simp at h1 h2
    obtain⟨c1,h3,rfl⟩:=h1
    obtain⟨c2,h4,rfl⟩:=h2
    rw[h3]at h4;injection h4 with h4;subst h4
    rfl
   ·simp only[Builtin.firstCells,Sem.run_pure,Nat.mul_one]
    congr 1
    apply Array.ext'
    simp only[Array.toList_map,<-List.map_take]
    congr 1
    rw[Lib.extract_data]
    simp
  ·simp at hn
 ·simp at hn
theorem append_room_run{P:Program}{t t1 e ty:TypeId}{z n m cap:Nat}{X:Option Addr}{ux:Value}{us:Array Value}{i:TypeInfo}(hu:P.underlying t=some (.slice e))(hi:P.info? e=some i)(hz:i.size=z)
  (hu1:(∃e1,P.underlying t1=some (.slice e1))∨P.underlying t1=some .string) (hm:(Builtin.lenOf ux).run P w=.ok m w) (hf:(Builtin.firstCells z m ux).run P w=.ok us w) (hroom:n+m<=cap):
  (Builtin.append_ #[t,t1] ty #[.slice X n cap,ux]).run P w=(match X with
   |some a=>(storeCells (a.add (n*z)) us.toList).run P w
   |none=>.ok () w).andThen λ_ w'=>.ok (.slice X (n+m) cap) w':=by
 subst hz
 rcases hu1 with⟨e1,h1⟩|h1<;>cases X<;>
  simp[Builtin.append_,run_underlying hu,run_underlying h1,Go.sizeOf,typeInfo,hi,hm,hf,hroom]
theorem append_grow_run{P:Program}{t t1 e ty:TypeId}{z n m cap:Nat}{X:Option Addr}{ux u0:Value}{us olds:Array Value}{i:TypeInfo}(hu:P.underlying t=some (.slice e))(hi:P.info? e=some i)(hz:i.size=z)(h0:i.zero=some u0)
  (hu1:(∃e1,P.underlying t1=some (.slice e1))∨P.underlying t1=some .string) (hm:(Builtin.lenOf ux).run P w=.ok m w) (hf:(Builtin.firstCells z m ux).run P w.drew=.ok us w.drew)
  (ho:(Builtin.firstCells z n (.slice X n cap)).run P w.drew=.ok olds w.drew) (hgrow:cap<n+m) (hsmall:n+m<=1073741824) (hby:i.bytes<=4096):
  (Builtin.append_ #[t,t1] ty #[.slice X n cap,ux]).run P w=.ok (.slice (some ⟨w.heap.size,0,none⟩) (n+m) (grownCap w (n+m) cap e))
    (w.drew.alloc (.cells (olds++us++Builtin.zeroCells u0.cells (grownCap w (n+m) cap e-(n+m))) e)):=by
 subst hz
 have hn:¬(n+m<=cap):=by omega
 have h63:¬(9223372036854775807<((n:Int)+(m:Int))):=by omega
 have hb:(n+m)*i.bytes<=140737488355328:=by
  have:=Nat.mul_le_mul hsmall hby
  omega
 have h48:¬(281474976710656<Builtin.nextslicecap (n+m) cap*i.bytes):=by
  have:=growslice_fits hgrow hb
  omega
 rcases hu1 with⟨e1,h1⟩|h1<;>
  simp[Builtin.append_,run_underlying hu,run_underlying h1,Go.sizeOf,typeInfo,zeroValue,hi,h0,hm,hf,ho,hn,h63,h48,Question.forced,newRow,grownCap]
theorem op_append{t t1 e ty:TypeId}{z:Nat}{c:List Value}{s x us ux v:Value}{h':Heap}(H:HeapR A φ h w base)(hb:base<=w.heap.size)(hφ:h.length<h'.length->φ h.length=none)
  (hu:A.P.underlying t=some (.slice e)) (hz:sizeT A e=some z) (hc:zeroCellsT A e=some c) (hcz:c.length=z) (hby:(A.P.info? e).map (decide<|·.bytes<=4096)=some true)
  (hu1:(∃e1,A.P.underlying t1=some (.slice e1))∨A.P.underlying t1=some .string) (hs:VR A φ s us) (hx:VR A φ x ux) (ha:aAppend z h x s=some (v,h')):
  SimV A φ h w base v h' (Builtin.append_ #[t,t1] ty #[us,ux]):=by
 unfold aAppend at ha
 split at ha
 ·rename_i a n y
  cases hn:newCells z h x with
  |none=>simp[hn]at ha
  |some new=>
   simp only[hn]at ha
   obtain⟨hsp,X,cp,rfl,hnc,h0,h1,-⟩:=VR.slice_inv hs
   obtain⟨i0,u0,hi,hz0,hzrel⟩:=zeroCellsT_run (φ:=φ) hc
   obtain⟨i1,hi1,hisz⟩:=sizeT_info hz
   rw[hi]at hi1;injection hi1 with hi1;subst hi1
   have hbytes:i0.bytes<=4096:=by simpa [hi]using hby
   have hu0:u0.cells.size=z:=by have:=hzrel.length;simp at this;omega
   by_cases hz00:z=0
   ·rw[if_pos hz00]at ha;simp at ha
   ·obtain⟨m,un,hm,hrel,hnl,hfirst⟩:=newCells_sim H (by omega) hx hn
    have Hd:HeapR A φ h w.drew base:=H.same_world rfl
    obtain⟨m',un',hm',hrel',hnl',hfirst'⟩:=newCells_sim Hd (by omega) hx hn
    have hmm:m'=m:=by
     have:m'*z=m*z:=by omega
     exact Nat.eq_of_mul_eq_mul_right (by omega) this
    subst hmm
    have hul:un.length=m'*z:=by have:=hrel.length;omega
    have hul':un'.length=m'*z:=by have:=hrel'.length;omega
    have hf:=hfirst m' (Nat.le_refl _)
    rw[List.take_of_length_le (by omega)]at hf
    have hf':=hfirst' m' (Nat.le_refl _)
    rw[List.take_of_length_le (by omega)]at hf'
    have hpos0:h.length≠0:=by have:=H.pos;omega
    rw[if_neg hz00]at ha
    by_cases hnil:new=[]
    ·rw[if_pos hnil]at ha
     injection ha with ha;injection ha with e1 e2;subst e1;subst e2
     subst hnil
     have hm0:m'=0:=by
      have:m'*z=0:=by simpa using hnl.symm
      rcases Nat.mul_eq_zero.1 this with h|h<;>omega
     subst hm0
     have hun:un=[]:=List.eq_nil_of_length_eq_zero (by omega)
     subst hun
     refine SimV.pure H (u:=.slice X n cp) ?_ hs
     rw[append_room_run hu hi hisz hu1 hm hf (by omega)]
     cases X<;>simp[storeCells]
    ·rw[if_neg hnil]at ha
     split at ha
     ·simp at ha
     ·rename_i hcond
      have hsmall:n+new.length<=1073741824:=by simp only[maxSize]at hcond;omega
      have hmle:m'<=new.length:=by rw[hnl];exact Nat.le_mul_of_pos_right _ (by omega)
      have hdiv:new.length/z=m':=by rw[hnl];exact Nat.mul_div_cancel _ (by omega)
      have hm0:0<m':=by
       rcases Nat.eq_zero_or_pos m' with e0|e0
       ·subst e0
        have:new=[]:=List.eq_nil_of_length_eq_zero (by omega)
        exact absurd this hnil
       ·exact e0
      -- the new row
      have grow:∀(h2:Heap) (olds:List Value) (uo:List Value),HeapR A φ h2 w base->h2.length=h.length->(∀(b:Nat) (k k':Blk),h[b]?=some k->h2[b]?=some k'->k'.rw=true->k.rw=true)->φ h.length=none->olds.length=n*z->All2 (VR0 A φ) olds uo->
        (Builtin.firstCells z n (.slice X n cp)).run A.P w.drew=.ok uo.toArray w.drew->cp<n+m'->Ext w.heap.size φ h w φ h2 w->
        SimV A φ h w base (sl h.length 0 (n+m') z) (h2++[⟨olds++new,true⟩]) (Builtin.append_ #[t,t1] ty #[.slice X n cp,ux]):=by
       intro h2 olds uo H2 hlen2 hmode hnone hol holr hfo hlt hE2
       have hrun:=append_grow_run (X:=X) (ty:=ty) hu hi hisz hz0 hu1 hm hf' hfo hlt (by omega) hbytes
       have huol:=holr.length
       have hge:=grownCap_ge w (n+m') cp e
       have hR:All2 (VR0 A φ) (olds++new) (uo++un'):=holr.append hrel'
       have hcsz:(uo.toArray++un'.toArray++Builtin.zeroCells u0.cells (grownCap w (n+m') cp e-(n+m'))).size=grownCap w (n+m') cp e*z:=by
        simp only[Array.size_append,List.size_toArray,size_zeroCells,hu0,hul',<-huol,hol,<-Nat.add_mul]
        congr 1;omega
       have hS:=alloc_sim (w':=w.drew.alloc (.cells (uo.toArray++un'.toArray++Builtin.zeroCells u0.cells (grownCap w (n+m') cp e-(n+m'))) e)) (ty:=e) (lo:=0) (hi:=0) false (by omega) H2 hb (by rw[hlen2];exact hnone) hR
        (λj q hq=>by
         have hj:j<(uo++un').length:=(List.getElem?_eq_some_iff.1 hq).1
         rw[Array.getElem?_append_left (by simpa using hj)]
         simpa [List.getElem?_append]using hq) (by simp) (λg hg=>heap_alloc_old w.drew _ g hg) (heap_alloc_new w.drew _) (λi _=>by omega) rfl rfl rfl
       rw[hlen2]at hS
       refine⟨_,_,_,hrun,⟨rfl,_,_,rfl,hge,λe0=>absurd e0 hpos0,λ_=>⟨_,Phi.put_same _ _ _,.inr ⟨rfl,?_,?_⟩⟩,⟨λe=>(by cases e),λe=>absurd e.1 hpos0⟩⟩,hS.1,Ext.trans (Nat.le_refl _) hE2 hS.2⟩
       ·simp only[hcsz];omega
       ·intro e;cases e
      split at ha
      ·rename_i hb0
       injection ha with ha;injection ha with e1 e2;subst e1;subst e2
       have hcp:=h0 hb0
       subst hcp
       have hn0:n=0:=by omega
       subst hn0
       have hnone:φ h.length=none:=hφ (by simp)
       rw[hdiv]
       have:=grow h [] [] H rfl (λb k k' h1 h2 h3=>by rw[h1]at h2;injection h2 with h2;subst h2;exact h3) hnone (by simp) trivial (by cases X<;>simp[Builtin.firstCells,loadCells,loadCellsFrom]) (by omega) (Ext.refl _ _ _ _)
       simpa using this
      ·rename_i hb0
       cases hk:h[a.block]? with
       |none=>simp[hk]at ha
       |some k=>
        simp only[hk]at ha
        split at ha
        ·rename_i hky
         obtain⟨hkrw,rfl⟩:=hky
         cases hco:cellsAt h a.block a.off (n*y)with
         |none=>simp[hco]at ha
         |some old=>
          simp only[hco]at ha
          injection ha with ha;injection ha with e1 e2;subst e1;subst e2
          have hnone:φ h.length=none:=hφ (by simp)
          obtain⟨lc,hl,hcl⟩:=h1 hb0
          rw[hdiv]
          have hoa:old.length=n*y∧∀(i:Nat) (v:Value),old[i]?=some v->k.cells[a.off+i]?=some v:=by
           unfold cellsAt at hco
           simp only[hk]at hco
           split at hco
           ·injection hco with hco;subst hco
            refine⟨by simp;omega,λi v hv=>?_⟩
            have hi:i<n*y:=by have:=(List.getElem?_eq_some_iff.1 hv).1;simp at this;omega
            rw[List.getElem?_take_of_lt hi,List.getElem?_drop]at hv
            exact hv
           ·simp at hco
          by_cases hroom:n+m'<=cp
          ·rcases hcl with hc0|⟨rfl,hfit,hstr⟩
           ·omega
           ·obtain⟨hbase,hin,cur,ty',lo,hi',hg,hcs,hfz⟩:=H.row _ _ _ hl hk hkrw
            have hmul:(n+m')*y<=cp*y:=Nat.mul_le_mul_right _ hroom
            have hadd:(n+m')*y=n*y+m'*y:=Nat.add_mul _ _ _
            have hst:=run_storeCells_marks (P:=A.P) lc.g (lc.o+a.off+n*y) ty' lo hi' un 0 cur w hg (by omega) (by rw[hcs];exact hfz.1) (list_all_one hrel)
            simp only[Nat.add_zero]at hst
            have hS:=adopt_sim (w':=w.setRow lc.g (cur.toList.take (lc.o+a.off+n*y)++un++cur.toList.drop (lc.o+a.off+n*y+un.length)).toArray) (o:=a.off) (old:=old) H hl hk hkrw hnone hoa.2 hrel (by have:=hoa.1;omega) (by simp)
             (λg hg'=>setRow_other w lc.g g _ hg') (λc t x y' hc'=>by
              have:=stored_row (us:=un) (p:=lc.o+a.off+n*y) hg (by omega) c t x y' hc'
              rw[hoa.1];exact this) rfl rfl rfl
            refine⟨.slice (some ⟨lc.g,lc.o+a.off,none⟩) (n+m') cp,_,_,?_,⟨rfl,_,_,rfl,hroom,λe0=>absurd e0 hpos0,λ_=>⟨_,Phi.put_same _ _ ⟨lc.g,lc.o+a.off,lc.size,lc.str⟩,.inr ⟨by simp,by simpa using hfit,hstr⟩⟩,⟨λe=>(by cases e),λe=>absurd e.1 hpos0⟩⟩,hS.1,hS.2⟩
            rw[append_room_run hu hi hisz hu1 hm hf hroom]
            simp[Addr.add_lit,hst]
          ·have Hk:=kill_sim (b:=a.block) H
           have hEk:=kill_ext (φ:=φ) (h:=h) (w:=w) (b:=a.block) (lo:=w.heap.size)
           have hold:∃uo,All2 (VR0 A φ) old uo∧(Builtin.firstCells y n (.slice X n cp)).run A.P w.drew=.ok uo.toArray w.drew:=by
            by_cases hn0:n=0
            ·subst hn0
             have:old=[]:=List.eq_nil_of_length_eq_zero (by rw[hoa.1];simp)
             subst this
             exact⟨[],trivial,by cases X<;>simp[Builtin.firstCells,loadCells,loadCellsFrom]⟩
            ·rcases hcl with hc0|⟨rfl,hfit,hstr⟩
             ·omega
             ·obtain⟨hlen,uo,huol,hr,hcell⟩:=cellsAt_sim Hd hl hco
              have hload:=run_loadCells_at (A:=A) (w:=w.drew) hcell
              rw[huol]at hload
              exact⟨uo,hr,by simpa [Builtin.firstCells]using hload⟩
           obtain⟨uo,hor,hfo⟩:=hold
           exact grow _ old uo Hk (by simp) hEk.mode hnone hoa.1 hor hfo (by omega) hEk
        ·simp at ha
 ·simp at ha
theorem op_copy{t t1 e ty:TypeId}{z:Nat}{s x us ux v:Value}{h':Heap}(H:HeapR A φ h w base)(hu:A.P.underlying t=some (.slice e))(hz:sizeT A e=some z)(hs:VR A φ s us)(hx:VR A φ x ux)(ha:aCopy z h x s=some (v,h')):
  SimV A φ h w base v h' (Builtin.copy_ #[t,t1] ty #[us,ux]):=by
 unfold aCopy at ha
 split at ha
 ·rename_i a n y
  cases hn:newCells z h x with
  |none=>simp[hn]at ha
  |some new=>
   simp only[hn]at ha
   split at ha
   ·simp at ha
   ·rename_i hz0
    obtain⟨hsp,X,cp,rfl,hnc,h0,h1,-⟩:=VR.slice_inv hs
    obtain⟨m,un,hm,hrel,hnl,hfirst⟩:=newCells_sim H (by omega) hx hn
    have hul:un.length=m*z:=by have:=hrel.length;omega
    have hf:=hfirst (Nat.min m n) (Nat.min_le_left _ _)
    split at ha
    ·rename_i hc
     injection ha with ha;injection ha with e1 e2;subst e1;subst e2
     have hmin:Nat.min m n=0:=by
      rcases hc with hc|hc
      ·have:n=0:=by rcases Nat.mul_eq_zero.1 hc with h|h<;>omega
       subst this;simp
      ·subst hc
       have:m*z=0:=by simpa using hnl.symm
       have:m=0:=by rcases Nat.mul_eq_zero.1 this with h|h<;>omega
       subst this;simp
     rw[hmin]at hf
     refine SimV.pure H (u:=.int .i64 0) ?_ rfl
     cases X<;>simp[Builtin.copy_,run_underlying hu,hmin,hf,hm,storeCells,goInt,run_sizeOf hz]
    ·rename_i hc
     cases hst:storeAt h a.block a.off (new.take (n*z))with
     |none=>simp[hst]at ha
     |some h2=>
      simp only[hst,Option.map_some]at ha
      injection ha with ha;injection ha with e1 e2;subst e1;subst e2
      have hn0:n≠0:=λe0=>hc (.inl (by simp[e0]))
      have hb0:a.block≠0:=λe0=>by have:=h0 e0;omega
      obtain⟨lc,hl,hcl⟩:=h1 hb0
      rcases hcl with hc0|⟨rfl,hfit,hstr⟩
      ·omega
      ·have htk:un.take (Nat.min m n*z)=un.take (n*z):=by
        rcases Nat.le_total m n with hle|hle
        ·rw[show Nat.min m n=m from Nat.min_eq_left hle,List.take_of_length_le (by omega),List.take_of_length_le (by have:=Nat.mul_le_mul_right z hle;omega)]
        ·rw[show Nat.min m n=n from Nat.min_eq_right hle]
       rw[htk]at hf
       obtain⟨w',hrun,hH,hE⟩:=storeCells_sim H hst hl (hrel.take (n*z))
       have hcount:(min (n*z) new.length/z:Nat)=Nat.min m n:=by
        rw[hnl]
        rcases Nat.le_total m n with hle|hle
        ·rw[Nat.min_eq_right (Nat.mul_le_mul_right z hle),Nat.mul_div_cancel _ (by omega)]
         exact(Nat.min_eq_left hle).symm
        ·rw[Nat.min_eq_left (Nat.mul_le_mul_right z hle),Nat.mul_div_cancel _ (by omega)]
         exact(Nat.min_eq_right hle).symm
       refine⟨.int .i64 (Nat.min m n:Nat),w',φ,?_,by rw[hcount];exact rfl,hH,hE⟩
       simp[Builtin.copy_,run_underlying hu,hm,run_sizeOf hz,hf,hrun,goInt]

 ·simp at ha
end
end Am

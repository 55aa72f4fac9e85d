/- The plain operations, third part: numbers, texts, addresses, parts. -/
import Derived.Test.YtpgioncclmancaaGreatAmOps2
import GoSem.Dispatch
set_option linter.unusedVariables false
set_option linter.unusedSimpArgs false
namespace Am
open Go
section
variable {A : Seat} {φ : Phi} {h : Heap} {w : World} {base : Nat}
/-! ### numbers, texts, bools -/
theorem dec_beq(a b:Int):(a==b)=decide (a=b):=by
 by_cases h:a=b<;>simp[h]
theorem dec_bne(a b:Int):(a !=b)=decide (a≠b):=by
 by_cases h:a=b<;>simp[h]
theorem aInt_run{o:BinOp}{k j:IntKind}{a b:Int}{v:Value}(t:TypeId)(x y:Operand)(ha:aInt o k a j b=some v)(w:World):
  (do eqGuard o t x y (.int k a) (.int j b);binOp o t (.int k a) (.int j b):Sem Value).run A.P w=.ok v w:=by
 rw[eqGuard_at_int]
 simp only[Sem.run_bind,Sem.run_pure,Result.andThen_ok]
 unfold aInt at ha
 cases o<;>simp only at ha<;>split at ha<;>first|(simp at ha;done)|skip
 all_goals (injection ha with ha;subst ha)
 all_goals (rename_i hc)
 all_goals first
  |(subst hc;simp[binOp,Op.intArith,Op.intCmp,dec_beq,dec_bne,Op.intBits,bitsOp];done)
  |(obtain⟨rfl,hb⟩:=hc;simp[binOp,Op.intDiv,hb];done)
  |(simp only[binOp,Op.shift];rw[if_neg (by omega)];rfl)
theorem bytesLess_eq:∀(a b:List UInt8),Op.bytesLess a b=lexLt a b
 |[],[]=>by simp[Op.bytesLess,lexLt]
 |_::_,[]=>by simp[Op.bytesLess,lexLt]
 |[],_::_=>by simp[Op.bytesLess,lexLt]
 |a::x,b::y=>by simp[Op.bytesLess,lexLt,bytesLess_eq x y]
theorem string_eta(s:ByteArray):(⟨s.data.toList.toArray⟩:ByteArray)=s:=by cases s;simp
theorem aStr_run{o:BinOp}{a b:ByteArray}{v:Value}(t:TypeId)(x y:Operand)(ha:aStr o a.data.toList b.data.toList=some v)(w:World):
  (do eqGuard o t x y (.string a) (.string b);binOp o t (.string a) (.string b):Sem Value).run A.P w=.ok v w:=by
 rw[eqGuard_at_string]
 simp only[Sem.run_bind,Sem.run_pure,Result.andThen_ok]
 have hl:a.toList=a.data.toList:=ByteArray.toList_eq a
 have hr:b.toList=b.data.toList:=ByteArray.toList_eq b
 have he:∀(p q:List UInt8),(p==q)=decide (p=q):=λp q=>by by_cases h:p=q<;>simp[h]
 unfold aStr at ha
 cases o<;>simp only at ha<;>first|(simp at ha;done)|skip
 case add=>
  split at ha
  ·rename_i hc
   injection ha with ha;subst ha
   have hs:a.size+b.size<=4611686018427387904:=by simpa using hc
   have:¬((a.size+b.size:Nat):Int)>IntKind.i64.max:=by rw[IntKind.max_i64];omega
   simp only[binOp,Op.stringOp,if_neg this,Sem.run_pure]
   congr 2
  ·exact absurd ha (by simp)
 all_goals (injection ha with ha;subst ha;simp[binOp,Op.stringOp,hl,hr,bytesLess_eq,he])
theorem aBool_run{o:BinOp}{a b:Bool}{v:Value}(t:TypeId)(x y:Operand)(ht:A.P.underlying t=some .bool)(ha:aBool o a b=some v)(w:World):
  (do eqGuard o t x y (.bool a) (.bool b);binOp o t (.bool a) (.bool b):Sem Value).run A.P w=.ok v w:=by
 rw[eqGuard_at_bool]
 simp only[Sem.run_bind,Sem.run_pure,Result.andThen_ok]
 unfold aBool at ha
 cases o<;>simp only at ha<;>first|(simp at ha;done)|skip
 all_goals (injection ha with ha;subst ha)
 ·simp[binOp,Op.equal,Op.maxDepth,run_equalIn_bool' w 9999 t a b ht]
 ·simp[binOp,Op.equal,Op.maxDepth,run_equalIn_bool' w 9999 t a b ht]
/-- What is to be shown of each struct type that '==' may meet. -/
def EqOk(A:Seat):Prop:=∀t,A.eqT.contains t=true->∀n,sizeT A t=some n->∀(xs ys:Array Value) (r:Bool),eqCells xs.toList ys.toList=some r->xs.size=n->
 (∀(o:BinOp) (x y:Operand) (w:World),(eqGuard o t x y (.agg xs) (.agg ys)).run A.P w=.ok () w)∧∀w:World,(Op.equal t (.agg xs) (.agg ys)).run A.P w=.ok r w
theorem eqCells_rel:∀{a b xs ys:List Value} {r:Bool},eqCells a b=some r->All2 (VR0 A φ) a xs->All2 (VR0 A φ) b ys->eqCells xs ys=some r
 |[],[],[],[],r,he,_,_=>he
 |x::a,y::b,u::xs,v::ys,r,he,hx,hy=>by
  have hu:=hx.1
  have hv:=hy.1
  unfold eqCells at he
  split at he
  ·rename_i hh _;cases hh
  ·rename_i k n a' j m b' h1 h2
   injection h1 with h1 h1';subst h1;subst h1'
   injection h2 with h2 h2';subst h2;subst h2'
   have e1:u=.int k n:=hu
   have e2:v=.int j m:=hv
   subst e1;subst e2
   split at he
   ·rename_i hkj
    cases hr:eqCells a b with
    |none=>simp[hr]at he
    |some q=>
     simp only[hr,Option.map_some]at he
     unfold eqCells
     rw[if_pos hkj,eqCells_rel hr hx.2 hy.2]
     exact he
   ·simp at he
  ·simp at he
 |[],_::_,_,_,r,he,_,_=>by simp[eqCells]at he
 |_::_,[],_,_,r,he,_,_=>by unfold eqCells at he;split at he<;>simp_all
theorem op_binOp{o:BinOp}{t:TypeId}{m:Nat}{x y u1 u2 v:Value}(ox oy:Operand)(hE:EqOk A)(H:HeapR A φ h w base)
  (hm:2<=m->A.eqT.contains t=true∧sizeT A t=some (m-2)) (hbt:m=1->A.P.underlying t=some .bool)
  (hx:VR A φ x u1) (hy:VR A φ y u2) (ha:aBin o m x y=some v):SimV A φ h w base v h (do eqGuard o t ox oy u1 u2;binOp o t u1 u2):=by
 unfold aBin at ha
 split at ha
 ·rename_i k a j b
  have e1:=VR.int_inv hx;have e2:=VR.int_inv hy
  subst e1;subst e2
  refine SimV.pure H (aInt_run t ox oy ha w) ?_
  unfold aInt at ha
  cases o<;>simp only at ha<;>split at ha<;>first|(simp at ha;done)|skip
  all_goals (injection ha with ha;subst ha;rfl)
 ·rename_i a b
  have e1:=VR.string_inv hx;have e2:=VR.string_inv hy
  subst e1;subst e2
  refine SimV.pure H (aStr_run t ox oy ha w) ?_
  unfold aStr at ha
  cases o<;>simp only at ha<;>first|(simp at ha;done)|skip
  case add=>
   split at ha
   ·injection ha with ha;subst ha;rfl
   ·simp at ha
  all_goals (injection ha with ha;subst ha;rfl)
 ·rename_i a b
  have e1:=VR.bool_inv hx;have e2:=VR.bool_inv hy
  subst e1;subst e2
  split at ha
  ·rename_i hm1
   refine SimV.pure H (aBool_run t ox oy (hbt hm1) ha w) ?_
   unfold aBool at ha
   cases o<;>simp only at ha<;>first|(simp at ha;done)|skip
   all_goals (injection ha with ha;subst ha;rfl)
  ·simp at ha
 ·rename_i a b
  obtain⟨xs,rfl,hxs⟩:=VR.agg_inv hx
  obtain⟨ys,rfl,hys⟩:=VR.agg_inv hy
  split at ha
  ·rename_i hm2
   obtain⟨hct,hsz⟩:=hm hm2
   unfold aAgg at ha
   cases o<;>simp only at ha<;>first|(simp at ha;done)|skip
   all_goals
    split at ha
    ·rename_i hlen
     cases hr:eqCells a.toList b.toList with
     |none=>simp[hr]at ha
     |some r=>
      simp only[hr,Option.map_some,Option.some.injEq]at ha
      subst ha
      obtain⟨hg,he⟩:=hE t hct (m-2) hsz xs ys r (eqCells_rel hr hxs hys) (by have:=hxs.length;simp at this hlen;omega)
      exact SimV.pure H (by simp[hg,binOp,he]) rfl
    ·simp at ha
  ·simp at ha
 ·simp at ha
theorem eqGuard_slice{o:BinOp}{t:TypeId}{ox oy:Operand}{X Y:Option Addr}{n c m d:Nat}{P:Program}{w:World}:(eqGuard o t ox oy (.slice X n c) (.slice Y m d)).run P w=.ok () w:=by
 unfold eqGuard
 cases o<;>simp
theorem run_equalIn_nil{P:Program}(w:World)(d:Nat){t e:TypeId}{X:Option Addr}{n c m c':Nat}(ht:P.underlying t=some (.slice e)):(Op.equalIn (d+1) t (.slice X n c) (.slice none m c')).run P w=.ok X.isNone w:=by
 cases X<;>simp[Op.equalIn,run_underlying ht]
theorem op_binNil{o:BinOp}{t e:TypeId}{x y u1 u2 v:Value}(ox oy:Operand)(H:HeapR A φ h w base)(ht:A.P.underlying t=some (.slice e))
  (hx:VR A φ x u1) (hy:VR A φ y u2) (ha:aNil o x y=some v):SimV A φ h w base v h (do eqGuard o t ox oy u1 u2;binOp o t u1 u2):=by
 unfold aNil at ha
 have key:∀(a b:Addr) (n z m y:Nat),VR A φ (.slice (some a) n z) u1->VR A φ (.slice (some b) m y) u2->b.block=0∧y=0->∃X c c',u1=.slice X n c∧u2=.slice none m c'∧X.isNone=decide (a.block=0∧z=0):=by
  intro a b n z m y h1 h2 hb
  obtain⟨_,X,c,rfl,_,_,_,hX⟩:=VR.slice_inv h1
  obtain⟨_,Y,c',rfl,_,_,_,hY⟩:=VR.slice_inv h2
  have:Y=none:=hY.2 hb
  subst this
  refine⟨X,c,c',rfl,rfl,?_⟩
  cases X with
  |none=>simp[(hX.1 rfl).1,(hX.1 rfl).2]
  |some q=>
   have:¬(a.block=0∧z=0):=λhh=>by have:=hX.2 hh;cases this
   simp only[Option.isNone_some]
   exact(decide_eq_false this).symm
 split at ha
 ·rename_i a n z b m y
  split at ha
  ·rename_i hb
   injection ha with ha;subst ha
   obtain⟨X,c,c',rfl,rfl,e1⟩:=key a b n z m y hx hy hb
   refine SimV.pure H (u:=.bool (decide (a.block=0∧z=0))) ?_ rfl
   rw[Sem.run_bind,eqGuard_slice]
   simp only[Result.andThen_ok]
   rw[<-e1]
   simp[binOp,Op.equal,Op.maxDepth,run_equalIn_nil w 9999 ht]
  ·simp at ha
 ·rename_i a n z b m y
  split at ha
  ·rename_i hb
   injection ha with ha;subst ha
   obtain⟨X,c,c',rfl,rfl,e1⟩:=key a b n z m y hx hy hb
   refine SimV.pure H (u:=.bool (!decide (a.block=0∧z=0))) ?_ rfl
   rw[Sem.run_bind,eqGuard_slice]
   simp only[Result.andThen_ok]
   rw[<-e1]
   simp[binOp,Op.equal,Op.maxDepth,run_equalIn_nil w 9999 ht]
  ·simp at ha
 ·simp at ha
theorem op_unOp{o:UnOp}{x u v:Value}(H:HeapR A φ h w base)(hx:VR A φ x u)(ha:aUn o x=some v):SimV A φ h w base v h (Op.unary o u):=by
 unfold aUn at ha
 split at ha
 ·have e1:=VR.int_inv hx;subst e1
  injection ha with ha;subst ha
  exact SimV.pure H (by simp[Op.unary,Op.intArith]) rfl
 ·have e1:=VR.int_inv hx;subst e1
  injection ha with ha;subst ha
  exact SimV.pure H (by simp[Op.unary,Op.intBits]) rfl
 ·have e1:=VR.bool_inv hx;subst e1
  injection ha with ha;subst ha
  exact SimV.pure H (by simp[Op.unary]) rfl
 ·simp at ha
/-! ### conversions -/
theorem kindOf_code(k:IntKind):kindOf (codeOfKind k)=some k:=by cases k<;>rfl
theorem codeOfKind_lt(k:IntKind):codeOfKind k<8:=by cases k<;>decide
theorem conv_int{s d:TypeId}{k0 k:IntKind}{x u v:Value}{h':Heap}(H:HeapR A φ h w base)(hs:A.P.underlying s=some (.int k0))(hd:A.P.underlying d=some (.int k))(hx:VR A φ x u)
  (ha:aConv (codeOfKind k) x h=some (v,h')):SimV A φ h w base v h' (convert s d u):=by
 have hlt:=codeOfKind_lt k
 unfold aConv at ha
 rw[if_neg (by omega),if_neg (by omega),if_neg (by omega),kindOf_code]at ha
 split at ha
 ·rename_i k' j n heq
  injection heq with heq;subst heq
  injection ha with ha;injection ha with h1 h2;subst h1;subst h2
  have e1:=VR.int_inv hx;subst e1
  exact SimV.pure H (by simp[convert,run_underlying hs,run_underlying hd,Conv.intToInt]) rfl
 ·simp at ha
theorem conv_same{s d:TypeId}{x u v:Value}{h':Heap}(H:HeapR A φ h w base)(hs:A.P.underlying s=some .string)(hd:A.P.underlying d=some .string)(hx:VR A φ x u)
  (ha:aConv 22 x h=some (v,h')):SimV A φ h w base v h' (convert s d u):=by
 unfold aConv at ha
 simp only[Nat.reduceEqDiff,if_false,if_true]at ha
 split at ha
 ·injection ha with ha;injection ha with h1 h2;subst h1;subst h2
  have e1:=VR.string_inv hx;subst e1
  exact SimV.pure H (by simp[convert,run_underlying hs,run_underlying hd]) rfl
 ·simp at ha
theorem asInts_cells:∀{cs us:List Value} {l:List UInt8},asInts cs=some l->All2 (VR0 A φ) cs us->∃ns:List Int,us=ns.map (Value.int .u8)∧l=ns.map λn=>UInt8.ofNat n.toNat
 |[],[],l,ha,_=>by simp[asInts]at ha;subst ha;exact⟨[],rfl,rfl⟩
 |x::cs,u::us,l,ha,hr=>by
  unfold asInts at ha
  split at ha
  ·rename_i hh;cases hh
  ·rename_i n r hh
   injection hh with h1 h2;subst h1;subst h2
   cases hi:asInts cs with
   |none=>simp[hi]at ha
   |some l'=>
    simp[hi]at ha;subst ha
    obtain⟨ns,e1,e2⟩:=asInts_cells hi hr.2
    have e0:u=.int .u8 n:=hr.1
    subst e0
    exact⟨n::ns,by simp[e1],by simp[e2]⟩
  ·simp at ha
theorem foldl_push:∀(ns:List Int) (s:ByteArray),ns.foldl (λr n=>r.push (UInt8.ofNat n.toNat)) s=⟨(s.data.toList++ns.map λn=>UInt8.ofNat n.toNat).toArray⟩
 |[],s=>by simp
 |n::ns,s=>by
  rw[List.foldl_cons,foldl_push ns]
  congr 1
  simp[ByteArray.push]
theorem conv_text{s d e:TypeId}{x u v:Value}{h':Heap}(H:HeapR A φ h w base)(hs:A.P.underlying s=some (.slice e))(he:A.P.underlying e=some (.int .u8))(hd:A.P.underlying d=some .string)(hx:VR A φ x u)
  (ha:aConv 21 x h=some (v,h')):SimV A φ h w base v h' (convert s d u):=by
 unfold aConv at ha
 simp only[Nat.reduceEqDiff,if_false,if_true]at ha
 split at ha
 ·rename_i a n z
  obtain⟨_,X,c,rfl,hnc,h0,h1,-⟩:=VR.slice_inv hx
  have hconv:=run_convert_bytes_string (P:=A.P) w s d e X n c hs he hd
  split at ha
  ·rename_i hn
   injection ha with ha;injection ha with e1 e2;subst e1;subst e2;subst hn
   refine SimV.pure H (u:=.string ByteArray.empty) ?_ ?_
   ·rw[hconv]
    cases X with
    |none=>simp[Conv.bytesToString]
    |some ad=>
     have:=run_bytesToString (P:=A.P) w ad 0 c [] (by simp[loadCells,loadCellsFrom])
     simpa using this
   ·rfl
  ·rename_i hn
   cases hc:cellsAt h a.block a.off n with
   |none=>simp[hc]at ha
   |some cs=>
    simp only[hc]at ha
    cases hi:asInts cs with
    |none=>simp[hi]at ha
    |some l=>
     simp only[hi,Option.map_some]at ha
     injection ha with ha;injection ha with e1 e2;subst e1;subst e2
     have hb0:a.block≠0:=λe0=>by have:=h0 e0;omega
     obtain⟨lc,hl,hcl⟩:=h1 hb0
     rcases hcl with hc0|⟨rfl,_⟩
     ·omega
     ·obtain⟨_,us,hul,hr,hcell⟩:=cellsAt_sim H hl hc
      obtain⟨ns,rfl,rfl⟩:=asInts_cells hi hr
      have hload:=run_loadCells_at (A:=A) (w:=w) hcell
      rw[hul]at hload
      have hrun:=run_bytesToString (P:=A.P) w ⟨lc.g,lc.o+a.off,none⟩ n c ns hload
      refine SimV.pure H (by rw[hconv,hrun]) ?_
      rw[foldl_push]
      simp
      rfl
 ·simp at ha
theorem conv_bytes{s d e:TypeId}{x u v:Value}{h':Heap}(H:HeapR A φ h w base)(hb:base<=w.heap.size)(hφ:φ h.length=none)(hs:A.P.underlying s=some .string)(hd:A.P.underlying d=some (.slice e))(he:A.P.underlying e=some (.int .u8))
  (hx:VR A φ x u) (ha:aConv 20 x h=some (v,h')):SimV A φ h w base v h' (convert s d u):=by
 unfold aConv at ha
 simp only[if_true]at ha
 split at ha
 ·rename_i str
  split at ha
  ·rename_i hsz
   injection ha with ha;injection ha with e1 e2;subst e1;subst e2
   have e1:=VR.string_inv hx;subst e1
   let cap:=grownCap w str.size 0 e
   have hcap:str.size<=cap:=grownCap_ge w str.size 0 e
   let elems:Array Value:=str.data.map λb=>.int .u8 b.toNat
   let cur:Array Value:=elems++Array.replicate (cap-str.size) (.int .u8 0)
   have hcs:cur.size=cap:=by simp[cur,elems];have:str.data.size=str.size:=rfl;omega
   have hrun:(convert s d (.string str)).run A.P w=.ok (.slice (some ⟨w.heap.size,0,none⟩) str.size cap) (((w.drew).alloc (.cells cur e)).freeze ⟨w.heap.size,cur.size,none⟩ 1):=by
    simp only[convert,Sem.run_bind,run_underlying hs,run_underlying hd,run_underlying he,Result.andThen_ok]
    have hn:∀C:Array Value,(w.drew.alloc (.cells C e)).shape? w.heap.size=some (e,C.size):=λC=>by
     have h0:(w.drew.alloc (.cells C e)).heap[w.heap.size]?=some (.cells C e):=heap_alloc_new w.drew _
     simp only[World.shape?,h0]
    simp[Conv.stringToBytes,Question.forced,newRow,markStringish,hn,cap,cur,elems,grownCap]
   have hfr:((w.drew.alloc (.cells cur e)).freeze ⟨w.heap.size,cur.size,none⟩ 1).heap=(w.heap.push (.cells cur e)).modify w.heap.size λ
     |.cells c elem (lo,hi)=>.cells c elem (if lo==hi then(cur.size,cur.size+1)else(min lo cur.size,max hi (cur.size+1)))
     |o=>o:=by
    simp only[World.freeze];rfl
   have hR:All2 (VR0 A φ) (str.data.toList.map λb=>U b.toNat) elems.toList:=by
    refine All2.of_get (by simp[elems]) λi a b h1 h2=>?_
    simp[elems]at h1 h2
    obtain⟨c1,h3,rfl⟩:=h1
    obtain⟨c2,h4,rfl⟩:=h2
    rw[h3]at h4;injection h4 with h4;subst h4
    rfl
   have hS:=alloc_sim (w':=(w.drew.alloc (.cells cur e)).freeze ⟨w.heap.size,cur.size,none⟩ 1) (cs:=str.data.toList.map λb=>U b.toNat) (vs:=elems.toList) (cur:=cur) (ty:=e) (lo:=cur.size) (hi:=cur.size+1) true (λ_=>rfl) H hb hφ hR
    (λj q hq=>by
     have hj:j<elems.size:=by have:=(List.getElem?_eq_some_iff.1 hq).1;simpa using this
     simp only[cur]
     rw[Array.getElem?_append_left hj]
     simpa using hq)
    (by rw[hfr];simp) (λg hg=>by rw[hfr,Array.getElem?_modify,if_neg (by omega),Array.getElem?_push,if_neg (by omega)])
    (by rw[hfr,Array.getElem?_modify];simp) (λi hi=>by omega)
    rfl rfl rfl
   have hpos0:h.length≠0:=by have:=H.pos;omega
   refine⟨_,_,_,hrun,⟨rfl,_,_,rfl,hcap,λe0=>absurd e0 hpos0,λ_=>⟨_,Phi.put_same _ _ _,.inr ⟨by simp,?_,λ_=>rfl⟩⟩,⟨λe=>(by cases e),λe=>absurd e.1 hpos0⟩⟩,hS.1,hS.2⟩
   simp[hcs]
  ·simp at ha
 ·simp at ha
/-! ### functions, addresses, parts -/
theorem isFn_false_VRa{x u:Value}(hs:Am.scalar x=true)(hf:isFn x=false)(hx:VR A φ x u):VRa φ x u:=by
 have h0:=VR.of_scalar hs hx
 unfold VR0 at h0
 split at h0
 ·simp[isFn]at hf
 ·exact h0
theorem okFirst_VRb{x u:Value}(hs:okFirst x=true)(hx:VR A φ x u):VRb φ x u:=by
 cases x with
 |agg cs=>
  obtain⟨vs,rfl,h⟩:=VR.agg_inv hx
  refine⟨vs,rfl,All2.of_get h.length λi a b h1 h2=>?_⟩
  obtain⟨c,h3,hr⟩:=h.get i a h1
  rw[h3]at h2;injection h2 with h2;subst h2
  have:=List.all_eq_true.1 hs a (List.mem_of_getElem? h1)
  simp at this
  exact isFn_false_VRa this.1 this.2 (VR.of0 hr)
 |_=>simp[okFirst]at hs
theorem op_makeFunc{g f:Nat}{xf uf xs us:List Value}{v:Value}{h':Heap}(H:HeapR A φ h w base)(hg:nFn A g=some f)(hf:All2 (VR A φ) xf uf)(hx:All2 (VR A φ) xs us)(ha:funcV f xf xs h=some (v,h')):
  SimV A φ h w base v h' (Instr.makeFunc (.func g) uf.toArray us.toArray):=by
 unfold funcV at ha
 split at ha
 ·rename_i hall
  simp only[Bool.and_eq_true]at hall
  injection ha with ha;injection ha with e1 e2;subst e1;subst e2
  refine SimV.pure H (u:=.func (.func g) uf.toArray us.toArray) rfl ⟨g,uf.toArray,us.toArray,rfl,hg,?_,?_⟩
  ·simp only
   refine All2.of_get (by simpa using hf.length) λi a b h1 h2=>?_
   obtain⟨c,h3,hr⟩:=hf.get i a h1
   rw[h3]at h2;injection h2 with h2;subst h2
   exact okFirst_VRb (List.all_eq_true.1 hall.1 a (List.mem_of_getElem? h1)) hr
  ·simp only
   refine All2.of_get (by simpa using hx.length) λi a b h1 h2=>?_
   obtain⟨c,h3,hr⟩:=hx.get i a h1
   rw[h3]at h2;injection h2 with h2;subst h2
   have:=List.all_eq_true.1 hall.2 a (List.mem_of_getElem? h1)
   simp at this
   exact isFn_false_VRa this.1 this.2 hr
 ·simp at ha
theorem op_nilCheck{x u v:Value}(hx:VR A φ x u)(ha:nilV x=some v):v=x∧((∃a,u=.pointer (some a))∨∃g c d,u=.func (.func g) c d):=by
 unfold nilV at ha
 split at ha
 ·injection ha with ha;subst ha
  obtain⟨_,l,_,rfl⟩:=VR.pointer_inv hx
  exact⟨rfl,.inl ⟨_,rfl⟩⟩
 ·injection ha with ha;subst ha
  obtain⟨g,us,vs,rfl,_⟩:=VR.func_inv hx
  exact⟨rfl,.inr ⟨g,us,vs,rfl⟩⟩
 ·simp at ha
theorem op_fieldAddr{t:TypeId}{f:Nat}{fs:Array Field}{fd:Field}{m:Nat}{a:Addr}{u v:Value}(H:HeapR A φ h w base)(hu:A.P.underlying t=some (.struct fs))(hf:fs[f]?=some fd)(hs:sizeT A fd.type=some (m+1))
  (hx:VR A φ (.pointer (some a)) u) (ha:v=pt a.block (a.off+fd.offset)):SimV A φ h w base v h (Instr.fieldAt t u f):=by
 obtain⟨hsp,l,hl,rfl⟩:=VR.pointer_inv hx
 subst ha
 refine SimV.pure H (u:=.pointer (some ⟨l.g,l.o+(a.off+fd.offset),none⟩)) ?_ ⟨rfl,l,hl,rfl⟩
 simp only[Instr.fieldAt,Sem.run_bind,run_underlying hu,Result.andThen_ok,hf,Instr.sureAddr,fieldPlace,run_sizeOf hs]
 simp[Addr.add_lit,Nat.add_assoc]
theorem part_sim{t:TypeId}{n o:Nat}{cs:Array Value}{us:Array Value}{v:Value}(H:HeapR A φ h w base)(hs:sizeT A t=some n)(hr:All2 (VR0 A φ) cs.toList us.toList)(ha:aField (if aggT A t then n+1 else 0) o (.agg cs)=some v):
  SimV A φ h w base v h (part t us o):=by
 obtain⟨d,hd⟩:=sizeT_known hs
 have hl:=hr.length
 simp only[Array.length_toList]at hl
 cases hag:aggT A t with
 |true=>
  simp only[hag,if_true,aField]at ha
  rw[if_neg (by omega)]at ha
  split at ha
  ·rename_i hfit
   injection ha with ha;subst ha
   refine SimV.pure H (u:=.agg (us.extract o (o+n))) ?_ ?_
   ·simp[part,aggT_run hd,hag,run_sizeOf hs]
   ·refine⟨_,rfl,?_⟩
    have e:(us.extract o (o+n)).toList=(us.toList.drop o).take n:=by
     simp[List.extract_eq_take_drop]
    rw[e]
    exact(hr.drop o).take (n+1-1)
  ·simp at ha
 |false=>
  simp only[hag,Bool.false_eq_true,if_false,aField,if_true]at ha
  obtain⟨u,hu,hx⟩:=hr.get o v (by simpa using ha)
  refine SimV.pure H (u:=u) ?_ (VR.of0 hx)
  have hu':us[o]?=some u:=by simpa using hu
  simp[part,aggT_run hd,hag,hu']
theorem op_field{t:TypeId}{f n:Nat}{fs:Array Field}{fd:Field}{x u v:Value}(H:HeapR A φ h w base)(hu:A.P.underlying t=some (.struct fs))(hf:fs[f]?=some fd)(hs:sizeT A fd.type=some n)
  (hx:VR A φ x u) (ha:aField (if aggT A fd.type then n+1 else 0) fd.offset x=some v):SimV A φ h w base v h (Instr.field t u f):=by
 cases x with
 |agg cs=>
  obtain⟨us,rfl,hr⟩:=VR.agg_inv hx
  obtain⟨u',w',φ',hrun,rest⟩:=part_sim H hs hr ha
  exact⟨u',w',φ',by simp[Instr.field,run_underlying hu,hf,asAgg,hrun],rest⟩
 |_=>simp[aField]at ha
theorem op_indexAddr_slice{t e:TypeId}{z:Nat}{x i ux ui v:Value}(H:HeapR A φ h w base)(hu:A.P.underlying t=some (.slice e))(hs:sizeT A e=some z)(hz:z<1000)(hx:VR A φ x ux)(hi:VR A φ i ui)
  (ha:aIndexAddr (2*z+1) x i=some v):SimV A φ h w base v h (Instr.indexAt t ux ui):=by
 unfold aIndexAddr at ha
 split at ha
 ·rename_i a n y k j
  split at ha
  ·rename_i hc
   injection ha with ha;subst ha
   obtain⟨_,X,c,rfl,hnc,h0,h1,-⟩:=VR.slice_inv hx
   have ei:=VR.int_inv hi;subst ei
   have hn0:a.block≠0:=λe0=>by have:=h0 e0;omega
   obtain⟨l,hl,hcl⟩:=h1 hn0
   rcases hcl with hc0|⟨rfl,_⟩
   ·omega
   ·refine SimV.pure H (u:=.pointer (some ⟨l.g,l.o+(a.off+j.toNat*((2*z+1)/2)),none⟩)) ?_ ⟨rfl,l,hl,rfl⟩
    have hz2:(2*z+1)/2=z:=by omega
    simp only[Instr.indexAt,asIntOf,Sem.run_bind,Sem.run_pure,Result.andThen_ok,run_underlying hu]
    simp[hc.2.1,hc.2.2,run_sizeOf hs,Addr.add_lit,hz2,Nat.add_assoc]
  ·simp at ha
 ·split at ha
  ·omega
  ·simp at ha
 ·simp at ha
theorem arrCode_eq{n z c:Nat}(hc:arrCode n z=some c):c=1000000+1000*n+z∧z<1000∧(c-1000000)/1000=n∧c%1000=z∧1000000<=c:=by
 unfold arrCode at hc
 split at hc
 ·injection hc with hc;omega
 ·simp at hc
theorem op_indexAddr_array{t e:TypeId}{n z c:Nat}{a:Addr}{i ux ui v:Value}(H:HeapR A φ h w base)(hu:A.P.underlying t=some (.array n e))(hs:sizeT A e=some z)(hc:arrCode n z=some c)(hx:VR A φ (.pointer (some a)) ux)(hi:VR A φ i ui)
  (ha:aIndexAddr c (.pointer (some a)) i=some v):SimV A φ h w base v h (Instr.indexAt t ux ui):=by
 obtain⟨_,hz,e1,e2,e3⟩:=arrCode_eq hc
 obtain⟨hsp,l,hl,rfl⟩:=VR.pointer_inv hx
 unfold aIndexAddr at ha
 cases i with
 |int k j=>
  simp only[e1,e2]at ha
  split at ha
  ·rename_i hcond
   injection ha with ha;subst ha
   have ei:=VR.int_inv hi;subst ei
   refine SimV.pure H (u:=.pointer (some ⟨l.g,l.o+(a.off+j.toNat*z),none⟩)) ?_ ⟨rfl,l,hl,rfl⟩
   simp only[Instr.indexAt,asIntOf,Sem.run_bind,Sem.run_pure,Result.andThen_ok,run_underlying hu,Instr.sureAddr]
   simp[hcond.2.1,hcond.2.2,run_sizeOf hs,Addr.add_lit,Nat.add_assoc]
  ·simp at ha
 |_=>simp at ha
theorem op_index_text{t:TypeId}{x i ux ui v:Value}(H:HeapR A φ h w base)(hu:A.P.underlying t=some .string)(hx:VR A φ x ux)(hi:VR A φ i ui)(ha:aIndex 0 x i=some v):SimV A φ h w base v h (Instr.index t ux ui):=by
 unfold aIndex at ha
 split at ha
 ·rename_i s k j
  have e1:=VR.string_inv hx;have e2:=VR.int_inv hi
  subst e1;subst e2
  split at ha
  ·rename_i hc
   cases hb:s.data.toList[j.toNat]? with
   |none=>simp[hb]at ha
   |some b=>
    simp only[hb,Option.map_some,Option.some.injEq]at ha
    subst ha
    refine SimV.pure H ?_ rfl
    have hsb:s[j.toNat]?=some b:=by
     have hlt:j.toNat<s.size:=by have:=hc.2.2;simp at this;omega
     rw[getElem?_pos s j.toNat hlt]
     have h2:j.toNat<s.data.toList.length:=by simpa using hlt
     rw[List.getElem?_eq_getElem h2]at hb
     injection hb with hb
     rw[<-hb];rfl
    simp[Instr.index,asIntOf,run_underlying hu,hc.2.1,hsb]
  ·simp at ha
 ·split at ha
  ·omega
  ·simp at ha
 ·simp at ha
theorem op_index_array{t e:TypeId}{n z c:Nat}{x i ux ui v:Value}(H:HeapR A φ h w base)(hu:A.P.underlying t=some (.array n e))(hs:sizeT A e=some z)
  (hc:arrCode n (if aggT A e then z else 0)=some c) (hz:aggT A e=true->0<z) (hz1:aggT A e=false->z=1) (hx:VR A φ x ux) (hi:VR A φ i ui) (ha:aIndex c x i=some v):SimV A φ h w base v h (Instr.index t ux ui):=by
 obtain⟨_,_,e1,e2,e3⟩:=arrCode_eq hc
 unfold aIndex at ha
 split at ha
 ·split at ha
  ·omega
  ·simp at ha
 ·rename_i cs k j
  obtain⟨us,rfl,hr⟩:=VR.agg_inv hx
  have ei:=VR.int_inv hi;subst ei
  rw[e1,e2]at ha
  split at ha
  ·rename_i hcond
   have hp:aField (if aggT A e then z+1 else 0) (j.toNat*z) (.agg cs)=some v:=by
    cases hag:aggT A e with
    |true=>
     simp only[hag,if_true]at ha
     have:=hz hag
     rw[if_neg (by omega)]at ha
     simp only[aField,if_true]
     rw[if_neg (by omega)]
     have hmul:(j.toNat+1)*z=j.toNat*z+z:=Nat.succ_mul _ _
     rw[hmul]at ha
     simpa using ha
    |false=>
     have hz1':=hz1 hag
     subst hz1'
     simp only[hag,Bool.false_eq_true,if_false,if_true]at ha
     simp only[aField,Bool.false_eq_true,if_false,if_true,Nat.mul_one]
     exact ha
   obtain⟨u',w',φ',hrun,rest⟩:=part_sim H hs hr hp
   exact⟨u',w',φ',by simp[Instr.index,asIntOf,run_underlying hu,hcond.2.1,hcond.2.2,run_sizeOf hs,hrun],rest⟩
  ·simp at ha
 ·simp at ha
theorem op_extract{i:Nat}{x u v:Value}(H:HeapR A φ h w base)(hx:VR A φ x u)(ha:aExtract i x=some v):SimV A φ h w base v h (Instr.extract u i):=by
 unfold aExtract at ha
 split at ha
 ·rename_i vs
  obtain⟨us,rfl,hr⟩:=VR.tuple_inv hx
  obtain⟨y,hy,hv⟩:=hr.get i v (by simpa using ha)
  have hy':us[i]?=some y:=by simpa using hy
  exact SimV.pure H (by simp[Instr.extract,hy']) (VR.of1 hv)
 ·simp at ha
end
end Am

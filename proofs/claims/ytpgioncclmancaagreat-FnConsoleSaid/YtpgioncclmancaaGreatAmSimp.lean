/- What 'simp' knows of 'Am': its rules, its operations one by one, and where not to look. -/
import Derived.Test.YtpgioncclmancaaGreatAmRules
set_option linter.unusedVariables false
set_option linter.unusedSimpArgs false
namespace Am
open Go
section congr
variable {Γ : Nat -> Option AFun}
@[congr] theorem awp_congr {c:Code} {Q:Post} {σ σ':Nat->Value} {h h':Heap} (a:σ=σ') (b:h=h'):awp Γ c Q σ h=awp Γ c Q σ' h':=by subst a;subst b;rfl
@[congr] theorem awpOps_congr {l:List Oper} {K:(Nat->Value)->Heap->Prop} {σ σ' τ τ':Nat->Value} {h h':Heap} (a:σ=σ') (b:τ=τ') (c:h=h'):
  awpOps Γ l K σ τ h=awpOps Γ l K σ' τ' h':=by subst a;subst b;subst c;rfl
@[congr] theorem bindW_congr {o o':Option (Value×Heap)} {k:Value->Heap->Prop} (a:o=o'):bindW o k=bindW o' k:=by subst a;rfl
@[congr] theorem growW_congr {h h':Heap} {o o':Option (Value×Heap)} {k:Value->Heap->Prop} (a:h=h') (b:o=o'):growW h o k=growW h' o' k:=by subst a;subst b;rfl
@[congr] theorem condW_congr {v v':Value} {X Y:Prop} (a:v=v'):condW v X Y=condW v' X Y:=by subst a;rfl
@[congr] theorem callW_congr {f:Nat} {args args':List Value} {h h':Heap} {b:Bool} {k:Value->Heap->Prop} (x:args=args') (y:h=h'):callW Γ f args h b k=callW Γ f args' h' b k:=by subst x;subst y;rfl
@[congr] theorem callV_congr {f f':Value} {args args':List Value} {h h':Heap} {b:Bool} {k:Value->Heap->Prop} (z:f=f') (x:args=args') (y:h=h'):callV Γ f args h b k=callV Γ f' args' h' b k:=by subst z;subst x;subst y;rfl
@[congr] theorem resW_congr {o o':Option Value} {R:Value->Heap->Prop} {h h':Heap} (a:o=o') (b:h=h'):resW o R h=resW o' R h':=by subst a;subst b;rfl
@[congr] theorem seqQ_congr {b:Code} {Q:Post} {e:Nat} {σ σ':Nat->Value} {h h':Heap} (x:σ=σ') (y:h=h'):seqQ Γ b Q e σ h=seqQ Γ b Q e σ' h':=by subst x;subst y;rfl
@[congr] theorem blockQ_congr {id:Nat} {Q:Post} {e:Nat} {σ σ':Nat->Value} {h h':Heap} (x:σ=σ') (y:h=h'):blockQ id Q e σ h=blockQ id Q e σ' h':=by subst x;subst y;rfl
@[congr] theorem retQ_congr {res:List (Nat×Nat)} {R:Value->Heap->Prop} {e:Nat} {σ σ':Nat->Value} {h h':Heap} (x:σ=σ') (y:h=h'):retQ res R e σ h=retQ res R e σ' h':=by subst x;subst y;rfl
@[congr] theorem loopQ_congr {α:Type} {I:α->(Nat->Value)->Heap->Prop} {μ:α->Nat} {a:α} {Q:Post} {e:Nat} {σ σ':Nat->Value} {h h':Heap} (x:σ=σ') (y:h=h'):
  loopQ I μ a Q e σ h=loopQ I μ a Q e σ' h':=by subst x;subst y;rfl
@[congr] theorem plainW_congr {b b':Bool} {X Y:Prop} (a:b=b'):plainW b X Y=plainW b' X Y:=by subst a;rfl
end congr
attribute [simp ↓] awp_skip awp_exit awp_ret awp_seq awp_block awp_reg
attribute [simp ↓] seqQ_zero seqQ_ne loopQ_zero loopQ_ne awpOps_nil
attribute [simp] condW_true condW_false bindW_some growW_some callV_func resW_some
attribute [simp] plainW_true
attribute [simp ↓] awpOps_p0 awpOps_p1 awpOps_p2 awpOps_p3 awpOps_pn
attribute [simp ↓ high] awpOps_call0 awpOps_call1 awpOps_call2 awpOps_call3 awpOps_calln
attribute [simp] upd_apply
/-! ### forks: the two ways as data, so that simp does not walk both -/
/-- What is to be done next. -/
abbrev Task:=(Code×Post×(Nat->Value)×Heap) ⊕ (List Oper×((Nat->Value)->Heap->Prop)×(Nat->Value)×(Nat->Value)×Heap)
def runT(Γ:Nat->Option AFun):Task->Prop
 |.inl (c,Q,σ,h)=>awp Γ c Q σ h
 |.inr (l,K,σ,τ,h)=>awpOps Γ l K σ τ h
def fork(Γ:Nat->Option AFun)(v:Value)(x y:Task):Prop:=condW v (runT Γ x) (runT Γ y)
section fork
variable {Γ : Nat -> Option AFun} {Q : Post} {σ τ : Nat -> Value} {h : Heap} {K : (Nat -> Value) -> Heap -> Prop} {x y : Task}
@[simp ↓] theorem runT_inl {c:Code}:runT Γ (.inl (c,Q,σ,h))=awp Γ c Q σ h:=rfl
@[simp ↓] theorem runT_inr {l:List Oper}:runT Γ (.inr (l,K,σ,τ,h))=awpOps Γ l K σ τ h:=rfl
@[simp] theorem fork_true:fork Γ (.bool true) x y=runT Γ x:=by simp[fork,condW]
@[simp] theorem fork_false:fork Γ (.bool false) x y=runT Γ y:=by simp[fork,condW]
@[simp] theorem fork_not {p:Bool}:fork Γ (.bool (!p)) x y=fork Γ (.bool p) y x:=by cases p<;>simp
theorem fork_dec{p:Prop}[Decidable p](hx:p->runT Γ x)(hy:¬p->runT Γ y):fork Γ (.bool (decide p)) x y:=condW_dec hx hy
theorem fork_intro{p:Bool}(hx:p=true->runT Γ x)(hy:p=false->runT Γ y):fork Γ (.bool p) x y:=condW_intro hx hy
@[simp ↓] theorem awp_fork {c:Operand} {a b:Code}:awp Γ (.cond c a b) Q σ h=fork Γ (ev σ nothing c) (.inl (a,Q,σ,h)) (.inl (b,Q,σ,h)):=awp_cond
@[simp ↓] theorem fork_g0 {d i:Nat} {o:Op} {r:List Oper} {w:Bool}:awpOps Γ (op d o 0 (some (i,w))::r) K σ τ h=fork Γ (gval w (ev σ τ (gslot i)))
  (.inr (if w then op d o 0::r else r,K,if w then σ else upd σ d (skipV (some (i,w))),τ,h)) (.inr (if w then r else op d o 0::r,K,if w then upd σ d (skipV (some (i,w)))else σ,τ,h)):=by
 rw[awpOps_g0];cases w<;>rfl
@[simp ↓] theorem fork_g1 {d i:Nat} {o:Op} {r:List Oper} {w:Bool}:awpOps Γ (op d o 1 (some (i,w))::r) K σ τ h=fork Γ (gval w (ev σ τ (gslot i)))
  (.inr (if w then op d o 1::r else r,K,σ,if w then τ else upd τ d (skipV (some (i,w))),h)) (.inr (if w then r else op d o 1::r,K,σ,if w then upd τ d (skipV (some (i,w)))else τ,h)):=by
 rw[awpOps_g1];cases w<;>rfl
@[simp ↓] theorem fork_g2 {d i:Nat} {o:Op} {r:List Oper} {w:Bool}:awpOps Γ (op d o 2 (some (i,w))::r) K σ τ h=fork Γ (gval w (ev σ τ (gslot i)))
  (.inr (if w then op d o 2::r else r,K,if w then σ else upd σ d (skipV (some (i,w))),τ,h)) (.inr (if w then r else op d o 2::r,K,if w then upd σ d (skipV (some (i,w)))else σ,τ,h)):=by
 rw[awpOps_g2];cases w<;>rfl
@[simp ↓] theorem fork_g3 {d i:Nat} {o:Op} {r:List Oper} {w:Bool}:awpOps Γ (op d o 3 (some (i,w))::r) K σ τ h=fork Γ (gval w (ev σ τ (gslot i)))
  (.inr (if w then op d o 3::r else r,K,σ,if w then τ else upd τ d (skipV (some (i,w))),h)) (.inr (if w then r else op d o 3::r,K,σ,if w then upd τ d (skipV (some (i,w)))else τ,h)):=by
 rw[awpOps_g3];cases w<;>rfl
end fork
section
variable {Γ : Nat -> Option AFun} {Q : Post} {σ τ : Nat -> Value} {h : Heap}
@[simp ↓] theorem blockQ_zero {id:Nat}:blockQ id Q 0 σ h=Q 0 σ h:=by simp[blockQ]
@[simp ↓] theorem blockQ_one {id:Nat}:blockQ id Q 1 σ h=Q 1 σ h:=by simp[blockQ]
@[simp ↓] theorem blockQ_exit {id j:Nat}:blockQ id Q (j+2) σ h=if j=id then Q 0 σ h else Q (j+2) σ h:=by simp[blockQ]
@[simp ↓] theorem retQ_zero {res:List (Nat×Nat)} {R:Value->Heap->Prop}:retQ res R 0 σ h=resW (resOf σ h res) R h:=by simp[retQ]
@[simp ↓] theorem retQ_one {res:List (Nat×Nat)} {R:Value->Heap->Prop}:retQ res R 1 σ h=resW (resOf σ h res) R h:=by simp[retQ]
@[simp] theorem ev_tmp {i:Nat}:ev σ τ (.tmp i)=σ i:=rfl
@[simp] theorem ev_own {i:Nat}:ev σ τ (.global i)=τ i:=rfl
@[simp] theorem ev_const {v:Value}:ev σ τ (.const v)=v:=rfl
@[simp] theorem ev_func {f:Nat}:ev σ τ (.func f)=.func (.func f) #[] #[]:=rfl
@[simp] theorem init_nil {i:Nat}:init [] i=poison:=by simp[init]
@[simp] theorem init_zero {a:Value} {l:List Value}:init (a::l) 0=a:=by simp[init]
@[simp] theorem init_succ {a:Value} {l:List Value} {i:Nat}:init (a::l) (i+1)=init l i:=by simp[init]
end
attribute [simp] gslot gval_bool gval_tuple skipV
section ops
variable {ρ : Operand -> Value} {h : Heap}
@[simp] theorem noCall_bi {b:Builtin} {a:Array Operand} {z:Nat}:noCall (bi b a z)=true:=rfl
@[simp] theorem noCall_move {x:Operand}:noCall (.move x)=true:=rfl
@[simp] theorem noCall_pick {x y z:Operand}:noCall (.pick x y z)=true:=rfl
@[simp] theorem noCall_box {n:Nat} {x:Operand}:noCall (.box n x)=true:=rfl
@[simp] theorem noCall_build {n:Nat} {x:Array (Nat×Operand)}:noCall (.build n x)=true:=rfl
@[simp] theorem noCall_buildSlice {n m:Nat} {x:Array (Nat×Operand)}:noCall (.buildSlice n m x)=true:=rfl
@[simp] theorem noCall_load {n:Nat} {x:Operand}:noCall (.load n x)=true:=rfl
@[simp] theorem noCall_store {n:Nat} {x y:Operand}:noCall (.store n x y)=true:=rfl
@[simp] theorem noCall_nilCheck {x:Operand}:noCall (.nilCheck x)=true:=rfl
@[simp] theorem noCall_binOp {o:BinOp} {n m:Nat} {x y:Operand}:noCall (.binOp o n x y m)=true:=rfl
@[simp] theorem noCall_unOp {o:UnOp} {n:Nat} {x:Operand}:noCall (.unOp o n x)=true:=rfl
@[simp] theorem noCall_convert {n m:Nat} {x:Operand}:noCall (.convert n m x)=true:=rfl
@[simp] theorem noCall_makeFunc {f:Fn} {x y:Array Operand}:noCall (.makeFunc f x y)=true:=rfl
@[simp] theorem noCall_makeChan {n:Nat} {x:Operand}:noCall (.makeChan n x)=true:=rfl
@[simp] theorem noCall_lookup {n:Nat} {x y:Operand} {b:Bool}:noCall (.lookup n x y b)=true:=rfl
@[simp] theorem noCall_insert {n:Nat} {x y z:Operand}:noCall (.insert n x y z)=true:=rfl
@[simp] theorem noCall_mapUpdate {n:Nat} {x y z:Operand}:noCall (.mapUpdate n x y z)=true:=rfl
@[simp] theorem noCall_slice {n:Nat} {x:Operand} {a b c:Option Operand}:noCall (.slice n x a b c)=true:=rfl
@[simp] theorem noCall_fieldAddr {n m:Nat} {x:Operand}:noCall (.fieldAddr n x m)=true:=rfl
@[simp] theorem noCall_field {n m:Nat} {x:Operand}:noCall (.field n x m)=true:=rfl
@[simp] theorem noCall_indexAddr {n:Nat} {x y:Operand}:noCall (.indexAddr n x y)=true:=rfl
@[simp] theorem noCall_index {n:Nat} {x y:Operand}:noCall (.index n x y)=true:=rfl
@[simp] theorem noCall_extract {x:Operand} {n:Nat}:noCall (.extract x n)=true:=rfl
@[simp] theorem pickV_true {a b:Value}:pickV (.bool true) a b=some a:=rfl
@[simp] theorem pickV_false {a b:Value}:pickV (.bool false) a b=some b:=rfl
@[simp] theorem nilV_pt {b o:Nat}:nilV (pt b o)=some (pt b o):=rfl
@[simp] theorem nilV_fn {f:Nat} {c d:Array Value}:nilV (.func (.func f) c d)=some (.func (.func f) c d):=rfl
@[simp] theorem fieldAddrV_pt {n b o:Nat}:fieldAddrV n (pt b o)=some (pt b (o+n)):=rfl
@[simp] theorem with_some {v:Value} {h:Heap}:with_ (some v) h=some (v,h):=rfl
@[simp] theorem behind_some {h:Heap}:behind (some h)=some (poison,h):=rfl
@[simp] theorem scalar_int {k:IntKind} {n:Int}:scalar (.int k n)=true:=rfl
@[simp] theorem scalar_bool {b:Bool}:scalar (.bool b)=true:=rfl
@[simp] theorem scalar_string {s:ByteArray}:scalar (.string s)=true:=rfl
@[simp] theorem scalar_pointer {a:Option Addr}:scalar (.pointer a)=true:=rfl
@[simp] theorem scalar_slice {a:Option Addr} {n c:Nat}:scalar (.slice a n c)=true:=rfl
@[simp] theorem isFn_int {k:IntKind} {n:Int}:isFn (.int k n)=false:=rfl
@[simp] theorem isFn_string {s:ByteArray}:isFn (.string s)=false:=rfl
@[simp] theorem isFn_pointer {a:Option Addr}:isFn (.pointer a)=false:=rfl
@[simp] theorem isFn_slice {a:Option Addr} {n c:Nat}:isFn (.slice a n c)=false:=rfl
@[simp] theorem isFn_bool {b:Bool}:isFn (.bool b)=false:=rfl
@[simp] theorem aOp_move {x:Operand}:aOp ρ h (.move x)=some (ρ x,h):=rfl
@[simp] theorem aOp_pick {c a b:Operand}:aOp ρ h (.pick c a b)=with_ (pickV (ρ c) (ρ a) (ρ b)) h:=rfl
@[simp] theorem aOp_box {n:Nat} {x:Operand}:aOp ρ h (.box n x)=aBox n (ρ x) h:=rfl
@[simp] theorem aOp_build {n:Nat} {ps:Array (Nat×Operand)}:aOp ρ h (.build n ps)=with_ (aBuild (ps.toList.map λp=>(p.1,ρ p.2))) h:=rfl
@[simp] theorem aOp_buildSlice {z n:Nat} {ps:Array (Nat×Operand)}:aOp ρ h (.buildSlice z n ps)=aBuildSlice z n h (ps.toList.map λp=>(p.1,ρ p.2)):=rfl
@[simp] theorem aOp_load {k:Nat} {a:Operand}:aOp ρ h (.load k a)=with_ (aLoad k h (ρ a)) h:=rfl
@[simp] theorem aOp_store {n:Nat} {a x:Operand}:aOp ρ h (.store n a x)=behind (aStore n h (ρ x) (ρ a)):=rfl
@[simp] theorem aOp_nilCheck {x:Operand}:aOp ρ h (.nilCheck x)=with_ (nilV (ρ x)) h:=rfl
@[simp] theorem aOp_binOp {o:BinOp} {n:Nat} {x y:Operand}:aOp ρ h (.binOp o n x y 0)=with_ (aBin o n (ρ x) (ρ y)) h:=rfl
@[simp] theorem aOp_binNil {o:BinOp} {n:Nat} {x y:Operand}:aOp ρ h (.binOp o n x y 1)=with_ (aNil o (ρ x) (ρ y)) h:=rfl
@[simp] theorem aOp_unOp {o:UnOp} {n:Nat} {x:Operand}:aOp ρ h (.unOp o n x)=with_ (aUn o (ρ x)) h:=rfl
@[simp] theorem aOp_convert {n c:Nat} {x:Operand}:aOp ρ h (.convert n c x)=aConv c (ρ x) h:=rfl
@[simp] theorem aOp_makeFunc {f:Nat} {a caps:Array Operand}:aOp ρ h (.makeFunc (.func f) a caps)=funcV f (a.toList.map ρ) (caps.toList.map ρ) h:=rfl
@[simp] theorem aOp_make {z:Nat} {l c e:Operand}:aOp ρ h (.mapUpdate z l c e)=aMake z h (ρ l) (ρ c) (ρ e):=rfl
@[simp] theorem aOp_slice {c:Nat} {x:Operand} {lo hi mx:Option Operand}:aOp ρ h (.slice c x lo hi mx)=aSlice c h (ρ x) (lo.map ρ) (hi.map ρ) (mx.map ρ):=rfl
@[simp] theorem aOp_fieldAddr {o:Nat} {x:Operand}:aOp ρ h (.fieldAddr o x 0)=with_ (fieldAddrV o (ρ x)) h:=rfl
@[simp] theorem aOp_fieldNum {o:Nat} {x:Operand}:aOp ρ h (.fieldAddr o x 1)=with_ (fieldNumV o (ρ x)) h:=rfl
@[simp] theorem aOp_indexNum {c:Nat} {x i:Operand}:aOp ρ h (.lookup c x i true)=with_ (indexNumV c (ρ x) (ρ i)) h:=rfl
@[simp] theorem aOp_get {k:Nat} {x i:Operand}:aOp ρ h (.lookup k x i false)=with_ (aGet k (ρ x) (ρ i)) h:=rfl
@[simp] theorem aOp_put {n:Nat} {x i v:Operand}:aOp ρ h (.insert n x i v)=with_ (aPut n (ρ v) (ρ x) (ρ i)) h:=rfl
@[simp] theorem aOp_wrap {n:Nat} {x:Operand}:aOp ρ h (.makeChan n x)=with_ (aWrap n (ρ x)) h:=rfl
@[simp] theorem aOp_field {k o:Nat} {x:Operand}:aOp ρ h (.field k x o)=with_ (aField k o (ρ x)) h:=rfl
@[simp] theorem aOp_indexAddr {c:Nat} {x i:Operand}:aOp ρ h (.indexAddr c x i)=with_ (aIndexAddr c (ρ x) (ρ i)) h:=rfl
@[simp] theorem aOp_index {c:Nat} {x i:Operand}:aOp ρ h (.index c x i)=with_ (aIndex c (ρ x) (ρ i)) h:=rfl
@[simp] theorem aOp_extract {i:Nat} {x:Operand}:aOp ρ h (.extract x i)=with_ (aExtract i (ρ x)) h:=rfl
@[simp] theorem aOp_bi {b:Builtin} {args:Array Operand} {z:Nat}:aOp ρ h (bi b args z)=aBuiltin b z h (args.toList.map ρ):=rfl
end ops
section vals
variable {h : Heap}
@[simp] theorem aBin_int {o:BinOp} {n:Nat} {k j:IntKind} {a b:Int}:aBin o n (.int k a) (.int j b)=aInt o k a j b:=rfl
@[simp] theorem aBin_str {o:BinOp} {n:Nat} {a b:List UInt8}:aBin o n (S a) (S b)=aStr o a b:=by simp[aBin]
@[simp] theorem aBin_bool {o:BinOp} {a b:Bool}:aBin o 1 (.bool a) (.bool b)=aBool o a b:=rfl
@[simp] theorem aBin_agg {o:BinOp} {n:Nat} {a b:Array Value}:aBin o (n+2) (.agg a) (.agg b)=aAgg o n a.toList b.toList:=rfl
@[simp] theorem aNil_eql {a:Addr} {n z:Nat}:aNil .eql (.slice (some a) n z) (sl 0 0 0 0)=some (.bool (decide (a.block=0∧z=0))):=rfl
@[simp] theorem aNil_neq {a:Addr} {n z:Nat}:aNil .neq (.slice (some a) n z) (sl 0 0 0 0)=some (.bool (!decide (a.block=0∧z=0))):=rfl
@[simp] theorem aUn_neg {k:IntKind} {n:Int}:aUn .neg (.int k n)=some (.int k (k.wrap (0-n))):=rfl
@[simp] theorem aUn_not {b:Bool}:aUn .not (.bool b)=some (.bool (!b)):=rfl
attribute [simp] aInt aStr aBool
@[simp] theorem aConv_0 {k:IntKind} {n:Int}:aConv 0 (.int k n) h=some (.int .i8 (IntKind.i8.wrap n),h):=rfl
@[simp] theorem aConv_1 {k:IntKind} {n:Int}:aConv 1 (.int k n) h=some (.int .i16 (IntKind.i16.wrap n),h):=rfl
@[simp] theorem aConv_2 {k:IntKind} {n:Int}:aConv 2 (.int k n) h=some (.int .i32 (IntKind.i32.wrap n),h):=rfl
@[simp] theorem aConv_3 {k:IntKind} {n:Int}:aConv 3 (.int k n) h=some (.int .i64 (IntKind.i64.wrap n),h):=rfl
@[simp] theorem aConv_4 {k:IntKind} {n:Int}:aConv 4 (.int k n) h=some (.int .u8 (IntKind.u8.wrap n),h):=rfl
@[simp] theorem aConv_5 {k:IntKind} {n:Int}:aConv 5 (.int k n) h=some (.int .u16 (IntKind.u16.wrap n),h):=rfl
@[simp] theorem aConv_6 {k:IntKind} {n:Int}:aConv 6 (.int k n) h=some (.int .u32 (IntKind.u32.wrap n),h):=rfl
@[simp] theorem aConv_7 {k:IntKind} {n:Int}:aConv 7 (.int k n) h=some (.int .u64 (IntKind.u64.wrap n),h):=rfl
@[simp] theorem aConv_str {l:List UInt8} (hl:l.length<=maxSize):aConv 20 (S l) h=some (sl h.length 0 l.length 1,h++[⟨l.map λb=>U b.toNat,true⟩]):=by
 simp[aConv,ByteArray.size,hl]
@[simp] theorem aConv_same {s:ByteArray}:aConv 22 (.string s) h=some (.string s,h):=rfl
@[simp] theorem cellsOf_agg {a:Array Value}:cellsOf (.agg a)=some a.toList:=rfl
@[simp] theorem cellsOf_int {k:IntKind} {n:Int}:cellsOf (.int k n)=some [.int k n]:=rfl
@[simp] theorem cellsOf_bool {b:Bool}:cellsOf (.bool b)=some [.bool b]:=rfl
@[simp] theorem cellsOf_string {s:ByteArray}:cellsOf (.string s)=some [.string s]:=rfl
@[simp] theorem cellsOf_pointer {a:Option Addr}:cellsOf (.pointer a)=some [.pointer a]:=rfl
@[simp] theorem cellsOf_slice {a:Option Addr} {n c:Nat}:cellsOf (.slice a n c)=some [.slice a n c]:=rfl
@[simp] theorem cellsOf_func {f:Fn} {a c:Array Value}:cellsOf (.func f a c)=some [.func f a c]:=rfl
attribute [simp] aBox
@[simp] theorem aLoad_0 {b o:Nat}:aLoad 0 h (pt b o)=cell h b o:=rfl
@[simp] theorem aLoad_n {b o k:Nat}:aLoad (k+1) h (pt b o)=(cellsAt h b o k).map λcs=>.agg cs.toArray:=by simp[aLoad]
@[simp] theorem aStore_pt {n b o:Nat} {x:Value}:aStore n h x (pt b o)=match cellsOf x with
  |some cs=>if cs.length=n then storeAt h b o cs else none
  |none=>none:=rfl
@[simp] theorem aLen_S {l:List UInt8} (hl:l.length<=9223372036854775807):aLen 0 (S l)=some (I l.length):=by simp[aLen,hl]
@[simp] theorem aLen_sl {b o n z:Nat}:aLen 1 (sl b o n z)=some (I n):=rfl
@[simp] theorem aBuiltin_len {z:Nat} {x:Value}:aBuiltin .len z h [x]=with_ (aLen z x) h:=rfl
@[simp] theorem aBuiltin_append {z:Nat} {s x:Value}:aBuiltin .append z h [s,x]=aAppend z h x s:=rfl
@[simp] theorem aBuiltin_copy {z:Nat} {s x:Value}:aBuiltin .copy z h [s,x]=aCopy z h x s:=rfl
@[simp] theorem aBuiltin_max {z:Nat} {l:List Value}:aBuiltin .max z h l=with_ (aMax l) h:=rfl
@[simp] theorem aBuiltin_min {z:Nat} {l:List Value}:aBuiltin .min z h l=with_ (aMin l) h:=rfl
@[simp] theorem aExtract_eq {i:Nat} {vs:Array Value}:aExtract i (.tuple vs)=vs[i]?:=rfl
@[simp] theorem aIndex_S {l:List UInt8} {k:IntKind} {i:Int}:aIndex 0 (S l) (.int k i)=if 0<=i∧i<l.length then(l[i.toNat]?).map λb=>U b.toNat else none:=by
 simp[aIndex]
@[simp] theorem aIndexAddr_sl {c b o n z:Nat} {k:IntKind} {i:Int} (hc:c<1000000):aIndexAddr c (sl b o n z) (.int k i)=if 0<=i∧i<n then some (pt b (o+i.toNat*(c/2)))else none:=by
 simp[aIndexAddr,hc]
@[simp] theorem aIndexAddr_pt {c b o:Nat} {k:IntKind} {i:Int} (hc:1000000<=c):aIndexAddr c (pt b o) (.int k i)=if 0<=i∧i<(((c-1000000)/1000:Nat):Int)then some (pt b (o+i.toNat*(c%1000)))else none:=by
 simp[aIndexAddr,hc]
attribute [simp] fillC aBuild splice
@[simp] theorem first_cell {a:Value} {l:List Value}:(a::l)[0]?=some a:=rfl
@[simp] theorem aWrap_agg {n:Nat} {cs:Array Value}:aWrap n (.agg cs)=if cs.size=n then some (.agg cs)else none:=by simp[aWrap]
@[simp] theorem aWrap_int {k:IntKind} {m:Int}:aWrap 1 (.int k m)=some (.agg #[.int k m]):=rfl
@[simp] theorem fieldNumV_agg {n:Nat} {cs:Array Value}:fieldNumV n (.agg cs)=some (I n):=by simp[fieldNumV,numV]
@[simp] theorem fieldNumV_int {n:Nat} {m:Int}:fieldNumV n (I m)=some (I (m+n)):=rfl
@[simp] theorem aGet_zero {cs:Array Value} {n:Int}:aGet 0 (.agg cs) (I n)=if 0<=n then cs[n.toNat]? else none:=rfl
@[simp] theorem aGet_succ {cs:Array Value} {n:Int} {k:Nat}:aGet (k+1) (.agg cs) (I n)=if 0<=n then(if n.toNat+k<=cs.size then some (.agg ((cs.toList.drop n.toNat).take k).toArray)else none)else none:=rfl
@[simp] theorem aGet_zero' {cs ds:Array Value}:aGet 0 (.agg cs) (.agg ds)=cs[0]?:=rfl
@[simp] theorem aGet_succ' {cs ds:Array Value} {k:Nat}:aGet (k+1) (.agg cs) (.agg ds)=if k<=cs.size then some (.agg (cs.toList.take k).toArray)else none:=by simp[aGet,numV,aField]
@[simp] theorem aPut_num {cs:Array Value} {n:Nat} {m:Int} {x:Value}:aPut n x (.agg cs) (I m)=match cellsOf x with
  |some xs=>if xs.length=n∧0<=m∧m.toNat+n<=cs.size then some (.agg (splice cs.toList m.toNat xs).toArray)else none
  |none=>none:=by simp only[aPut,numV];cases cellsOf x<;>rfl
@[simp] theorem aPut_agg {cs ds:Array Value} {n:Nat} {x:Value}:aPut n x (.agg cs) (.agg ds)=match cellsOf x with
  |some xs=>if xs.length=n∧n<=cs.size then some (.agg (splice cs.toList 0 xs).toArray)else none
  |none=>none:=by simp only[aPut,numV];cases cellsOf x<;>simp
@[simp] theorem resOf_one {σ:Nat->Value} {i:Nat}:resOf σ h [(i,0)]=some (σ i):=by simp[resOf,resAll,resOne]
@[simp] theorem solid_agg {a:Array Value}:solid (.agg a)=true:=rfl
@[simp] theorem solid_int {k:IntKind} {n:Int}:solid (.int k n)=true:=rfl
@[simp] theorem solid_bool {b:Bool}:solid (.bool b)=true:=rfl
@[simp] theorem solid_string {s:ByteArray}:solid (.string s)=true:=rfl
@[simp] theorem solid_pointer {a:Option Addr}:solid (.pointer a)=true:=rfl
@[simp] theorem solid_slice {a:Option Addr} {n c:Nat}:solid (.slice a n c)=true:=rfl
@[simp] theorem resOf_two {σ:Nat->Value} {i j:Nat}:resOf σ h [(i,0),(j,0)]=if solid (σ i)&&solid (σ j)then some (.tuple #[σ i,σ j])else none:=by simp[resOf,resAll,resOne]
@[simp] theorem resOf_three {σ:Nat->Value} {i j k:Nat}:resOf σ h [(i,0),(j,0),(k,0)]=if solid (σ i)&&(solid (σ j)&&solid (σ k))then some (.tuple #[σ i,σ j,σ k])else none:=by simp[resOf,resAll,resOne]
theorem resOf_box{σ:Nat->Value}{i c:Nat}(hc:1000000<=c):resOf σ h [(i,c)]=aField (c-1000000) 0 (σ i):=by
 simp only[resOf,resAll,resOne]
 rw[if_neg (by omega),if_pos hc]
 cases aField (c-1000000) 0 (σ i)<;>rfl
@[simp] theorem resOf_none {σ:Nat->Value}:resOf σ h []=some (.tuple #[]):=by simp[resOf,resAll]
end vals
theorem wrap_signed{k:IntKind}{n M m:Int}(hs:k.signed=true)(hM:(2:Int)^k.bits=M)(hm:(2:Int)^(k.bits-1)=m)(h2:M=2*m)(a:-m<=n)(b:n<m):k.wrap n=n:=by
 unfold IntKind.wrap
 simp only[hs,hM,hm,Bool.true_and]
 by_cases h0:0<=n
 ·have e:n%M=n:=Int.emod_eq_of_lt h0 (by omega)
  rw[e,if_neg (by simp;omega)]
 ·have e:n%M=n+M:=by
   rw[<-Int.add_emod_right]
   exact Int.emod_eq_of_lt (by omega) (by omega)
  rw[e,if_pos (by simp;omega)]
  omega
theorem wrap_unsigned{k:IntKind}{n M:Int}(hs:k.signed=false)(hM:(2:Int)^k.bits=M)(a:0<=n)(b:n<M):k.wrap n=n:=by
 unfold IntKind.wrap
 simp only[hs,hM,Bool.false_and,Bool.false_eq_true,if_false]
 exact Int.emod_eq_of_lt a b
theorem wrap64{n:Int}(a:-9223372036854775808<=n)(b:n<9223372036854775808):IntKind.i64.wrap n=n:=
 wrap_signed (M:=18446744073709551616) (m:=9223372036854775808) rfl (by decide) (by decide) (by decide) a b
theorem tmod_pos{a b:Int}(h:0<=a):a.tmod b=a%b:=Int.tmod_eq_emod_of_nonneg h
theorem tdiv_pos{a b:Int}(h:0<=a):a.tdiv b=a/b:=Int.tdiv_eq_ediv_of_nonneg h
theorem wrap8{n:Int}(a:0<=n)(b:n<256):IntKind.u8.wrap n=n:=wrap_unsigned (M:=256) rfl (by decide) a b
end Am

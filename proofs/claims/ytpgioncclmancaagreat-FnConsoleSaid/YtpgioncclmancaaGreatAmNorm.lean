/- From the model's code to the normalised code of 'Am': types give way to numbers of cells, functions get lasting numbers, slots that one region alone uses become its own. -/
import Derived.Test.YtpgioncclmancaaGreatAmCore
import GoSem.Dispatch
set_option linter.unusedVariables false
set_option linter.unusedSimpArgs false
namespace Am
open Go
/-- A constant as 'Am' has it: the nil slice is an empty one in block 0. -/
def cvScalar:Value->Option Value
 |.bool b=>some (.bool b)
 |.int k n=>some (.int k n)
 |.string s=>some (.string s)
 |.pointer none=>some (.pointer none)
 |.nilFunc=>some .nilFunc
 |.slice none 0 0=>some (sl 0 0 0 0)
 |_=>none
def cvAll:List Value->Option (List Value)
 |[]=>some []
 |v::r=>match cvScalar v,cvAll r with
  |some x,some xs=>some (x::xs)
  |_,_=>none
def cv:Value->Option Value
 |.agg cs=>(cvAll cs.toList).map λl=>.agg l.toArray
 |v=>cvScalar v
def codeOfKind:IntKind->Nat
 |.i8=>0|.i16=>1|.i32=>2|.i64=>3|.u8=>4|.u16=>5|.u32=>6|.u64=>7
/-- What a seat knows: its program, the lasting number (plus one) of each function, the struct types that '==' may meet. -/
structure Seat where
 P:Program
 ν:List Nat
 eqT:List TypeId
section
variable (A : Seat) (loc pb : List Nat) (env : List (Nat × Nat))
def sizeT(t:TypeId):Option Nat:=match A.P.info? t,A.P.underlying t with
 |some i,some _=>some i.size
 |_,_=>none
def aggT(t:TypeId):Bool:=match A.P.underlying t with
 |some (.struct _)|some (.array _ _)=>true
 |_=>false
def isU8:Option TypeDesc->Bool
 |some (.int .u8)=>true
 |_=>false
def own(t:Nat):Bool:=loc.contains t
def nFn(g:FuncId):Option Nat:=match A.ν[g]? with
 |some (n+1)=>some n
 |_=>none
/-- The private box that a slot points into. -/
def boxOf(env:List (Nat×Nat))(t:Nat):Option Nat:=(env.find? (·.1==t)).map (·.2)
def nOperand:Operand->Option Operand
 |.tmp t=>if pb.contains t||(boxOf env t).isSome then none else some (if own loc t then .global t else .tmp t)
 |.const v=>(cv v).map .const
 |.func g=>(nFn A g).map .func
 |.global _=>none
def nParts(f:Nat->Option Nat):List (Nat×Operand)->Option (List (Nat×Operand))
 |[]=>some []
 |(i,x)::r=>match f i,nOperand A loc pb env x,nParts f r with
  |some n,some y,some ys=>some ((n,y)::ys)
  |_,_,_=>none
def nOpt:Option Operand->Option (Option Operand)
 |none=>some none
 |some x=>(nOperand A loc pb env x).map some
def nOperands:List Operand->Option (List Operand)
 |[]=>some []
 |x::r=>match nOperand A loc pb env x,nOperands r with
  |some y,some ys=>some (y::ys)
  |_,_=>none
/-- The zero value of a type, as a row of cells. -/
def zeroCellsT(t:TypeId):Option (List Value):=match(A.P.info? t).bind (·.zero)with
 |some v=>match cv v with
  |some (.agg cs)=>some cs.toList
  |some x=>some [x]
  |none=>none
 |none=>none
def zeroT(t:TypeId):Option Value:=((A.P.info? t).bind (·.zero)).bind cv
def arrCode(n z:Nat):Option Nat:=if z<1000∧n<100000 then some (1000000+1000*n+z)else none
def nOp:Op->Option Op
 |.move x|.assign x=>(nOperand A loc pb env x).map .move
 |.pick c a b=>match nOperand A loc pb env c,nOperand A loc pb env a,nOperand A loc pb env b with
  |some c,some a,some b=>some (.pick c a b)
  |_,_,_=>none
 |.alloc e=>match sizeT A e,zeroT A e with
  |some n,some z=>some (.box n (.const z))
  |_,_=>none
 |.box e x=>match sizeT A e,nOperand A loc pb env x with
  |some n,some y=>some (.box n y)
  |_,_=>none
 |.build t ps=>match A.P.underlying t,zeroT A t with
  |some (.struct fs),some (.agg z)=>
   match nParts A loc pb env (λi=>match fs[i]? with
    |some f=>(sizeT A f.type).bind λn=>if n<1000 then some (1000*f.offset+n)else none
    |none=>none) ps.toList with
   |some l=>if fs.toList.all λf=>(sizeT A f.type).isSome then some (.build 0 ((0,.const (.agg z))::l).toArray)else none
   |none=>none
  |some (.array _ e),some (.agg z)=>
   match sizeT A e with
   |some n=>match nParts A loc pb env (λi=>some (1000*(i*n)+n)) ps.toList with
    |some l=>if n<1000 then some (.build 0 ((0,.const (.agg z))::l).toArray)else none
    |none=>none
   |none=>none
  |_,_=>none
 |.buildSlice t n ps=>match A.P.underlying t with
  |some (.slice e)=>match sizeT A e,zeroCellsT A e with
   |some z,some c=>match nParts A loc pb env (λi=>some (1000*(i*z)+z)) ps.toList with
    |some l=>if n=0 then(if l.isEmpty&&z !=0 then some (.move (.const (sl 0 0 0 z)))else none)else if 0<z∧z<1000∧c.length=z∧n*z<=65536 then some (.buildSlice z n ((0,.const (.agg (reps n c).toArray))::l).toArray)else none
    |none=>none
   |_,_=>none
  |_=>none
 |.load t a=>match sizeT A t,nOperand A loc pb env a with
  |some n,some a=>some (.load (if aggT A t then n+1 else 0) a)
  |_,_=>none
 |.store t a x=>match sizeT A t,nOperand A loc pb env a,nOperand A loc pb env x with
  |some n,some a,some x=>some (.store n a x)
  |_,_,_=>none
 |.nilCheck x=>(nOperand A loc pb env x).map .nilCheck
 |.binOp o t x y _=>match nOperand A loc pb env x,nOperand A loc pb env y with
  |some x,some y=>match A.P.underlying t with
   |some .bool=>some (.binOp o 1 x y 0)
   |some (.slice _)=>some (.binOp o 0 x y 1)
   |some (.struct _)|some (.array _ _)=>if A.eqT.contains t then(sizeT A t).map λn=>.binOp o (n+2) x y 0 else none
   |_=>some (.binOp o 0 x y 0)
  |_,_=>none
 |.unOp o _ x=>(nOperand A loc pb env x).map λx=>.unOp o 0 x
 |.convert s d x=>match nOperand A loc pb env x,A.P.underlying s,A.P.underlying d with
  |some x,some (.int _),some (.int k)=>some (.convert 0 (codeOfKind k) x)
  |some x,some .string,some .string=>some (.convert 0 22 x)
  |some x,some .string,some (.slice e)=>if isU8 (A.P.underlying e)∧sizeT A e=some 1 then some (.convert 0 20 x)else none
  |some x,some (.slice e),some .string=>if isU8 (A.P.underlying e)then some (.convert 0 21 x)else none
  |_,_,_=>none
 |.makeFunc (.func g) first caps=>match nFn A g,nOperands A loc pb env first.toList,nOperands A loc pb env caps.toList with
  |some f,some l0,some l=>some (.makeFunc (.func f) l0.toArray l.toArray)
  |_,_,_=>none
 |.makeSlice t l c=>match A.P.underlying t with
  |some (.slice e)=>match sizeT A e,zeroCellsT A e,nOperand A loc pb env l,nOperand A loc pb env c with
   |some z,some cs,some l,some c=>if 0<z∧cs.length=z∧(A.P.info? e).map (decide<|·.bytes<=4096)=some true then some (.mapUpdate z l c (.const (.agg cs.toArray)))else none
   |_,_,_,_=>none
  |_=>none
 |.slice t x lo hi mx=>match nOperand A loc pb env x,nOpt A loc pb env lo,nOpt A loc pb env hi,nOpt A loc pb env mx with
  |some x,some lo,some hi,some mx=>match A.P.underlying t with
   |some .string=>some (.slice 0 x lo hi mx)
   |some (.slice e)=>(sizeT A e).bind λz=>if z<1000 then some (.slice (2*z+1) x lo hi mx)else none
   |some (.array n e)=>(sizeT A e).bind λz=>(arrCode n z).map λc=>.slice c x lo hi mx
   |_=>none
  |_,_,_,_=>none
 |.fieldAddr t x f=>match nOperand A loc pb env x,A.P.underlying t with
  |some x,some (.struct fs)=>match fs[f]? with
   |some fd=>match sizeT A fd.type with
    |some (_+1)=>some (.fieldAddr fd.offset x 0)
    |_=>none
   |none=>none
  |_,_=>none
 |.field t x f=>match nOperand A loc pb env x,A.P.underlying t with
  |some x,some (.struct fs)=>match fs[f]? with
   |some fd=>match sizeT A fd.type with
    |some n=>some (.field (if aggT A fd.type then n+1 else 0) x fd.offset)
    |none=>none
   |none=>none
  |_,_=>none
 |.indexAddr t x i=>match nOperand A loc pb env x,nOperand A loc pb env i,A.P.underlying t with
  |some x,some i,some (.slice e)=>(sizeT A e).bind λz=>if z<1000 then some (.indexAddr (2*z+1) x i)else none
  |some x,some i,some (.array n e)=>(sizeT A e).bind λz=>(arrCode n z).map λc=>.indexAddr c x i
  |_,_,_=>none
 |.index t x i=>match nOperand A loc pb env x,nOperand A loc pb env i,A.P.underlying t with
  |some x,some i,some .string=>some (.index 0 x i)
  |some x,some i,some (.array n e)=>(sizeT A e).bind λz=>if aggT A e then(if 0<z then(arrCode n z).map λc=>.index c x i else none)else if z=1 then(arrCode n 0).map λc=>.index c x i else none
  |_,_,_=>none
 |.extract x i=>(nOperand A loc pb env x).map λx=>.extract x i
 |.call {callee:=.builtin b,args,argTypes}=>match nOperands A loc pb env args.toList with
  |some l=>match b,argTypes.toList with
   |.len,[t]=>match A.P.underlying t with
    |some .string=>some (.call {callee:=.builtin .len,args:=l.toArray,argTypes:=#[0]})
    |some (.slice _)=>some (.call {callee:=.builtin .len,args:=l.toArray,argTypes:=#[1]})
    |_=>none
   |.append,[t,t1]=>match A.P.underlying t,A.P.underlying t1 with
    |some (.slice e),some (.slice _)|some (.slice e),some .string=>match sizeT A e,zeroCellsT A e with
     |some z,some c=>if c.length=z∧(A.P.info? e).map (decide<|·.bytes<=4096)=some true then some (.call {callee:=.builtin .append,args:=l.toArray,argTypes:=#[z]})else none
     |_,_=>none
    |_,_=>none
   |.copy,[t,_]=>match A.P.underlying t with
    |some (.slice e)=>match sizeT A e with
     |some z=>some (.call {callee:=.builtin .copy,args:=l.toArray,argTypes:=#[z]})
     |none=>none
    |_=>none
   |.max,_=>some (.call {callee:=.builtin .max,args:=l.toArray,argTypes:=#[0]})
   |.min,_=>some (.call {callee:=.builtin .min,args:=l.toArray,argTypes:=#[0]})
   |_,_=>none
  |_=>none
 |.call {callee:=.value f,args,..}=>match nOperand A loc pb env f,nOperands A loc pb env args.toList with
  |some f,some l=>some (.call {callee:=.value f,args:=l.toArray,argTypes:=#[]})
  |_,_=>none
 |_=>none
def tmpsOf(l:List Operand):List Nat:=l.filterMap λ|.tmp t=>some t|_=>none
/-- Each other operation that does more than compute is ordered before or behind operation i, or stands behind it in the text and lays a block from its operands alone. -/
def pinned(b:Array Nat)(ps:List Oper)(i:Nat):Bool:=ps.zipIdx.all λ(p,k)=>k==i||slotOnly p.op||(if k<i then(b.getD i 0).testBit k else(b.getD k 0).testBit i||laysOnly p.op)
def edgesOk(ops:Array Oper):Bool:=
 (List.range ops.size).all λj=>match ops[j]? with
  |some o=>o.after.toList.all λe=>!Region.binds .any e||decide (e.on<j)
  |none=>false
def nGuard(ops:Array Oper):Option (Nat×Bool)->Option (Option (Nat×Bool))
 |none=>some none
 |some (j,w)=>match(ops[j]?).bind (·.dst)with
  |some d=>some (some (4*d+(if own loc d then 1 else 0),w))
  |none=>none
/-- An operand that is a private box, or points into one: the box, and the number that says where. -/
def nPriv:Operand->Option (Nat×Operand)
 |.tmp t=>if pb.contains t then some (t,.tmp t)else(boxOf env t).map λa=>(a,.global t)
 |_=>none
/-- Operations on private boxes: the slot that is written, and the form. -/
def nPrivOp(dst:Option Nat)(o:Op):Option (Option Nat×Op):=match o with
 |.alloc e=>match dst with
  |some a=>if pb.contains a then(zeroCellsT A e).bind λz=>if sizeT A e=some z.length then some (some a,.move (.const (.agg z.toArray)))else none else none
  |none=>none
 |.box e x=>match dst,sizeT A e,nOperand A loc pb env x with
  |some a,some n,some y=>if pb.contains a then some (some a,.makeChan n y)else none
  |_,_,_=>none
 |.fieldAddr t x f=>match dst,nPriv pb env x,A.P.underlying t with
  |some d,some (a,y),some (.struct fs)=>match fs[f]? with
   |some fd=>match sizeT A fd.type with
    |some (_+1)=>if boxOf env d=some a then some (some d,.fieldAddr fd.offset y 1)else none
    |_=>none
   |none=>none
  |_,_,_=>none
 |.indexAddr t x i=>match dst,nPriv pb env x,A.P.underlying t,nOperand A loc pb env i with
  |some d,some (a,y),some (.array n e),some i=>(sizeT A e).bind λz=>if boxOf env d=some a then(arrCode n z).map λc=>(some d,.lookup c y i true)else none
  |_,_,_,_=>none
 |.load t x=>match dst,nPriv pb env x,sizeT A t with
  |some d,some (a,y),some n=>if pb.contains d||(boxOf env d).isSome then none else some (some d,.lookup (if aggT A t then n+1 else 0) (.tmp a) y false)
  |_,_,_=>none
 |.store t x v=>match dst,nPriv pb env x,sizeT A t,nOperand A loc pb env v with
  |none,some (a,y),some n,some v=>some (some a,.insert n (.tmp a) y v)
  |_,_,_,_=>none
 |_=>none
/-- Whether a guard looks at a slot. -/
def usedG(ops:Array Oper)(d:Nat):Bool:=ops.any λx=>match x.guard with
 |some (j,_)=>(ops[j]?).bind (·.dst)==some d
 |none=>false
/-- A guard, with the mark that what is skipped says so. -/
def markG(ops:Array Oper)(d:Nat):Option (Nat×Bool)->Option (Nat×Bool)
 |some (i,w)=>if usedG ops d&&(!pb.contains d&&(boxOf env d).isNone)then some (i+2,w)else some (i,w)
 |none=>none
def nOper(ops:Array Oper)(o:Oper):Option Oper:=
 match nGuard loc ops o.guard with
 |some g=>
  match nPrivOp A loc pb env o.dst o.op with
  |some (d,p)=>
   if g.isSome&&d !=o.dst then none else
   match d with
   |some d=>some (op d p (if own loc d then 1 else 0) (markG pb env ops d g))
   |none=>none
  |none=>
   match nOp A loc pb env o.op with
   |some p=>
    match o.dst with
    |some d=>if pb.contains d||(boxOf env d).isSome then none else some (op d p (if own loc d then 1 else 0) (markG pb env ops d g))
    |none=>some (opn p 0 g)
   |none=>none
 |none=>none
def nOpers(ops:Array Oper):List Oper->Option (List Oper)
 |[]=>some []
 |o::r=>match nOper A loc pb env ops o,nOpers ops r with
  |some x,some xs=>some (x::xs)
  |_,_=>none
/-- A slot as a number; see sideOf. -/
def sideCode:Operand->Option Nat
 |.tmp i=>some (2*i)
 |.global i=>some (2*i+1)
 |_=>none
def sameSlot(y x:Operand):Bool:=match sideCode y,sideCode x with
 |some a,some b=>a==b
 |_,_=>false
theorem two_inj(a c:Nat)(h:(2*a==2*c)=true):a=c:=by have:=eq_of_beq h;omega
theorem two_odd(a c:Nat)(h:(2*a==2*c+1)=true):False:=by have:=eq_of_beq h;omega
theorem odd_two(a c:Nat)(h:(2*a+1==2*c)=true):False:=by have:=eq_of_beq h;omega
theorem odd_inj(a c:Nat)(h:(2*a+1==2*c+1)=true):a=c:=by have:=eq_of_beq h;omega
theorem sameSlot_eq{y x:Operand}(h:sameSlot y x=true):y=x:=by
 unfold sameSlot at h
 cases y with
 |tmp a=>cases x with
  |tmp c=>exact congrArg Operand.tmp (two_inj a c h)
  |global c=>exact(two_odd a c h).elim
  |_=>cases h
 |global a=>cases x with
  |tmp c=>exact(odd_two a c h).elim
  |global c=>exact congrArg Operand.global (odd_inj a c h)
  |_=>cases h
 |_=>cases h
def sideFits(q:Nat)(x:Operand):Bool:=match sideOf q with
 |some y=>sameSlot y x
 |none=>false
theorem sideFits_eq{q:Nat}{x:Operand}(h:sideFits q x=true):sideOf q=some x:=by
 unfold sideFits at h
 split at h
 ·rename_i y hy
  rw[hy,sameSlot_eq h]
 ·cases h
/-- The slot through which operations ahead of i read, that may run behind it. -/
def sideSlot(b:Array Nat)(ps:List Oper)(i:Nat):Option Operand:=ps.zipIdx.findSome? λ(p,k)=>if decide (k<i)&&!slotOnly p.op&&!(b.getD i 0).testBit k then(match p.op with
 |.load _ x=>some x
 |_=>none)else none
def slotNo:Operand->Option Nat
 |.tmp i|.global i=>some i
 |_=>none
/-- Operation k, ahead of i, reads through a slot that no operation behind it writes up to i. -/
def readsBy(ps:List Oper)(i:Nat)(x:Operand)(k:Nat)(p:Oper):Bool:=decide (k<i)&&(match p.op with
 |.load _ y=>sameSlot y x
 |_=>false)&&ps.zipIdx.all λ(z,m)=>!(decide (k<=m)&&decide (m<i))||z.dst !=slotNo x
/-- As 'pinned', but operations ahead of i may read through a slot. -/
def pinnedBy(b:Array Nat)(ps:List Oper)(i:Nat)(x:Operand):Bool:=ps.zipIdx.all λ(p,k)=>k==i||slotOnly p.op||(if k<i then(b.getD i 0).testBit k||readsBy ps i x k p else(b.getD k 0).testBit i||laysOnly p.op)
/-- In a region whose order is open: what is not pinned may not turn a block; a call or an append among it must be quiet, or (if so wished) leave the block beside it that others read. -/
def nFlag(side:Bool)(b:Array Nat)(ps:List Oper):Nat->List Oper->Option (List Oper)
 |_,[]=>some []
 |i,p::r=>match nFlag side b ps (i+1) r with
  |some rest=>if slotOnly p.op||pinned b ps i then some (p::rest)else if turns p.op then none else if mayTurn p.op then
    (match(if side then sideSlot b ps i else none)with
    |some x=>match sideCode x with
     |some c=>if pinnedBy b ps i x&&sideFits (p.type+4*(c+1)) x then some ({p with type:=p.type+4*(c+1)}::rest)else none
     |none=>none
    |none=>some ({p with type:=p.type+2}::rest))else some (p::rest)
  |none=>none
/-- Which slots of a region point into which private boxes. -/
def envGo:List (Nat×Nat)->List Oper->List (Nat×Nat)
 |e,[]=>e
 |e,o::r=>match o.dst,o.op with
  |some d,.fieldAddr _ x _|some d,.indexAddr _ x _=>match nPriv pb e x with
   |some (a,_)=>if own loc d then envGo ((d,a)::e) r else envGo e r
   |none=>envGo e r
  |_,_=>envGo e r
/-- No slot that points into a box is written twice; no box is made anew behind a pointer into it. -/
def envOk:List Oper->Bool
 |[]=>true
 |o::r=>(match o.dst with
  |some d=>match boxOf env d with
   |some a=>r.all λp=>p.dst !=some d&&p.dst !=some a
   |none=>true
  |none=>true)&&envOk r
/-- The slots that a normalised operation reads. -/
def readsN(o:Oper):List Nat:=
 (o.op.operands.toList.filterMap λ|.tmp t=>some t|.global t=>some t|_=>none)++(match o.guard with
  |some (g,_)=>[g/4]
  |none=>[])
def apartN(b:Array Nat)(i j:Nat)(x y:Oper):Bool:=
 (b.getD j 0).testBit i||((match x.dst with|some d=>!(readsN y).contains d&&y.dst !=some d|none=>true)&&(match y.dst with|some d=>!(readsN x).contains d|none=>true))
def slotsOkN(b:Array Nat)(ps:List Oper):Bool:=
 ps.zipIdx.all λ(y,j)=>ps.zipIdx.all λ(x,i)=>!decide (i<j)||apartN b i j x y
/-- Slots are named as they should be: the region's own as such, the others as such. -/
def wfOper(p:Oper):Bool:=
 (p.op.operands.toList.all λ|.tmp i=>!own loc i|.global i=>own loc i|_=>true)&&
 (match p.guard with|some (i,_)=>(i%2==1)==own loc (i/4)|none=>true)&&
 (match p.dst with|some d=>isOwn p.type==own loc d|none=>true)&&
 (match sideOf p.type with|some (.tmp i)=>!own loc i|some (.global i)=>own loc i|_=>true)
/-- A box is made before what points into it. -/
def boxFirst(b:Array Nat)(ops:List Oper):Bool:=
 ops.zipIdx.all λ(x,i)=>ops.zipIdx.all λ(y,j)=>match x.dst,y.dst with
  |some a,some d=>boxOf env d !=some a||decide (j<i)||(b.getD j 0).testBit i
  |_,_=>true
def envWf:Bool:=env.all λp=>own loc p.1&&pb.contains p.2&&!pb.contains p.1
def nRegion(ops:Array Oper)(draw:Bool):Option (List Oper):=
 let env:=envGo loc pb [] ops.toList
 if envOk env ops.toList&&envWf loc pb env then
  match nOpers A loc pb env ops ops.toList with
  |some ps=>
   match(if draw then(if edgesOk ops&&slotsOkN (Region.before ops) ps&&boxFirst env (Region.before ops) ops.toList then nFlag (loc.contains 1000000) (Region.before ops) ps 0 ps else none)else some ps)with
   |some l=>if l.all (wfOper loc)&&(!draw||slotsOkN (Region.before ops) l)then some l else none
   |none=>none
  |none=>none
 else none
def nCode:Code->Option Code
 |.skip=>some .skip
 |.region _ ops draw=>(nRegion A loc pb ops draw).map λl=>.region 0 l.toArray false
 |.seq a b=>match nCode a,nCode b with
  |some a,some b=>some (.seq a b)
  |_,_=>none
 |.cond c a b=>match nOperand A loc pb [] c,nCode a,nCode b with
  |some c,some a,some b=>some (.cond c a b)
  |_,_,_=>none
 |.block id c=>(nCode c).map (.block id)
 |.loop c=>(nCode c).map .loop
 |.exit id=>some (.exit id)
 |.ret=>some .ret
 |_=>none
def nRes:List ResultVar->Option (List (Nat×Nat))
 |[]=>some []
 |.tmp t::r=>if own loc t||pb.contains t then none else(nRes r).map ((t,0)::·)
 |.cell a t::r=>if own loc a then none else match sizeT A t with
  |some n=>if n<1000 then(nRes r).map ((a,(if pb.contains a then 1000000 else 1)+(if aggT A t then n+1 else 0))::·)else none
  |none=>none
/-- Each slot that is written lies among the first m. -/
def dstOk(m:Nat):Code->Bool
 |.region _ ops _=>ops.toList.all λo=>match o.dst with
  |some d=>decide (d<m)
  |none=>true
 |.seq a b|.cond _ a b=>dstOk m a&&dstOk m b
 |.block _ c|.loop c=>dstOk m c
 |_=>true
def nFun(F:Func):Option AFun:=match F.body with
 |some c=>match nCode A loc pb c,nRes A loc pb F.results.toList with
  |some c,some r=>if(List.range (F.params.size+F.nfree)).all (λi=>!own loc i&&!pb.contains i)&&pb.all (λi=>!own loc i)&&F.name != "runtime.NumGoroutine" &&(F.body.map (dstOk F.ntmps)).getD false then some ⟨F.params.size+F.nfree,c,r⟩else none
  |_,_=>none
 |none=>none
end
end Am

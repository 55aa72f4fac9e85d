/- The abstract machine 'Am': regions, blocks and loops of normalised code over a heap that is a list of blocks; its rules. No program in sight. -/
import GoSem.Core.View
set_option linter.unusedVariables false
set_option linter.unusedSimpArgs false
namespace Am
open Go
/-- A value that says nothing. -/
abbrev poison:Value:=.nilIface
abbrev I(n:Int):Value:=.int .i64 n
abbrev U(n:Int):Value:=.int .u8 n
abbrev B(b:Bool):Value:=.bool b
abbrev S(l:List UInt8):Value:=.string ⟨l.toArray⟩
/-- A slice: block, first cell, number of elements, cells of an element. Block 0 is the slice without memory. -/
abbrev sl(b o n z:Nat):Value:=.slice (some ⟨b,o,none⟩) n z
abbrev pt(b o:Nat):Value:=.pointer (some ⟨b,o,none⟩)
structure Blk where
 cells:List Value
 rw:Bool
abbrev Heap:=List Blk
structure AFun where
 ar:Nat
 code:Code
 res:List (Nat×Nat)
def upd(σ:Nat->Value)(i:Nat)(v:Value):Nat->Value:=λj=>if j=i then v else σ j
theorem upd_apply(σ:Nat->Value)(i:Nat)(v:Value)(j:Nat):upd σ i v j=if j=i then v else σ j:=rfl
def nothing:Nat->Value:=λ_=>poison
def ev(σ τ:Nat->Value):Operand->Value
 |.tmp i=>σ i
 |.global i=>τ i
 |.const v=>v
 |.func f=>.func (.func f) #[] #[]
/-- An operation: where its value goes (a slot that is kept, or one of the region alone), whether it must leave all blocks as they are, and what it waits for. -/
def op(d:Nat)(o:Op)(q:Nat:=0)(g:Option (Nat×Bool):=none):Oper:={dst:=some d,op:=o,type:=q,pos:= "",after:=#[],guard:=g}
def opn(o:Op)(q:Nat:=0)(g:Option (Nat×Bool):=none):Oper:={dst:=none,op:=o,type:=q,pos:= "",after:=#[],guard:=g}
/-- q: 1 the slot is the region's own · 2 quiet · 3 both -/
def isOwn(q:Nat):Bool:=q%2==1
def isQuiet(q:Nat):Bool:=q/2==1
/-! ### heap -/
def cell(h:Heap)(b i:Nat):Option Value:=match h[b]? with
 |some k=>k.cells[i]?
 |none=>none
def cellsAt(h:Heap)(b o n:Nat):Option (List Value):=match h[b]? with
 |some k=>if o+n<=k.cells.length then some ((k.cells.drop o).take n)else none
 |none=>none
def splice(cs:List Value)(o:Nat)(vs:List Value):List Value:=cs.take o++vs++cs.drop (o+vs.length)
def storeAt(h:Heap)(b o:Nat)(vs:List Value):Option Heap:=match h[b]? with
 |some k=>if k.rw=true∧o+vs.length<=k.cells.length then some (h.set b ⟨splice k.cells o vs,true⟩)else none
 |none=>none
/-! ### values -/
def scalar:Value->Bool
 |.bool _|.int _ _|.string _|.pointer _|.slice _ _ _|.func _ _ _|.nilFunc=>true
 |_=>false
def cellsOf:Value->Option (List Value)
 |.agg cs=>some cs.toList
 |v=>if scalar v then some [v]else none
def lexLt:List UInt8->List UInt8->Bool
 |_,[]=>false
 |[],_::_=>true
 |a::x,b::y=>a<b||(a==b&&lexLt x y)
def kindOf:Nat->Option IntKind
 |0=>some .i8|1=>some .i16|2=>some .i32|3=>some .i64|4=>some .u8|5=>some .u16|6=>some .u32|7=>some .u64|_=>none
def maxSize:Nat:=1073741824
def bitsOp(k:IntKind)(f:BitVec k.bits->BitVec k.bits->BitVec k.bits)(a b:Int):Value:=
 .int k (k.wrap ((f (BitVec.ofInt k.bits a) (BitVec.ofInt k.bits b)).toNat:Int))
def aInt:BinOp->IntKind->Int->IntKind->Int->Option Value
 |.add,k,a,j,b=>if k=j then some (.int k (k.wrap (a+b)))else none
 |.sub,k,a,j,b=>if k=j then some (.int k (k.wrap (a-b)))else none
 |.mul,k,a,j,b=>if k=j then some (.int k (k.wrap (a*b)))else none
 |.quo,k,a,j,b=>if k=j∧b≠0 then some (.int k (k.wrap (a.tdiv b)))else none
 |.rem,k,a,j,b=>if k=j∧b≠0 then some (.int k (a.tmod b))else none
 |.and,k,a,j,b=>if k=j then some (bitsOp k (· &&& ·) a b)else none
 |.or,k,a,j,b=>if k=j then some (bitsOp k (· ||| ·) a b)else none
 |.xor,k,a,j,b=>if k=j then some (bitsOp k (· ^^^ ·) a b)else none
 |.andNot,k,a,j,b=>if k=j then some (bitsOp k (λx y=>x &&& ~~~y) a b)else none
 |.shl,k,a,_,b=>if 0<=b then some (.int k (k.wrap (a*2^(min b.toNat k.bits))))else none
 |.shr,k,a,_,b=>if 0<=b then some (.int k (a.fdiv (2^(min b.toNat k.bits))))else none
 |.eql,k,a,j,b=>if k=j then some (.bool (decide (a=b)))else none
 |.neq,k,a,j,b=>if k=j then some (.bool (decide (a≠b)))else none
 |.lss,k,a,j,b=>if k=j then some (.bool (decide (a<b)))else none
 |.leq,k,a,j,b=>if k=j then some (.bool (decide (a<=b)))else none
 |.gtr,k,a,j,b=>if k=j then some (.bool (decide (b<a)))else none
 |.geq,k,a,j,b=>if k=j then some (.bool (decide (b<=a)))else none
def aStr:BinOp->List UInt8->List UInt8->Option Value
 |.add,a,b=>if a.length+b.length<=4611686018427387904 then some (S (a++b))else none
 |.eql,a,b=>some (.bool (decide (a=b)))
 |.neq,a,b=>some (.bool (decide (a≠b)))
 |.lss,a,b=>some (.bool (lexLt a b))
 |.leq,a,b=>some (.bool (lexLt a b||decide (a=b)))
 |.gtr,a,b=>some (.bool (!(lexLt a b||decide (a=b))))
 |.geq,a,b=>some (.bool (!(lexLt a b)))
 |_,_,_=>none
def aBool:BinOp->Bool->Bool->Option Value
 |.eql,a,b=>some (.bool (a==b))
 |.neq,a,b=>some (.bool (!(a==b)))
 |_,_,_=>none
/-- Cells of plain structs: numbers. -/
def eqCells:List Value->List Value->Option Bool
 |[],[]=>some true
 |.int k a::x,.int j b::y=>if k=j then(eqCells x y).map λr=>decide (a=b)&&r else none
 |_,_=>none
def aAgg:BinOp->Nat->List Value->List Value->Option Value
 |.eql,n,a,b=>if a.length=n then(eqCells a b).map .bool else none
 |.neq,n,a,b=>if a.length=n then(eqCells a b).map λr=>.bool (!r)else none
 |_,_,_,_=>none
def aBin(o:BinOp)(n:Nat):Value->Value->Option Value
 |.int k a,.int j b=>aInt o k a j b
 |.string a,.string b=>aStr o a.data.toList b.data.toList
 |.bool a,.bool b=>if n=1 then aBool o a b else none
 |.agg a,.agg b=>if 2<=n then aAgg o (n-2) a.toList b.toList else none
 |_,_=>none
/-- A slice beside nil: the slice without memory whose elements have no cells is nil, no other one is. -/
def aNil:BinOp->Value->Value->Option Value
 |.eql,.slice (some a) _ z,.slice (some b) _ y=>if b.block=0∧y=0 then some (.bool (decide (a.block=0∧z=0)))else none
 |.neq,.slice (some a) _ z,.slice (some b) _ y=>if b.block=0∧y=0 then some (.bool (!decide (a.block=0∧z=0)))else none
 |_,_,_=>none
def aUn:UnOp->Value->Option Value
 |.neg,.int k n=>some (.int k (k.wrap (0-n)))
 |.xor,.int k n=>some (bitsOp k (· ^^^ ·) (if k.signed then -1 else k.max) n)
 |.not,.bool b=>some (.bool (!b))
 |_,_=>none
def asInts:List Value->Option (List UInt8)
 |[]=>some []
 |.int .u8 n::r=>(asInts r).map (UInt8.ofNat n.toNat::·)
 |_=>none
/-- 0 to 7: to that kind of numbers · 20: text to bytes · 21: bytes to text · 22: a text as it is -/
def aConv(c:Nat)(x:Value)(h:Heap):Option (Value×Heap):=
 if c=20 then
  match x with
  |.string s=>if s.size<=maxSize then some (sl h.length 0 s.size 1,h++[⟨s.data.toList.map λb=>U b.toNat,true⟩])else none
  |_=>none
 else if c=21 then
  match x with
  |.slice (some a) n _=>if n=0 then some (S [],h)else
   match cellsAt h a.block a.off n with
   |some cs=>(asInts cs).map λl=>(S l,h)
   |none=>none
  |_=>none
 else if c=22 then
  match x with
  |.string s=>some (.string s,h)
  |_=>none
 else
  match kindOf c,x with
  |some k,.int _ n=>some (.int k (k.wrap n),h)
  |_,_=>none
def aBox(n:Nat)(x:Value)(h:Heap):Option (Value×Heap):=match cellsOf x with
 |some cs=>if cs.length=n then some (pt h.length 0,h++[⟨cs,true⟩])else none
 |none=>none
/-- parts: a thousand times the first cell, plus the number of cells -/
def fillC:List (Nat×Value)->List Value->Option (List Value)
 |[],cs=>some cs
 |(p,v)::r,cs=>match cellsOf v with
  |some xs=>if xs.length=p%1000∧p/1000+xs.length<=cs.length then fillC r (splice cs (p/1000) xs)else none
  |none=>none
def aBuild:List (Nat×Value)->Option Value
 |(_,.agg z)::r=>(fillC r z.toList).map λcs=>.agg cs.toArray
 |_=>none
def aBuildSlice(z n:Nat)(h:Heap):List (Nat×Value)->Option (Value×Heap)
 |(_,.agg c)::r=>if c.size=n*z then(fillC r c.toList).map λcs=>(sl h.length 0 n z,h++[⟨cs,true⟩])else none
 |_=>none
def aLoad(k:Nat)(h:Heap):Value->Option Value
 |.pointer (some a)=>if k=0 then cell h a.block a.off else(cellsAt h a.block a.off (k-1)).map λcs=>.agg cs.toArray
 |_=>none
def aStore(n:Nat)(h:Heap)(x:Value):Value->Option Heap
 |.pointer (some a)=>match cellsOf x with
  |some cs=>if cs.length=n then storeAt h a.block a.off cs else none
  |none=>none
 |_=>none
def reps(n:Nat)(z:List Value):List Value:=(List.replicate n z).flatten
def aMake(z:Nat)(h:Heap):Value->Value->Value->Option (Value×Heap)
 |.int .i64 l,.int .i64 c,.agg e=>if 0<=l∧l<=c∧c<=(maxSize:Int)∧e.size=z then some (sl h.length 0 l.toNat z,h++[⟨reps l.toNat e.toList,true⟩])else none
 |_,_,_=>none
def bound(d:Nat):Option Value->Option Nat
 |none=>some d
 |some (.int _ n)=>if 0<=n then some n.toNat else none
 |some _=>none
/-- A block of our own holds m cells from there on. -/
def arrOk(h:Heap)(a:Addr)(m:Nat):Bool:=match h[a.block]? with
 |some k=>k.rw&&decide (a.off+m<=k.cells.length)
 |none=>false
/-- code 0: a text · 2 z + 1: a slice of elements of z cells · 1000000 + 1000 n + z: a pointer to an array -/
def aSlice(c:Nat)(h:Heap)(x:Value)(lo hi mx:Option Value):Option (Value×Heap):=
 if c=0 then
  match x,mx with
  |.string s,none=>match bound 0 lo,bound s.size hi with
   |some l,some e=>if l<=e∧e<=s.size then some (S ((s.data.toList.take e).drop l),h)else none
   |_,_=>none
  |_,_=>none
 else if c<1000000 then
  match x with
  |.slice (some a) n z=>match bound 0 lo,bound n hi with
   |some l,some e=>if l<=e∧e<=n∧(z=c/2∨a.block=0)then
     match mx with
     |none=>some (sl a.block (a.off+l*z) (e-l) z,h)
     |some _=>if bound 0 mx=some e∧l=0∧e=0∧hi.isSome=true∧(z≠0∨a.block=0)then some (sl 0 0 0 z,h)else none
    else none
   |_,_=>none
  |_=>none
 else
  match x,mx with
  |.pointer (some a),none=>match bound 0 lo,bound ((c-1000000)/1000) hi with
   |some l,some e=>if e=(c-1000000)/1000∧l<e∧a.block≠0∧c%1000=1∧arrOk h a (e*(c%1000))=true then some (sl a.block (a.off+l*(c%1000)) (e-l) (c%1000),h)else none
   |_,_=>none
  |_,_=>none
def aIndexAddr(c:Nat):Value->Value->Option Value
 |.slice (some a) n _,.int _ i=>if c<1000000∧0<=i∧i<n then some (pt a.block (a.off+i.toNat*(c/2)))else none
 |.pointer (some a),.int _ i=>if 1000000<=c∧0<=i∧i<(((c-1000000)/1000:Nat):Int)then some (pt a.block (a.off+i.toNat*(c%1000)))else none
 |_,_=>none
/-- In a box of the frame's own addresses are numbers: how many cells from its head. The box itself stands for its head. -/
def numV:Value->Option Int
 |.int .i64 n=>some n
 |.agg _=>some 0
 |_=>none
def indexNumV(c:Nat)(x:Value):Value->Option Value
 |.int _ i=>if 1000000<=c∧0<=i∧i<(((c-1000000)/1000:Nat):Int)then(numV x).map λn=>I (n+i*((c%1000:Nat):Int))else none
 |_=>none
/-- code 0: of a text · 1000000 + 1000 n + z: of an array whose elements are one cell (z = 0) or z cells -/
def aIndex(c:Nat):Value->Value->Option Value
 |.string s,.int _ i=>if c=0∧0<=i∧i<s.data.toList.length then(s.data.toList[i.toNat]?).map λb=>U b.toNat else none
 |.agg cs,.int _ i=>if 1000000<=c∧0<=i∧i<(((c-1000000)/1000:Nat):Int)then
   (if c%1000=0 then cs[i.toNat]? else if(i.toNat+1)*(c%1000)<=cs.size then some (.agg ((cs.toList.drop (i.toNat*(c%1000))).take (c%1000)).toArray)else none)else none
 |_,_=>none
/-- k: 0 one cell · n + 1 a part of n cells -/
def aField(k:Nat)(o:Nat):Value->Option Value
 |.agg cs=>if k=0 then cs[o]? else if o+(k-1)<=cs.size then some (.agg ((cs.toList.drop o).take (k-1)).toArray)else none
 |_=>none
/-- c: 0 of a text · 1 of a slice -/
def aLen(c:Nat):Value->Option Value
 |.string s=>if c=0∧s.data.toList.length<=9223372036854775807 then some (I s.data.toList.length)else none
 |.slice (some _) n _=>if c=1 then some (I n)else none
 |_=>none
def aExtract(i:Nat):Value->Option Value
 |.tuple vs=>vs[i]?
 |_=>none
/-- What is appended: a slice, or the bytes of a text. -/
def newCells(z:Nat)(h:Heap):Value->Option (List Value)
 |.slice (some a) n _=>if n=0 then some []else cellsAt h a.block a.off (n*z)
 |.string s=>if z=1 then some (s.data.toList.map λb=>U b.toNat)else none
 |_=>none
def aAppend(z:Nat)(h:Heap)(x:Value):Value->Option (Value×Heap)
 |.slice (some a) n y=>match newCells z h x with
  |some new=>
   if z=0 then none
   else if new=[]then some (.slice (some a) n y,h)
   else if maxSize<n+new.length then none
   else if a.block=0 then some (sl h.length 0 (new.length/z) z,h++[⟨new,true⟩])
   else match h[a.block]? with
    |some k=>if k.rw=true∧y=z then
      match cellsAt h a.block a.off (n*z)with
      |some old=>some (sl h.length 0 (n+new.length/z) z,h.set a.block ⟨[],false⟩++[⟨old++new,true⟩])
      |none=>none
     else none
    |none=>none
  |none=>none
 |_=>none
def aCopy(z:Nat)(h:Heap)(x:Value):Value->Option (Value×Heap)
 |.slice (some a) n _=>match newCells z h x with
  |some new=>
   if z=0 then none
   else if n*z=0∨new=[]then some (I 0,h)
   else(storeAt h a.block a.off (new.take (n*z))).map λh'=>(I ((min (n*z) new.length/z:Nat):Int),h')
  |none=>none
 |_=>none
def aMax:List Value->Option Value
 |[.int k a,.int _ b]=>some (.int k (if b>a then b else a))
 |_=>none
def aMin:List Value->Option Value
 |[.int k a,.int _ b]=>some (.int k (if b<a then b else a))
 |_=>none
def isFn:Value->Bool
 |.func _ _ _=>true
 |_=>false
def pickV(c a b:Value):Option Value:=match c with
 |.bool p=>some (if p then a else b)
 |_=>none
def nilV:Value->Option Value
 |.pointer (some a)=>some (.pointer (some a))
 |.func (.func f) c d=>some (.func (.func f) c d)
 |_=>none
def fieldAddrV(o:Nat):Value->Option Value
 |.pointer (some a)=>some (pt a.block (a.off+o))
 |_=>none
def fieldNumV(o:Nat)(x:Value):Option Value:=(numV x).map λn=>I (n+o)
/-- A box of the frame's own, whole. -/
def aWrap(n:Nat)(x:Value):Option Value:=match cellsOf x with
 |some cs=>if cs.length=n then some (.agg cs.toArray)else none
 |none=>none
/-- Read in a box of the frame's own; k as in aField. -/
def aGet(k:Nat)(x y:Value):Option Value:=match numV y with
 |some n=>if 0<=n then aField k n.toNat x else none
 |none=>none
/-- Write into it. -/
def aPut(n:Nat)(v:Value)(x y:Value):Option Value:=match x,numV y,cellsOf v with
 |.agg cs,some o,some xs=>if xs.length=n∧0<=o∧o.toNat+n<=cs.size then some (.agg (splice cs.toList o.toNat xs).toArray)else none
 |_,_,_=>none
def with_(o:Option Value)(h:Heap):Option (Value×Heap):=o.map (·,h)
def behind(o:Option Heap):Option (Value×Heap):=o.map (poison,·)
/-- What a function holds of its receiver: a struct. -/
def okFirst:Value->Bool
 |.agg cs=>cs.toList.all λv=>scalar v&&!isFn v
 |_=>false
def funcV(f:Nat)(fs cs:List Value)(h:Heap):Option (Value×Heap):=if(fs.all okFirst&&cs.all λv=>scalar v&&!isFn v)=true then some (.func (.func f) fs.toArray cs.toArray,h)else none
def aBuiltin(b:Builtin)(z:Nat)(h:Heap)(args:List Value):Option (Value×Heap):=
 match b,args with
 |.len,[x]=>with_ (aLen z x) h
 |.append,[s,x]=>aAppend z h x s
 |.copy,[s,x]=>aCopy z h x s
 |.max,l=>with_ (aMax l) h
 |.min,l=>with_ (aMin l) h
 |_,_=>none
/-- An operation that is no call: its value and the heap behind it. -/
def aOp(ρ:Operand->Value)(h:Heap):Op->Option (Value×Heap)
 |.move x=>some (ρ x,h)
 |.pick c a b=>with_ (pickV (ρ c) (ρ a) (ρ b)) h
 |.box n x=>aBox n (ρ x) h
 |.build _ ps=>with_ (aBuild (ps.toList.map λp=>(p.1,ρ p.2))) h
 |.buildSlice z n ps=>aBuildSlice z n h (ps.toList.map λp=>(p.1,ρ p.2))
 |.load k a=>with_ (aLoad k h (ρ a)) h
 |.store n a x=>behind (aStore n h (ρ x) (ρ a))
 |.nilCheck x=>with_ (nilV (ρ x)) h
 |.binOp o n x y m=>with_ (if m=1 then aNil o (ρ x) (ρ y)else aBin o n (ρ x) (ρ y)) h
 |.unOp o _ x=>with_ (aUn o (ρ x)) h
 |.convert _ c x=>aConv c (ρ x) h
 |.makeFunc (.func f) fs caps=>funcV f (fs.toList.map ρ) (caps.toList.map ρ) h
 |.mapUpdate z l c e=>aMake z h (ρ l) (ρ c) (ρ e)
 |.slice c x lo hi mx=>aSlice c h (ρ x) (lo.map ρ) (hi.map ρ) (mx.map ρ)
 |.fieldAddr o x k=>with_ (if k=0 then fieldAddrV o (ρ x)else fieldNumV o (ρ x)) h
 |.field k x o=>with_ (aField k o (ρ x)) h
 |.indexAddr c x i=>with_ (aIndexAddr c (ρ x) (ρ i)) h
 |.index c x i=>with_ (aIndex c (ρ x) (ρ i)) h
 |.extract x i=>with_ (aExtract i (ρ x)) h
 |.makeChan n x=>with_ (aWrap n (ρ x)) h
 |.lookup k x i b=>with_ (if b then indexNumV k (ρ x) (ρ i)else aGet k (ρ x) (ρ i)) h
 |.insert n x i v=>with_ (aPut n (ρ v) (ρ x) (ρ i)) h
 |.call {callee:=.builtin b,args,argTypes}=>aBuiltin b (argTypes.getD 0 0) h (args.toList.map ρ)
 |_=>none
/-- An operation whose value hangs on its operands alone. -/
def slotOnly:Op->Bool
 |.move _|.pick ..|.build ..|.nilCheck _|.binOp ..|.unOp ..|.makeFunc ..|.fieldAddr ..|.field ..|.indexAddr ..|.index ..|.extract ..|.makeChan ..|.lookup ..|.insert ..=>true
 |.slice c ..=>c<1000000
 |.convert _ c _=>c !=20&&c !=21
 |.call {callee:=.builtin b,..}=>b==.len||b==.max||b==.min
 |_=>false
/-- An operation that lays a block from its operands alone. -/
def laysOnly:Op->Bool
 |.box ..|.buildSlice ..|.mapUpdate ..=>true
 |.convert _ c _=>c==20
 |_=>false
/-- An operation that may turn a block by itself. -/
def turns:Op->Bool
 |.store ..=>true
 |.call {callee:=.builtin b,..}=>b==.copy
 |_=>false
/-- An operation that may turn a block or not. -/
def mayTurn:Op->Bool
 |.call {callee:=.builtin b,..}=>b==.append
 |.call {callee:=.value _,..}=>true
 |_=>false
/-- A call of a function: which, and its arguments. -/
def callOf(ρ:Operand->Value):Op->Option (Nat×List Value)
 |.call {callee:=.value f,args,..}=>match ρ f with
  |.func (.func g) fs caps=>some (g,fs.toList++(args.toList.map ρ++caps.toList))
  |_=>none
 |_=>none
/-! ### running -/
/-- What a skipped operation leaves: nothing that is known; or, where a guard looks at it, that nothing is there. -/
def skipV(g:Option (Nat×Bool)):Value:=match g with
 |some (i,_)=>if i/2%2=1 then .tuple #[]else poison
 |none=>poison
structure St where
 σ:Nat->Value
 τ:Nat->Value
 h:Heap
def St.put(s:St)(q:Nat)(d:Option Nat)(v:Value)(h:Heap):St:=match d with
 |some i=>if isOwn q then⟨s.σ,upd s.τ i v,h⟩else⟨upd s.σ i v,s.τ,h⟩
 |none=>⟨s.σ,s.τ,h⟩
abbrev Caller:=Nat->List Value->Heap->Option (Value×Heap)
/-- The slot whose block must stay as it is: type 4 and more; see nFlag. -/
def sideOf(q:Nat):Option Operand:=if q<4 then none else some (if(q/4-1)%2=1 then .global ((q/4-1)/2)else .tmp ((q/4-1)/2))
open Classical in
noncomputable def sameAt(h h':Heap)(v:Value):Bool:=match v with
 |.pointer (some a)=>decide (h'[a.block]?=h[a.block]?)
 |_=>false
theorem sameAt_iff{h h':Heap}{a:Addr}:sameAt h h' (.pointer (some a))=true↔h'[a.block]?=h[a.block]?:=by
 unfold sameAt;simp
/-- What an operation must leave as it is. -/
noncomputable def okQ(qz:Heap->Heap->Bool)(q:Nat)(ρ:Operand->Value)(h h':Heap):Bool:=(!isQuiet q||qz h h')&&(match sideOf q with
 |none=>true
 |some x=>sameAt h h' (ρ x))
theorem sideOf_small{q:Nat}(hq:q<4):sideOf q=none:=if_pos hq
theorem okQ_small{qz:Heap->Heap->Bool}{q:Nat}{ρ:Operand->Value}{h h':Heap}(hq:q<4):(okQ qz q ρ h h'=true)=(isQuiet q=false∨qz h h'=true):=by
 unfold okQ;rw[sideOf_small hq];cases isQuiet q<;>simp
theorem okQ_quiet{qz:Heap->Heap->Bool}{q:Nat}{ρ:Operand->Value}{h h':Heap}(hq:okQ qz q ρ h h'=true):isQuiet q=false∨qz h h'=true:=by
 unfold okQ at hq
 simp only[Bool.and_eq_true,Bool.or_eq_true,Bool.not_eq_true']at hq
 exact hq.1
theorem okQ_side{qz:Heap->Heap->Bool}{q:Nat}{ρ:Operand->Value}{h h':Heap}{x:Operand}(hq:okQ qz q ρ h h'=true)(hs:sideOf q=some x):sameAt h h' (ρ x)=true:=by
 unfold okQ at hq
 rw[hs]at hq
 simp only[Bool.and_eq_true]at hq
 exact hq.2
section
variable (qz : Heap -> Heap -> Bool) (call : Caller)
def wantedA(s:St):Option (Nat×Bool)->Option Bool
 |none=>some true
 |some (i,b)=>match ev s.σ s.τ (if i%2=1 then .global (i/4)else .tmp (i/4))with
  |.bool c=>some (c==b)
  |.tuple _=>some false
  |_=>none
noncomputable def stepA(o:Oper)(s:St):Option St:=
 match wantedA s o.guard with
 |none=>none
 |some false=>some (s.put o.type o.dst (skipV o.guard) s.h)
 |some true=>
  match callOf (ev s.σ s.τ) o.op with
  |some (f,args)=>match call f args s.h with
   |some (v,h')=>if okQ qz o.type (ev s.σ s.τ) s.h h'=true then some (s.put o.type o.dst v h')else none
   |none=>none
  |none=>match aOp (ev s.σ s.τ) s.h o.op with
   |some (v,h')=>if okQ qz o.type (ev s.σ s.τ) s.h h'=true then some (s.put o.type o.dst v h')else none
   |none=>none
noncomputable def execOps:List Oper->St->Option St
 |[],s=>some s
 |o::r,s=>match stepA qz call o s with
  |some s'=>execOps r s'
  |none=>none
abbrev Env':=Nat->Value
structure Out where
 e:Nat
 σ:Nat->Value
 h:Heap
def loopN(body:(Nat->Value)->Heap->Option Out):Nat->(Nat->Value)->Heap->Option Out
 |0,_,_=>none
 |n+1,σ,h=>match body σ h with
  |some r=>if r.e=0 then loopN body n r.σ r.h else some r
  |none=>none
noncomputable def exec(n:Nat):Code->(Nat->Value)->Heap->Option Out
 |.skip,σ,h=>some ⟨0,σ,h⟩
 |.region _ ops _,σ,h=>match execOps qz call ops.toList ⟨σ,nothing,h⟩with
  |some s=>some ⟨0,s.σ,s.h⟩
  |none=>none
 |.seq a b,σ,h=>match exec n a σ h with
  |some r=>if r.e=0 then exec n b r.σ r.h else some r
  |none=>none
 |.cond c a b,σ,h=>match ev σ nothing c with
  |.bool p=>if p then exec n a σ h else exec n b σ h
  |_=>none
 |.block id c,σ,h=>match exec n c σ h with
  |some r=>if r.e=id+2 then some ⟨0,r.σ,r.h⟩else some r
  |none=>none
 |.loop c,σ,h=>loopN (exec n c) n σ h
 |.exit id,σ,h=>some ⟨id+2,σ,h⟩
 |.ret,σ,h=>some ⟨1,σ,h⟩
 |_,_,_=>none
/-- 0 the slot · 1 a cell that it points to · n + 2 such a row of cells · 1000000 + k a part of a box of the frame's own, k as in aField -/
def resOne(σ:Nat->Value)(h:Heap)(p:Nat×Nat):Option Value:=
 if p.2=0 then some (σ p.1)else if 1000000<=p.2 then aField (p.2-1000000) 0 (σ p.1)else match σ p.1 with
  |.pointer (some a)=>if p.2=1 then cell h a.block a.off else(cellsAt h a.block a.off (p.2-2)).map λcs=>.agg cs.toArray
  |_=>none
def resAll(σ:Nat->Value)(h:Heap):List (Nat×Nat)->Option (List Value)
 |[]=>some []
 |p::r=>match resOne σ h p,resAll σ h r with
  |some v,some vs=>some (v::vs)
  |_,_=>none
def solid:Value->Bool
 |.agg _=>true
 |v=>scalar v
def resOf(σ:Nat->Value)(h:Heap)(r:List (Nat×Nat)):Option Value:=match resAll σ h r with
 |some [v]=>some v
 |some vs=>if vs.all solid then some (.tuple vs.toArray)else none
 |none=>none
def init(args:List Value):Nat->Value:=λi=>args.getD i poison
end
/-! ### primitives: functions given by what they do -/
/-- Insert(s, i, v): the elements ahead of i, v, the others; the old block is done with. -/
def primInsert(z:Nat):List Value->Heap->Option (Value×Heap)
 |[.slice (some a) n y,.int .i64 i,.slice (some b) m x],h=>match newCells z h (.slice (some b) m x)with
  |some new=>
   if z<2∨x≠z∨m=0∨maxSize<n+new.length∨i<0∨(n:Int)<i∨b.block=a.block then none
   else if a.block=0 then some (sl h.length 0 m z,h++[⟨new,true⟩])
   else match h[a.block]?,h[b.block]? with
    |some k,some kb=>if k.rw=true∧kb.rw=true∧y=z then
      match cellsAt h a.block a.off (n*z)with
      |some old=>some (sl h.length 0 (n+m) z,h.set a.block ⟨[],false⟩++[⟨old.take (i.toNat*z)++(new++old.drop (i.toNat*z)),true⟩])
      |none=>none
     else none
    |_,_=>none
  |none=>none
 |_,_=>none
/-- Delete(s, i, j), i < j. -/
def primDelete(z:Nat):List Value->Heap->Option (Value×Heap)
 |[.slice (some a) n y,.int .i64 i,.int .i64 j],h=>
   if z=0∨a.block=0∨i<0∨j<=i∨(n:Int)<j then none
   else match h[a.block]? with
    |some k=>if k.rw=true∧y=z then
      match cellsAt h a.block a.off (n*z)with
      |some old=>some (sl h.length 0 (n-(j.toNat-i.toNat)) z,h.set a.block ⟨[],false⟩++[⟨old.take (i.toNat*z)++old.drop (j.toNat*z),true⟩])
      |none=>none
     else none
    |none=>none
 |_,_=>none
/-- Code that stands for a primitive: a jump to a mark, twice the cells of an element, one more for Delete. -/
def primOf(c:Code):Option (List Value->Heap->Option (Value×Heap)):=match c with
 |.goto k=>if k%2=0 then some (primInsert (k/2))else some (primDelete (k/2))
 |_=>none
noncomputable def callN(qz:Heap->Heap->Bool)(Γ:Nat->Option AFun):Nat->Caller
 |0,_,_,_=>none
 |n+1,f,args,h=>match Γ f with
  |none=>none
  |some fn=>match primOf fn.code with
   |some p=>if args.length=fn.ar then p args h else none
   |none=>if args.length=fn.ar then match exec qz (callN qz Γ n) n fn.code (init args) h with
    |some r=>if r.e<=1 then(resOf r.σ r.h fn.res).map (·,r.h)else none
    |none=>none
    else none
end Am

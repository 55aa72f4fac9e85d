/- The abstract machine 'Am': regions, blocks and loops of normalised code over a heap that is a list of blocks; its rules. No program in sight. -/
import GoSem.Core.View
import GoSem.Dispatch
set_option linter.unusedVariables false
set_option linter.unusedSimpArgs false
set_option linter.defProp false
namespace Am
def iU:=@Array.ext'
def ph:=@Array.foldl_toList
def cg:=@Array.getD_eq_getD_getElem?
def iV:=@Array.getElem?_append_left
def bS:=@Array.getElem?_eq_getElem
def cN:=@Array.getElem?_eq_some_iff
def nM:=@Array.getElem?_push
def j8:=@Array.length_toList
def mE:=@Array.toList_setIfInBounds
def jP:=@Bool.and_eq_false_iff
def aH:=@Bool.and_eq_true
def sw:=@Bool.and_self
def afx:=@Bool.eq_false_iff
def iy:=@Bool.false_and
def ax:=@Bool.false_eq_true
def o6:=@Bool.not_eq_true
def fp:=@Bool.not_eq_true'
def kN:=@Bool.not_true
def dq:=@Bool.or_eq_true
def iN:=@Bool.true_and
def pn:=@Int.add_mul_ediv_right
def oJ:=@Int.ediv_eq_zero_of_lt
def je:=@Int.emod_eq_of_lt
def bc:=@Int.eq_ofNat_of_zero_le
def kO:=@Int.mul_assoc
def sZ:=@Int.mul_comm
def iB:=@Int.mul_le_mul
def lV:=@Int.mul_le_mul_of_nonneg_right
def gq:=@Int.mul_nonneg
def rq:=@Int.natCast_add
def nS:=@Int.natCast_mul
def fD:=@Int.tdiv_eq_ediv_of_nonneg
def cj:=@Int.tmod_eq_emod_of_nonneg
def aM:=@Int.toNat_natCast
def afa:=@List.all_append
def sx:=@List.all_cons
def afy:=@List.all_eq_false
def bV:=@List.all_eq_true
def cC:=@List.append_assoc
def gH:=@List.append_nil
def ru:=@List.cons.injEq
def fx:=@List.cons_append
def oK:=@List.dropLast_concat_getLast
def qA:=@List.drop_append
def gX:=@List.drop_append_of_le_length
def km:=@List.drop_drop
def bt:=@List.drop_eq_getElem_cons
def dz:=@List.drop_eq_nil_of_le
def nA:=@List.drop_length
def dQ:=@List.drop_of_length_le
def Hx:=@List.drop_succ_cons
def afR:=@List.drop_take
def kq:=@List.drop_zero
def dI:=@List.eq_nil_of_length_eq_zero
def mn:=@List.eq_nil_or_concat
def jf:=@List.eq_of_mem_replicate
def gz:=@List.ext_getElem
def afb:=@List.ext_getElem?
def afJ:=@List.findIdx_le_length
def afm:=@List.findIdx_lt_length
def j9:=@List.flatten_append
def cK:=@List.flatten_cons
def ju:=@List.foldl_append
def gI:=@List.foldl_cons
def afs:=@List.foldl_nil
def aA:=@List.getD_eq_getElem?_getD
def aeL:=@List.getElem?_append
def ai:=@List.getElem?_append_left
def aX:=@List.getElem?_append_right
def jn:=@List.getElem?_cons_succ
def gd:=@List.getElem?_cons_zero
def dU:=@List.getElem?_drop
def ah:=@List.getElem?_eq_getElem
def dX:=@List.getElem?_eq_none
def au:=@List.getElem?_eq_some_iff
def oN:=@List.getElem?_map
def rm:=@List.getElem?_of_mem
def jZ:=@List.getElem?_replicate
def afz:=@List.getElem?_set
def ag:=@List.getElem?_set_ne
def dr:=@List.getElem?_set_self
def bO:=@List.getElem?_take_of_lt
def o9:=@List.getElem_append
def dY:=@List.getElem_append_left
def fG:=@List.getElem_append_right
def kg:=@List.getElem_cons_succ
def qI:=@List.getElem_cons_zero
def afF:=@List.getElem_drop
def iP:=@List.getElem_map
def aD:=@List.getElem_mem
def nN:=@List.getElem_of_mem
def mG:=@List.getElem_range
def iQ:=@List.getElem_set
def gG:=@List.getElem_singleton
def ae2:=@List.getElem_take
def af:=@List.length_append
def az:=@List.length_cons
def gA:=@List.length_drop
def aB:=@List.length_eq_zero_iff
def mY:=@List.length_filter_le
def bL:=@List.length_map
def aF:=@List.length_nil
def fU:=@List.length_replicate
def aS:=@List.length_set
def dH:=@List.length_singleton
def bu:=@List.length_take
def cq:=@List.map_append
def fe:=@List.map_congr_left
def bX:=@List.map_cons
def sy:=@List.map_drop
def ta:=@List.map_map
def mZ:=@List.map_nil
def jS:=@List.map_set
def bH:=@List.map_take
def cS:=@List.mem_append
def bR:=@List.mem_cons
def j5:=@List.mem_cons_of_mem
def pq:=@List.mem_filterMap
def afH:=@List.mem_flatMap
def nB:=@List.mem_flatten
def bj:=@List.mem_map
def mR:=@List.mem_of_find?_eq_some
def fP:=@List.mem_of_getElem?
def gL:=@List.mem_of_mem_take
def bJ:=@List.mem_or_eq_of_mem_set
def da:=@List.mem_range
def fS:=@List.mem_singleton
def ae3:=@List.mem_take_iff_getElem
def df:=@List.nil_append
def kS:=@List.nodup_append
def afM:=@List.nodup_cons
def d9:=@List.pairwise_cons
def oM:=@List.pairwise_iff_getElem
def dN:=@List.range_succ
def mc:=@List.range_succ_eq_map
def fJ:=@List.replicate_succ
def kP:=@List.replicate_succ'
def mr:=@List.reverse_append
def kT:=@List.reverse_cons
def lq:=@List.reverse_nil
def afA:=@List.reverse_reverse
def afp:=@List.set_append_left
def m9:=@List.set_append_right
def om:=@List.set_cons_succ
def oq:=@List.set_cons_zero
def iI:=@List.set_eq_take_append_cons_drop
def iZ:=@List.set_set
def lM:=@List.singleton_append
def rz:=@List.sum_append
def afj:=@List.sum_cons
def afY:=@List.sum_nil
def jT:=@List.take_add_one
def gb:=@List.take_append_drop
def jE:=@List.take_append_of_le_length
def pr:=@List.take_left'
def aK:=@List.take_length
def aY:=@List.take_of_length_le
def nO:=@List.take_succ_cons
def aj:=@List.take_succ_eq_append_getElem
def dR:=@Nat.add_assoc
def pC:=@Nat.add_comm
def me:=@Nat.add_mod_right
def cX:=@Nat.add_mul
def dV:=@Nat.add_sub_cancel
def bA:=@Nat.add_zero
def afD:=@Nat.div_add_mod
def pD:=@Nat.div_le_self
def mH:=@Nat.eq_of_mul_eq_mul_right
def mI:=@Nat.le_max_left
def mu:=@Nat.le_max_right
def fL:=@Nat.le_mul_of_pos_right
def fO:=@Nat.le_of_not_lt
def aa:=@Nat.le_refl
def nH:=@Nat.le_succ
def a7:=@Nat.le_trans
def mo:=@Nat.lt_of_le_of_lt
def bQ:=@Nat.lt_of_lt_of_le
def fV:=@Nat.lt_or_ge
def qf:=@Nat.lt_trichotomy
def ks:=@Nat.min_eq_left
def ff:=@Nat.mod_eq_of_lt
def kL:=@Nat.mod_lt
def qj:=@Nat.mul_add
def pE:=@Nat.mul_comm
def gM:=@Nat.mul_div_cancel
def mJ:=@Nat.mul_eq_zero
def dh:=@Nat.mul_le_mul
def bM:=@Nat.mul_le_mul_right
def dn:=@Nat.mul_one
def dO:=@Nat.ne_of_lt
def af2:=@Nat.pow_succ
def gN:=@Nat.sub_self
def pF:=@Nat.succ_mul
def dt:=@Nat.zero_add
def iE:=@Nat.zero_le
def te:=@Nat.zero_mul
def gl:=@Option.bind_eq_some_iff
def gB:=@Option.bind_some
def lu:=@Option.getD_some
def kX:=@Option.isNone_iff_eq_none
def ot:=@Option.isSome_eq_false_iff
def jQ:=@Option.isSome_iff_exists
def bF:=@Option.map_eq_some_iff
def dC:=@Option.map_some
def aI:=@Option.some.injEq
def cF:=@Prod.mk.injEq
def rA:=@UInt8.toNat_inj
def aft:=@UInt8.toNat_lt
def ou:=@UInt8.toNat_ofNat'
open Go
abbrev fI:Value:=.nilIface
abbrev I(n:Int):Value:=.int .i64 n
abbrev U(n:Int):Value:=.int .u8 n
abbrev B(b:Bool):Value:=.bool b
abbrev S(l:List UInt8):Value:=.string ⟨l.toArray⟩
abbrev sl(b o n z:Nat):Value:=.slice (some ⟨b,o,none⟩) n z
abbrev pt(b o:Nat):Value:=.pointer (some ⟨b,o,none⟩)
structure mm where
 cells:List Value
 rw:Bool
abbrev a9:=List mm
structure mC where
 ar:Nat
 code:Code
 res:List (Nat×Nat)
def il(σ:Nat->Value)(i:Nat)(v:Value):Nat->Value:=λj=>if j=i then v else σ j
theorem eK(σ:Nat->Value)(i:Nat)(v:Value)(j:Nat):il σ i v j=if j=i then v else σ j:=rfl
def nothing:Nat->Value:=λ_=>fI
def ev(σ τ:Nat->Value):Operand->Value
 |.tmp i=>σ i
 |.global i=>τ i
 |.const v=>v
 |.func f=>.func (.func f) #[] #[]
def op(d:Nat)(o:Op)(q:Nat:=0)(g:Option (Nat×Bool):=none):Oper:={dst:=some d,op:=o,type:=q,pos:= "",after:=#[],guard:=g}
def DQ(o:Op)(q:Nat:=0)(g:Option (Nat×Bool):=none):Oper:={dst:=none,op:=o,type:=q,pos:= "",after:=#[],guard:=g}
def gQ(q:Nat):Bool:=q%2==1
def jz(q:Nat):Bool:=q/2==1
def cell(h:a9)(b i:Nat):Option Value:=match h[b]? with
 |some k=>k.cells[i]?
 |none=>none
def aZ(h:a9)(b o n:Nat):Option (List Value):=match h[b]? with
 |some k=>if o+n<=k.cells.length then some ((k.cells.drop o).take n)else none
 |none=>none
def iK(cs:List Value)(o:Nat)(vs:List Value):List Value:=cs.take o++vs++cs.drop (o+vs.length)
def storeAt(h:a9)(b o:Nat)(vs:List Value):Option a9:=match h[b]? with
 |some k=>if k.rw=true∧o+vs.length<=k.cells.length then some (h.set b ⟨iK k.cells o vs,true⟩)else none
 |none=>none
def scalar:Value->Bool
 |.bool _|.int _ _|.string _|.pointer _|.slice _ _ _|.func _ _ _|.nilFunc=>true
 |_=>false
def cellsOf:Value->Option (List Value)
 |.agg cs=>some cs.toList
 |v=>if scalar v then some [v]else none
def lexLt:List UInt8->List UInt8->Bool
 |_,[]=>false
 |[],_::_=>true
 |a::x,b::y=>a<b||(a==b&&lexLt x y)
def afW:Nat->Option IntKind
 |0=>some .i8|1=>some .i16|2=>some .i32|3=>some .i64|4=>some .u8|5=>some .u16|6=>some .u32|7=>some .u64|_=>none
def maxSize:Nat:=1073741824
def GD(k:IntKind)(f:BitVec k.bits->BitVec k.bits->BitVec k.bits)(a b:Int):Value:=
 .int k (k.wrap ((f (BitVec.ofInt k.bits a) (BitVec.ofInt k.bits b)).toNat:Int))
def PQ:BinOp->IntKind->Int->IntKind->Int->Option Value
 |.add,k,a,j,b=>if k=j then some (.int k (k.wrap (a+b)))else none
 |.sub,k,a,j,b=>if k=j then some (.int k (k.wrap (a-b)))else none
 |.mul,k,a,j,b=>if k=j then some (.int k (k.wrap (a*b)))else none
 |.quo,k,a,j,b=>if k=j∧b≠0 then some (.int k (k.wrap (a.tdiv b)))else none
 |.rem,k,a,j,b=>if k=j∧b≠0 then some (.int k (a.tmod b))else none
 |.and,k,a,j,b=>if k=j then some (GD k (· &&& ·) a b)else none
 |.or,k,a,j,b=>if k=j then some (GD k (· ||| ·) a b)else none
 |.xor,k,a,j,b=>if k=j then some (GD k (· ^^^ ·) a b)else none
 |.andNot,k,a,j,b=>if k=j then some (GD k (λx y=>x &&& ~~~y) a b)else none
 |.shl,k,a,_,b=>if 0<=b then some (.int k (k.wrap (a*2^(min b.toNat k.bits))))else none
 |.shr,k,a,_,b=>if 0<=b then some (.int k (a.fdiv (2^(min b.toNat k.bits))))else none
 |.eql,k,a,j,b=>if k=j then some (.bool (decide (a=b)))else none
 |.neq,k,a,j,b=>if k=j then some (.bool (decide (a≠b)))else none
 |.lss,k,a,j,b=>if k=j then some (.bool (decide (a<b)))else none
 |.leq,k,a,j,b=>if k=j then some (.bool (decide (a<=b)))else none
 |.gtr,k,a,j,b=>if k=j then some (.bool (decide (b<a)))else none
 |.geq,k,a,j,b=>if k=j then some (.bool (decide (b<=a)))else none
def PS:BinOp->List UInt8->List UInt8->Option Value
 |.add,a,b=>if a.length+b.length<=4611686018427387904 then some (S (a++b))else none
 |.eql,a,b=>some (.bool (decide (a=b)))
 |.neq,a,b=>some (.bool (decide (a≠b)))
 |.lss,a,b=>some (.bool (lexLt a b))
 |.leq,a,b=>some (.bool (lexLt a b||decide (a=b)))
 |.gtr,a,b=>some (.bool (!(lexLt a b||decide (a=b))))
 |.geq,a,b=>some (.bool (!(lexLt a b)))
 |_,_,_=>none
def KS:BinOp->Bool->Bool->Option Value
 |.eql,a,b=>some (.bool (a==b))
 |.neq,a,b=>some (.bool (!(a==b)))
 |_,_,_=>none
def gF:List Value->List Value->Option Bool
 |[],[]=>some true
 |.int k a::x,.int j b::y=>if k=j then(gF x y).map λr=>decide (a=b)&&r else none
 |_,_=>none
def Ah:BinOp->Nat->List Value->List Value->Option Value
 |.eql,n,a,b=>if a.length=n then(gF a b).map .bool else none
 |.neq,n,a,b=>if a.length=n then(gF a b).map λr=>.bool (!r)else none
 |_,_,_,_=>none
def AR(o:BinOp)(n:Nat):Value->Value->Option Value
 |.int k a,.int j b=>PQ o k a j b
 |.string a,.string b=>PS o a.data.toList b.data.toList
 |.bool a,.bool b=>if n=1 then KS o a b else none
 |.agg a,.agg b=>if 2<=n then Ah o (n-2) a.toList b.toList else none
 |_,_=>none
def PR:BinOp->Value->Value->Option Value
 |.eql,.slice (some a) _ z,.slice (some b) _ y=>if b.block=0∧y=0 then some (.bool (decide (a.block=0∧z=0)))else none
 |.neq,.slice (some a) _ z,.slice (some b) _ y=>if b.block=0∧y=0 then some (.bool (!decide (a.block=0∧z=0)))else none
 |_,_,_=>none
def Xx:UnOp->Value->Option Value
 |.neg,.int k n=>some (.int k (k.wrap (0-n)))
 |.xor,.int k n=>some (GD k (· ^^^ ·) (if k.signed then -1 else k.max) n)
 |.not,.bool b=>some (.bool (!b))
 |_,_=>none
def xU:List Value->Option (List UInt8)
 |[]=>some []
 |.int .u8 n::r=>(xU r).map (UInt8.ofNat n.toNat::·)
 |_=>none
def kr(c:Nat)(x:Value)(h:a9):Option (Value×a9):=
 if c=20 then
  match x with
  |.string s=>if s.size<=maxSize then some (sl h.length 0 s.size 1,h++[⟨s.data.toList.map λb=>U b.toNat,true⟩])else none
  |_=>none
 else if c=21 then
  match x with
  |.slice (some a) n _=>if n=0 then some (S [],h)else
   match aZ h a.block a.off n with
   |some cs=>(xU cs).map λl=>(S l,h)
   |none=>none
  |_=>none
 else if c=22 then
  match x with
  |.string s=>some (.string s,h)
  |_=>none
 else
  match afW c,x with
  |some k,.int _ n=>some (.int k (k.wrap n),h)
  |_,_=>none
def Ai(n:Nat)(x:Value)(h:a9):Option (Value×a9):=match cellsOf x with
 |some cs=>if cs.length=n then some (pt h.length 0,h++[⟨cs,true⟩])else none
 |none=>none
def yJ:List (Nat×Value)->List Value->Option (List Value)
 |[],cs=>some cs
 |(p,v)::r,cs=>match cellsOf v with
  |some xs=>if xs.length=p%1000∧p/1000+xs.length<=cs.length then yJ r (iK cs (p/1000) xs)else none
  |none=>none
def El:List (Nat×Value)->Option Value
 |(_,.agg z)::r=>(yJ r z.toList).map λcs=>.agg cs.toArray
 |_=>none
def aW(z n:Nat)(h:a9):List (Nat×Value)->Option (Value×a9)
 |(_,.agg c)::r=>if c.size=n*z then(yJ r c.toList).map λcs=>(sl h.length 0 n z,h++[⟨cs,true⟩])else none
 |_=>none
def su(k:Nat)(h:a9):Value->Option Value
 |.pointer (some a)=>if k=0 then cell h a.block a.off else(aZ h a.block a.off (k-1)).map λcs=>.agg cs.toArray
 |_=>none
def zv(n:Nat)(h:a9)(x:Value):Value->Option a9
 |.pointer (some a)=>match cellsOf x with
  |some cs=>if cs.length=n then storeAt h a.block a.off cs else none
  |none=>none
 |_=>none
def jN(n:Nat)(z:List Value):List Value:=(List.replicate n z).flatten
def nR(z:Nat)(h:a9):Value->Value->Value->Option (Value×a9)
 |.int .i64 l,.int .i64 c,.agg e=>if 0<=l∧l<=c∧c<=(maxSize:Int)∧e.size=z then some (sl h.length 0 l.toNat z,h++[⟨jN l.toNat e.toList,true⟩])else none
 |_,_,_=>none
def bound(d:Nat):Option Value->Option Nat
 |none=>some d
 |some (.int _ n)=>if 0<=n then some n.toNat else none
 |some _=>none
def Zl(h:a9)(a:Addr)(m:Nat):Bool:=match h[a.block]? with
 |some k=>k.rw&&decide (a.off+m<=k.cells.length)
 |none=>false
def gS(c:Nat)(h:a9)(x:Value)(lo hi b:Option Value):Option (Value×a9):=
 if c=0 then
  match x,b with
  |.string s,none=>match bound 0 lo,bound s.size hi with
   |some l,some e=>if l<=e∧e<=s.size then some (S ((s.data.toList.take e).drop l),h)else none
   |_,_=>none
  |_,_=>none
 else if c<1000000 then
  match x with
  |.slice (some a) n z=>match bound 0 lo,bound n hi with
   |some l,some e=>if l<=e∧e<=n∧(z=c/2∨a.block=0)then
     match b with
     |none=>some (sl a.block (a.off+l*z) (e-l) z,h)
     |some _=>if bound 0 b=some e∧l=0∧e=0∧hi.isSome=true∧(z≠0∨a.block=0)then some (sl 0 0 0 z,h)else none
    else none
   |_,_=>none
  |_=>none
 else
  match x,b with
  |.pointer (some a),none=>match bound 0 lo,bound ((c-1000000)/1000) hi with
   |some l,some e=>if e=(c-1000000)/1000∧l<e∧a.block≠0∧c%1000=1∧Zl h a (e*(c%1000))=true then some (sl a.block (a.off+l*(c%1000)) (e-l) (c%1000),h)else none
   |_,_=>none
  |_,_=>none
def oF(c:Nat):Value->Value->Option Value
 |.slice (some a) n _,.int _ i=>if c<1000000∧0<=i∧i<n then some (pt a.block (a.off+i.toNat*(c/2)))else none
 |.pointer (some a),.int _ i=>if 1000000<=c∧0<=i∧i<(((c-1000000)/1000:Nat):Int)then some (pt a.block (a.off+i.toNat*(c%1000)))else none
 |_,_=>none
def zj:Value->Option Int
 |.int .i64 n=>some n
 |.agg _=>some 0
 |_=>none
def C6(c:Nat)(x:Value):Value->Option Value
 |.int _ i=>if 1000000<=c∧0<=i∧i<(((c-1000000)/1000:Nat):Int)then(zj x).map λn=>I (n+i*((c%1000:Nat):Int))else none
 |_=>none
def uk(c:Nat):Value->Value->Option Value
 |.string s,.int _ i=>if c=0∧0<=i∧i<s.data.toList.length then(s.data.toList[i.toNat]?).map λb=>U b.toNat else none
 |.agg cs,.int _ i=>if 1000000<=c∧0<=i∧i<(((c-1000000)/1000:Nat):Int)then
   (if c%1000=0 then cs[i.toNat]? else if(i.toNat+1)*(c%1000)<=cs.size then some (.agg ((cs.toList.drop (i.toNat*(c%1000))).take (c%1000)).toArray)else none)else none
 |_,_=>none
def bD(k:Nat)(o:Nat):Value->Option Value
 |.agg cs=>if k=0 then cs[o]? else if o+(k-1)<=cs.size then some (.agg ((cs.toList.drop o).take (k-1)).toArray)else none
 |_=>none
def En(c:Nat):Value->Option Value
 |.string s=>if c=0∧s.data.toList.length<=9223372036854775807 then some (I s.data.toList.length)else none
 |.slice (some _) n _=>if c=1 then some (I n)else none
 |_=>none
def Em(i:Nat):Value->Option Value
 |.tuple vs=>vs[i]?
 |_=>none
def cR(z:Nat)(h:a9):Value->Option (List Value)
 |.slice (some a) n _=>if n=0 then some []else aZ h a.block a.off (n*z)
 |.string s=>if z=1 then some (s.data.toList.map λb=>U b.toNat)else none
 |_=>none
def cu(z:Nat)(h:a9)(x:Value):Value->Option (Value×a9)
 |.slice (some a) n y=>match cR z h x with
  |some new=>
   if z=0 then none
   else if new=[]then some (.slice (some a) n y,h)
   else if maxSize<n+new.length then none
   else if a.block=0 then some (sl h.length 0 (new.length/z) z,h++[⟨new,true⟩])
   else match h[a.block]? with
    |some k=>if k.rw=true∧y=z then
      match aZ h a.block a.off (n*z)with
      |some old=>some (sl h.length 0 (n+new.length/z) z,h.set a.block ⟨[],false⟩++[⟨old++new,true⟩])
      |none=>none
     else none
    |none=>none
  |none=>none
 |_=>none
def Hz(z:Nat)(h:a9)(x:Value):Value->Option (Value×a9)
 |.slice (some a) n _=>match cR z h x with
  |some new=>
   if z=0 then none
   else if n*z=0∨new=[]then some (I 0,h)
   else(storeAt h a.block a.off (new.take (n*z))).map λh'=>(I ((min (n*z) new.length/z:Nat):Int),h')
  |none=>none
 |_=>none
def Mj:List Value->Option Value
 |[.int k a,.int _ b]=>some (.int k (if b>a then b else a))
 |_=>none
def I4:List Value->Option Value
 |[.int k a,.int _ b]=>some (.int k (if b<a then b else a))
 |_=>none
def EU:Value->Bool
 |.func _ _ _=>true
 |_=>false
def Pd(c a b:Value):Option Value:=match c with
 |.bool p=>some (if p then a else b)
 |_=>none
def Qn:Value->Option Value
 |.pointer (some a)=>some (.pointer (some a))
 |.func (.func f) c d=>some (.func (.func f) c d)
 |_=>none
def D0(o:Nat):Value->Option Value
 |.pointer (some a)=>some (pt a.block (a.off+o))
 |_=>none
def AB(o:Nat)(x:Value):Option Value:=(zj x).map λn=>I (n+o)
def KT(n:Nat)(x:Value):Option Value:=match cellsOf x with
 |some cs=>if cs.length=n then some (.agg cs.toArray)else none
 |none=>none
def Gj(k:Nat)(x y:Value):Option Value:=match zj y with
 |some n=>if 0<=n then bD k n.toNat x else none
 |none=>none
def Ml(n:Nat)(v:Value)(x y:Value):Option Value:=match x,zj y,cellsOf v with
 |.agg cs,some o,some xs=>if xs.length=n∧0<=o∧o.toNat+n<=cs.size then some (.agg (iK cs.toList o.toNat xs).toArray)else none
 |_,_,_=>none
def iu(o:Option Value)(h:a9):Option (Value×a9):=o.map (·,h)
def behind(o:Option a9):Option (Value×a9):=o.map (fI,·)
def G6:Value->Bool
 |.agg cs=>cs.toList.all λv=>scalar v&&!EU v
 |_=>false
def CM(f:Nat)(a cs:List Value)(h:a9):Option (Value×a9):=if(a.all G6&&cs.all λv=>scalar v&&!EU v)=true then some (.func (.func f) a.toArray cs.toArray,h)else none
def sY(b:Builtin)(z:Nat)(h:a9)(args:List Value):Option (Value×a9):=
 match b,args with
 |.len,[x]=>iu (En z x) h
 |.append,[s,x]=>cu z h x s
 |.copy,[s,x]=>Hz z h x s
 |.max,l=>iu (Mj l) h
 |.min,l=>iu (I4 l) h
 |_,_=>none
def dA(ρ:Operand->Value)(h:a9):Op->Option (Value×a9)
 |.move x=>some (ρ x,h)
 |.pick c a b=>iu (Pd (ρ c) (ρ a) (ρ b)) h
 |.box n x=>Ai n (ρ x) h
 |.build _ ps=>iu (El (ps.toList.map λp=>(p.1,ρ p.2))) h
 |.buildSlice z n ps=>aW z n h (ps.toList.map λp=>(p.1,ρ p.2))
 |.load k a=>iu (su k h (ρ a)) h
 |.store n a x=>behind (zv n h (ρ x) (ρ a))
 |.nilCheck x=>iu (Qn (ρ x)) h
 |.binOp o n x y m=>iu (if m=1 then PR o (ρ x) (ρ y)else AR o n (ρ x) (ρ y)) h
 |.unOp o _ x=>iu (Xx o (ρ x)) h
 |.convert _ c x=>kr c (ρ x) h
 |.makeFunc (.func f) d g=>CM f (d.toList.map ρ) (g.toList.map ρ) h
 |.mapUpdate z l c e=>nR z h (ρ l) (ρ c) (ρ e)
 |.slice c x lo hi j=>gS c h (ρ x) (lo.map ρ) (hi.map ρ) (j.map ρ)
 |.fieldAddr o x k=>iu (if k=0 then D0 o (ρ x)else AB o (ρ x)) h
 |.field k x o=>iu (bD k o (ρ x)) h
 |.indexAddr c x i=>iu (oF c (ρ x) (ρ i)) h
 |.index c x i=>iu (uk c (ρ x) (ρ i)) h
 |.extract x i=>iu (Em i (ρ x)) h
 |.makeChan n x=>iu (KT n (ρ x)) h
 |.lookup k x i b=>iu (if b then C6 k (ρ x) (ρ i)else Gj k (ρ x) (ρ i)) h
 |.insert n x i v=>iu (Ml n (ρ v) (ρ x) (ρ i)) h
 |.call {callee:=.builtin b,args,argTypes}=>sY b (argTypes.getD 0 0) h (args.toList.map ρ)
 |_=>none
def gP:Op->Bool
 |.move _|.pick ..|.build ..|.nilCheck _|.binOp ..|.unOp ..|.makeFunc ..|.fieldAddr ..|.field ..|.indexAddr ..|.index ..|.extract ..|.makeChan ..|.lookup ..|.insert ..=>true
 |.slice c ..=>c<1000000
 |.convert _ c _=>c !=20&&c !=21
 |.call {callee:=.builtin b,..}=>b==.len||b==.max||b==.min
 |_=>false
def rV:Op->Bool
 |.box ..|.buildSlice ..|.mapUpdate ..=>true
 |.convert _ c _=>c==20
 |_=>false
def turns:Op->Bool
 |.store ..=>true
 |.call {callee:=.builtin b,..}=>b==.copy
 |_=>false
def sS:Op->Bool
 |.call {callee:=.builtin b,..}=>b==.append
 |.call {callee:=.value _,..}=>true
 |_=>false
def kt(ρ:Operand->Value):Op->Option (Nat×List Value)
 |.call {callee:=.value f,args,..}=>match ρ f with
  |.func (.func g) a b=>some (g,a.toList++(args.toList.map ρ++b.toList))
  |_=>none
 |_=>none
def jr(g:Option (Nat×Bool)):Value:=match g with
 |some (i,_)=>if i/2%2=1 then .tuple #[]else fI
 |none=>fI
structure St where
 σ:Nat->Value
 τ:Nat->Value
 h:a9
def St.put(s:St)(q:Nat)(d:Option Nat)(v:Value)(h:a9):St:=match d with
 |some i=>if gQ q then⟨s.σ,il s.τ i v,h⟩else⟨il s.σ i v,s.τ,h⟩
 |none=>⟨s.σ,s.τ,h⟩
abbrev oh:=Nat->List Value->a9->Option (Value×a9)
def tG(q:Nat):Option Operand:=if q<4 then none else some (if(q/4-1)%2=1 then .global ((q/4-1)/2)else .tmp ((q/4-1)/2))
open Classical in
noncomputable def sameAt(h h':a9)(v:Value):Bool:=match v with
 |.pointer (some a)=>decide (h'[a.block]?=h[a.block]?)
 |_=>false
theorem yR{h h':a9}{a:Addr}:sameAt h h' (.pointer (some a))=true↔h'[a.block]?=h[a.block]?:=by unfold sameAt;simp
noncomputable def xc(qz:a9->a9->Bool)(q:Nat)(ρ:Operand->Value)(h h':a9):Bool:=(!jz q||qz h h')&&(match tG q with
 |none=>true
 |some x=>sameAt h h' (ρ x))
theorem Wu{q:Nat}(a:q<4):tG q=none:=if_pos a
theorem De{qz:a9->a9->Bool}{q:Nat}{ρ:Operand->Value}{h h':a9}(a:q<4):(xc qz q ρ h h'=true)=(jz q=false∨qz h h'=true):=by unfold xc;rw[Wu a];cases jz q<;>simp
theorem agi{qz:a9->a9->Bool}{q:Nat}{ρ:Operand->Value}{h h':a9}(a:xc qz q ρ h h'=true):jz q=false∨qz h h'=true:=by
 unfold xc at a
 grind
theorem ajJ{qz:a9->a9->Bool}{q:Nat}{ρ:Operand->Value}{h h':a9}{x:Operand}(a:xc qz q ρ h h'=true)(b:tG q=some x):sameAt h h' (ρ x)=true:=by
 unfold xc at a
 grind
section
variable (qz : a9 -> a9 -> Bool) (call : oh)
def qF(s:St):Option (Nat×Bool)->Option Bool
 |none=>some true
 |some (i,b)=>match ev s.σ s.τ (if i%2=1 then .global (i/4)else .tmp (i/4))with
  |.bool c=>some (c==b)
  |.tuple _=>some false
  |_=>none
noncomputable def qt(o:Oper)(s:St):Option St:=
 match qF s o.guard with
 |none=>none
 |some false=>some (s.put o.type o.dst (jr o.guard) s.h)
 |some true=>
  match kt (ev s.σ s.τ) o.op with
  |some (f,args)=>match call f args s.h with
   |some (v,h')=>if xc qz o.type (ev s.σ s.τ) s.h h'=true then some (s.put o.type o.dst v h')else none
   |none=>none
  |none=>match dA (ev s.σ s.τ) s.h o.op with
   |some (v,h')=>if xc qz o.type (ev s.σ s.τ) s.h h'=true then some (s.put o.type o.dst v h')else none
   |none=>none
noncomputable def jL:List Oper->St->Option St
 |[],s=>some s
 |o::r,s=>match qt qz call o s with
  |some a=>jL r a
  |none=>none
abbrev aLs:=Nat->Value
structure Out where
 e:Nat
 σ:Nat->Value
 h:a9
def u7(body:(Nat->Value)->a9->Option Out):Nat->(Nat->Value)->a9->Option Out
 |0,_,_=>none
 |n+1,σ,h=>match body σ h with
  |some r=>if r.e=0 then u7 body n r.σ r.h else some r
  |none=>none
noncomputable def exec(n:Nat):Code->(Nat->Value)->a9->Option Out
 |.skip,σ,h=>some ⟨0,σ,h⟩
 |.region _ ops _,σ,h=>match jL qz call ops.toList ⟨σ,nothing,h⟩with
  |some s=>some ⟨0,s.σ,s.h⟩
  |none=>none
 |.seq a b,σ,h=>match exec n a σ h with
  |some r=>if r.e=0 then exec n b r.σ r.h else some r
  |none=>none
 |.cond c a b,σ,h=>match ev σ nothing c with
  |.bool p=>if p then exec n a σ h else exec n b σ h
  |_=>none
 |.block id c,σ,h=>match exec n c σ h with
  |some r=>if r.e=id+2 then some ⟨0,r.σ,r.h⟩else some r
  |none=>none
 |.loop c,σ,h=>u7 (exec n c) n σ h
 |.exit id,σ,h=>some ⟨id+2,σ,h⟩
 |.ret,σ,h=>some ⟨1,σ,h⟩
 |_,_,_=>none
def cO(σ:Nat->Value)(h:a9)(p:Nat×Nat):Option Value:=
 if p.2=0 then some (σ p.1)else if 1000000<=p.2 then bD (p.2-1000000) 0 (σ p.1)else match σ p.1 with
  |.pointer (some a)=>if p.2=1 then cell h a.block a.off else(aZ h a.block a.off (p.2-2)).map λcs=>.agg cs.toArray
  |_=>none
def cJ(σ:Nat->Value)(h:a9):List (Nat×Nat)->Option (List Value)
 |[]=>some []
 |p::r=>match cO σ h p,cJ σ h r with
  |some v,some vs=>some (v::vs)
  |_,_=>none
def ve:Value->Bool
 |.agg _=>true
 |v=>scalar v
def cY(σ:Nat->Value)(h:a9)(r:List (Nat×Nat)):Option Value:=match cJ σ h r with
 |some [v]=>some v
 |some vs=>if vs.all ve then some (.tuple vs.toArray)else none
 |none=>none
def init(args:List Value):Nat->Value:=λi=>args.getD i fI
end
def sG(z:Nat):List Value->a9->Option (Value×a9)
 |[.slice (some a) n y,.int .i64 i,.slice (some b) m x],h=>match cR z h (.slice (some b) m x)with
  |some new=>
   if z<2∨x≠z∨m=0∨maxSize<n+new.length∨i<0∨(n:Int)<i∨b.block=a.block then none
   else if a.block=0 then some (sl h.length 0 m z,h++[⟨new,true⟩])
   else match h[a.block]?,h[b.block]? with
    |some k,some c=>if k.rw=true∧c.rw=true∧y=z then
      match aZ h a.block a.off (n*z)with
      |some old=>some (sl h.length 0 (n+m) z,h.set a.block ⟨[],false⟩++[⟨old.take (i.toNat*z)++(new++old.drop (i.toNat*z)),true⟩])
      |none=>none
     else none
    |_,_=>none
  |none=>none
 |_,_=>none
def wM(z:Nat):List Value->a9->Option (Value×a9)
 |[.slice (some a) n y,.int .i64 i,.int .i64 j],h=>
   if z=0∨a.block=0∨i<0∨j<=i∨(n:Int)<j then none
   else match h[a.block]? with
    |some k=>if k.rw=true∧y=z then
      match aZ h a.block a.off (n*z)with
      |some old=>some (sl h.length 0 (n-(j.toNat-i.toNat)) z,h.set a.block ⟨[],false⟩++[⟨old.take (i.toNat*z)++old.drop (j.toNat*z),true⟩])
      |none=>none
     else none
    |none=>none
 |_,_=>none
def vM(c:Code):Option (List Value->a9->Option (Value×a9)):=match c with
 |.goto k=>if k%2=0 then some (sG (k/2))else some (wM (k/2))
 |_=>none
noncomputable def nC(qz:a9->a9->Bool)(Γ:Nat->Option mC):Nat->oh
 |0,_,_,_=>none
 |n+1,f,args,h=>match Γ f with
  |none=>none
  |some fn=>match vM fn.code with
   |some p=>if args.length=fn.ar then p args h else none
   |none=>if args.length=fn.ar then match exec qz (nC qz Γ n) n fn.code (init args) h with
    |some r=>if r.e<=1 then(cY r.σ r.h fn.res).map (·,r.h)else none
    |none=>none
    else none
end Am
namespace Am
open Go
def Cb:Value->Option Value
 |.bool b=>some (.bool b)
 |.int k n=>some (.int k n)
 |.string s=>some (.string s)
 |.pointer none=>some (.pointer none)
 |.nilFunc=>some .nilFunc
 |.slice none 0 0=>some (sl 0 0 0 0)
 |_=>none
def HP:List Value->Option (List Value)
 |[]=>some []
 |v::r=>match Cb v,HP r with
  |some x,some xs=>some (x::xs)
  |_,_=>none
def cv:Value->Option Value
 |.agg cs=>(HP cs.toList).map λl=>.agg l.toArray
 |v=>Cb v
def DZ:IntKind->Nat
 |.i8=>0|.i16=>1|.i32=>2|.i64=>3|.u8=>4|.u16=>5|.u32=>6|.u64=>7
structure iG where
 P:Program
 ν:List Nat
 Ra:List TypeId
section
variable (A : iG) (loc pb : List Nat) (env : List (Nat × Nat))
def fj(t:TypeId):Option Nat:=match A.P.info? t,A.P.underlying t with
 |some i,some _=>some i.size
 |_,_=>none
def qy(t:TypeId):Bool:=match A.P.underlying t with
 |some (.struct _)|some (.array _ _)=>true
 |_=>false
def adD:Option TypeDesc->Bool
 |some (.int .u8)=>true
 |_=>false
def own(t:Nat):Bool:=loc.contains t
def FM(g:FuncId):Option Nat:=match A.ν[g]? with
 |some (n+1)=>some n
 |_=>none
def iq(env:List (Nat×Nat))(t:Nat):Option Nat:=(env.find? (·.1==t)).map (·.2)
def cV:Operand->Option Operand
 |.tmp t=>if pb.contains t||(iq env t).isSome then none else some (if own loc t then .global t else .tmp t)
 |.const v=>(cv v).map .const
 |.func g=>(FM A g).map .func
 |.global _=>none
def E6(f:Nat->Option Nat):List (Nat×Operand)->Option (List (Nat×Operand))
 |[]=>some []
 |(i,x)::r=>match f i,cV A loc pb env x,E6 f r with
  |some n,some y,some a=>some ((n,y)::a)
  |_,_,_=>none
def Ql:Option Operand->Option (Option Operand)
 |none=>some none
 |some x=>(cV A loc pb env x).map some
def uF:List Operand->Option (List Operand)
 |[]=>some []
 |x::r=>match cV A loc pb env x,uF r with
  |some y,some a=>some (y::a)
  |_,_=>none
def nG(t:TypeId):Option (List Value):=match(A.P.info? t).bind (·.zero)with
 |some v=>match cv v with
  |some (.agg cs)=>some cs.toList
  |some x=>some [x]
  |none=>none
 |none=>none
def Ef(t:TypeId):Option Value:=((A.P.info? t).bind (·.zero)).bind cv
def pX(n z:Nat):Option Nat:=if z<1000∧n<100000 then some (1000000+1000*n+z)else none
def kJ:Op->Option Op
 |.move x|.assign x=>(cV A loc pb env x).map .move
 |.pick c a b=>match cV A loc pb env c,cV A loc pb env a,cV A loc pb env b with
  |some c,some a,some b=>some (.pick c a b)
  |_,_,_=>none
 |.alloc e=>match fj A e,Ef A e with
  |some n,some z=>some (.box n (.const z))
  |_,_=>none
 |.box e x=>match fj A e,cV A loc pb env x with
  |some n,some y=>some (.box n y)
  |_,_=>none
 |.build t ps=>match A.P.underlying t,Ef A t with
  |some (.struct h),some (.agg z)=>
   match E6 A loc pb env (λi=>match h[i]? with
    |some f=>(fj A f.type).bind λn=>if n<1000 then some (1000*f.offset+n)else none
    |none=>none) ps.toList with
   |some l=>if h.toList.all λf=>(fj A f.type).isSome then some (.build 0 ((0,.const (.agg z))::l).toArray)else none
   |none=>none
  |some (.array _ e),some (.agg z)=>
   match fj A e with
   |some n=>match E6 A loc pb env (λi=>some (1000*(i*n)+n)) ps.toList with
    |some l=>if n<1000 then some (.build 0 ((0,.const (.agg z))::l).toArray)else none
    |none=>none
   |none=>none
  |_,_=>none
 |.buildSlice t n ps=>match A.P.underlying t with
  |some (.slice e)=>match fj A e,nG A e with
   |some z,some c=>match E6 A loc pb env (λi=>some (1000*(i*z)+z)) ps.toList with
    |some l=>if n=0 then(if l.isEmpty&&z !=0 then some (.move (.const (sl 0 0 0 z)))else none)else if 0<z∧z<1000∧c.length=z∧n*z<=65536 then some (.buildSlice z n ((0,.const (.agg (jN n c).toArray))::l).toArray)else none
    |none=>none
   |_,_=>none
  |_=>none
 |.load t a=>match fj A t,cV A loc pb env a with
  |some n,some a=>some (.load (if qy A t then n+1 else 0) a)
  |_,_=>none
 |.store t a x=>match fj A t,cV A loc pb env a,cV A loc pb env x with
  |some n,some a,some x=>some (.store n a x)
  |_,_,_=>none
 |.nilCheck x=>(cV A loc pb env x).map .nilCheck
 |.binOp o t x y _=>match cV A loc pb env x,cV A loc pb env y with
  |some x,some y=>match A.P.underlying t with
   |some .bool=>some (.binOp o 1 x y 0)
   |some (.slice _)=>some (.binOp o 0 x y 1)
   |some (.struct _)|some (.array _ _)=>if A.Ra.contains t then(fj A t).map λn=>.binOp o (n+2) x y 0 else none
   |_=>some (.binOp o 0 x y 0)
  |_,_=>none
 |.unOp o _ x=>(cV A loc pb env x).map λx=>.unOp o 0 x
 |.convert s d x=>match cV A loc pb env x,A.P.underlying s,A.P.underlying d with
  |some x,some (.int _),some (.int k)=>some (.convert 0 (DZ k) x)
  |some x,some .string,some .string=>some (.convert 0 22 x)
  |some x,some .string,some (.slice e)=>if adD (A.P.underlying e)∧fj A e=some 1 then some (.convert 0 20 x)else none
  |some x,some (.slice e),some .string=>if adD (A.P.underlying e)then some (.convert 0 21 x)else none
  |_,_,_=>none
 |.makeFunc (.func g) first m=>match FM A g,uF A loc pb env first.toList,uF A loc pb env m.toList with
  |some f,some l0,some l=>some (.makeFunc (.func f) l0.toArray l.toArray)
  |_,_,_=>none
 |.makeSlice t l c=>match A.P.underlying t with
  |some (.slice e)=>match fj A e,nG A e,cV A loc pb env l,cV A loc pb env c with
   |some z,some cs,some l,some c=>if 0<z∧cs.length=z∧(A.P.info? e).map (decide<|·.bytes<=4096)=some true then some (.mapUpdate z l c (.const (.agg cs.toArray)))else none
   |_,_,_,_=>none
  |_=>none
 |.slice t x lo hi j=>match cV A loc pb env x,Ql A loc pb env lo,Ql A loc pb env hi,Ql A loc pb env j with
  |some x,some lo,some hi,some j=>match A.P.underlying t with
   |some .string=>some (.slice 0 x lo hi j)
   |some (.slice e)=>(fj A e).bind λz=>if z<1000 then some (.slice (2*z+1) x lo hi j)else none
   |some (.array n e)=>(fj A e).bind λz=>(pX n z).map λc=>.slice c x lo hi j
   |_=>none
  |_,_,_,_=>none
 |.fieldAddr t x f=>match cV A loc pb env x,A.P.underlying t with
  |some x,some (.struct h)=>match h[f]? with
   |some fd=>match fj A fd.type with
    |some (_+1)=>some (.fieldAddr fd.offset x 0)
    |_=>none
   |none=>none
  |_,_=>none
 |.field t x f=>match cV A loc pb env x,A.P.underlying t with
  |some x,some (.struct h)=>match h[f]? with
   |some fd=>match fj A fd.type with
    |some n=>some (.field (if qy A fd.type then n+1 else 0) x fd.offset)
    |none=>none
   |none=>none
  |_,_=>none
 |.indexAddr t x i=>match cV A loc pb env x,cV A loc pb env i,A.P.underlying t with
  |some x,some i,some (.slice e)=>(fj A e).bind λz=>if z<1000 then some (.indexAddr (2*z+1) x i)else none
  |some x,some i,some (.array n e)=>(fj A e).bind λz=>(pX n z).map λc=>.indexAddr c x i
  |_,_,_=>none
 |.index t x i=>match cV A loc pb env x,cV A loc pb env i,A.P.underlying t with
  |some x,some i,some .string=>some (.index 0 x i)
  |some x,some i,some (.array n e)=>(fj A e).bind λz=>if qy A e then(if 0<z then(pX n z).map λc=>.index c x i else none)else if z=1 then(pX n 0).map λc=>.index c x i else none
  |_,_,_=>none
 |.extract x i=>(cV A loc pb env x).map λx=>.extract x i
 |.call {callee:=.builtin b,args,argTypes}=>match uF A loc pb env args.toList with
  |some l=>match b,argTypes.toList with
   |.len,[t]=>match A.P.underlying t with
    |some .string=>some (.call {callee:=.builtin .len,args:=l.toArray,argTypes:=#[0]})
    |some (.slice _)=>some (.call {callee:=.builtin .len,args:=l.toArray,argTypes:=#[1]})
    |_=>none
   |.append,[t,t1]=>match A.P.underlying t,A.P.underlying t1 with
    |some (.slice e),some (.slice _)|some (.slice e),some .string=>match fj A e,nG A e with
     |some z,some c=>if c.length=z∧(A.P.info? e).map (decide<|·.bytes<=4096)=some true then some (.call {callee:=.builtin .append,args:=l.toArray,argTypes:=#[z]})else none
     |_,_=>none
    |_,_=>none
   |.copy,[t,_]=>match A.P.underlying t with
    |some (.slice e)=>match fj A e with
     |some z=>some (.call {callee:=.builtin .copy,args:=l.toArray,argTypes:=#[z]})
     |none=>none
    |_=>none
   |.max,_=>some (.call {callee:=.builtin .max,args:=l.toArray,argTypes:=#[0]})
   |.min,_=>some (.call {callee:=.builtin .min,args:=l.toArray,argTypes:=#[0]})
   |_,_=>none
  |_=>none
 |.call {callee:=.value f,args,..}=>match cV A loc pb env f,uF A loc pb env args.toList with
  |some f,some l=>some (.call {callee:=.value f,args:=l.toArray,argTypes:=#[]})
  |_,_=>none
 |_=>none
def tmpsOf(l:List Operand):List Nat:=l.filterMap λ|.tmp t=>some t|_=>none
def pinned(b:Array Nat)(ps:List Oper)(i:Nat):Bool:=ps.zipIdx.all λ(p,k)=>k==i||gP p.op||(if k<i then(b.getD i 0).testBit k else(b.getD k 0).testBit i||rV p.op)
def Cd(ops:Array Oper):Bool:=
 (List.range ops.size).all λj=>match ops[j]? with
  |some o=>o.after.toList.all λe=>!Region.binds .any e||decide (e.on<j)
  |none=>false
def yo(ops:Array Oper):Option (Nat×Bool)->Option (Option (Nat×Bool))
 |none=>some none
 |some (j,w)=>match(ops[j]?).bind (·.dst)with
  |some d=>some (some (4*d+(if own loc d then 1 else 0),w))
  |none=>none
def D8:Operand->Option (Nat×Operand)
 |.tmp t=>if pb.contains t then some (t,.tmp t)else(iq env t).map λa=>(a,.global t)
 |_=>none
def yN(dst:Option Nat)(o:Op):Option (Option Nat×Op):=match o with
 |.alloc e=>match dst with
  |some a=>if pb.contains a then(nG A e).bind λz=>if fj A e=some z.length then some (some a,.move (.const (.agg z.toArray)))else none else none
  |none=>none
 |.box e x=>match dst,fj A e,cV A loc pb env x with
  |some a,some n,some y=>if pb.contains a then some (some a,.makeChan n y)else none
  |_,_,_=>none
 |.fieldAddr t x f=>match dst,D8 pb env x,A.P.underlying t with
  |some d,some (a,y),some (.struct b)=>match b[f]? with
   |some fd=>match fj A fd.type with
    |some (_+1)=>if iq env d=some a then some (some d,.fieldAddr fd.offset y 1)else none
    |_=>none
   |none=>none
  |_,_,_=>none
 |.indexAddr t x i=>match dst,D8 pb env x,A.P.underlying t,cV A loc pb env i with
  |some d,some (a,y),some (.array n e),some i=>(fj A e).bind λz=>if iq env d=some a then(pX n z).map λc=>(some d,.lookup c y i true)else none
  |_,_,_,_=>none
 |.load t x=>match dst,D8 pb env x,fj A t with
  |some d,some (a,y),some n=>if pb.contains d||(iq env d).isSome then none else some (some d,.lookup (if qy A t then n+1 else 0) (.tmp a) y false)
  |_,_,_=>none
 |.store t x v=>match dst,D8 pb env x,fj A t,cV A loc pb env v with
  |none,some (a,y),some n,some v=>some (some a,.insert n (.tmp a) y v)
  |_,_,_,_=>none
 |_=>none
def ays(ops:Array Oper)(d:Nat):Bool:=ops.any λx=>match x.guard with
 |some (j,_)=>(ops[j]?).bind (·.dst)==some d
 |none=>false
def H6(ops:Array Oper)(d:Nat):Option (Nat×Bool)->Option (Nat×Bool)
 |some (i,w)=>if ays ops d&&(!pb.contains d&&(iq env d).isNone)then some (i+2,w)else some (i,w)
 |none=>none
def FO(ops:Array Oper)(o:Oper):Option Oper:=
 match yo loc ops o.guard with
 |some g=>
  match yN A loc pb env o.dst o.op with
  |some (d,p)=>
   if g.isSome&&d !=o.dst then none else
   match d with
   |some d=>some (op d p (if own loc d then 1 else 0) (H6 pb env ops d g))
   |none=>none
  |none=>
   match kJ A loc pb env o.op with
   |some p=>
    match o.dst with
    |some d=>if pb.contains d||(iq env d).isSome then none else some (op d p (if own loc d then 1 else 0) (H6 pb env ops d g))
    |none=>some (DQ p 0 g)
   |none=>none
 |none=>none
def Ke(ops:Array Oper):List Oper->Option (List Oper)
 |[]=>some []
 |o::r=>match FO A loc pb env ops o,Ke ops r with
  |some x,some xs=>some (x::xs)
  |_,_=>none
def M8:Operand->Option Nat
 |.tmp i=>some (2*i)
 |.global i=>some (2*i+1)
 |_=>none
def Im(y x:Operand):Bool:=match M8 y,M8 x with
 |some a,some b=>a==b
 |_,_=>false
theorem anJ(a c:Nat)(h:(2*a==2*c)=true):a=c:=by have:=eq_of_beq h;omega
theorem anK(a c:Nat)(h:(2*a==2*c+1)=true):False:=by have:=eq_of_beq h;omega
theorem ane(a c:Nat)(h:(2*a+1==2*c)=true):False:=by have:=eq_of_beq h;omega
theorem anc(a c:Nat)(h:(2*a+1==2*c+1)=true):a=c:=by have:=eq_of_beq h;omega
theorem L8{y x:Operand}(h:Im y x=true):y=x:=by
 unfold Im at h;cases y with
 |tmp a=>cases x with
  |tmp c=>exact congrArg Operand.tmp (anJ a c h)
  |global c=>exact(anK a c h).elim
  |_=>cases h
 |global a=>cases x with
  |tmp c=>exact(ane a c h).elim
  |global c=>exact congrArg Operand.global (anc a c h)
  |_=>cases h
 |_=>cases h
def M9(q:Nat)(x:Operand):Bool:=match tG q with
 |some y=>Im y x
 |none=>false
theorem Xp{q:Nat}{x:Operand}(h:M9 q x=true):tG q=some x:=by
 unfold M9 at h;split at h
 ·rename_i y hy;rw[hy,L8 h]
 ·cases h
def ajZ(b:Array Nat)(ps:List Oper)(i:Nat):Option Operand:=ps.zipIdx.findSome? λ(p,k)=>if decide (k<i)&&!gP p.op&&!(b.getD i 0).testBit k then(match p.op with
 |.load _ x=>some x
 |_=>none)else none
def KB:Operand->Option Nat
 |.tmp i|.global i=>some i
 |_=>none
def YR(ps:List Oper)(i:Nat)(x:Operand)(k:Nat)(p:Oper):Bool:=decide (k<i)&&(match p.op with
 |.load _ y=>Im y x
 |_=>false)&&ps.zipIdx.all λ(z,m)=>!(decide (k<=m)&&decide (m<i))||z.dst !=KB x
def pinnedBy(b:Array Nat)(ps:List Oper)(i:Nat)(x:Operand):Bool:=ps.zipIdx.all λ(p,k)=>k==i||gP p.op||(if k<i then(b.getD i 0).testBit k||YR ps i x k p else(b.getD k 0).testBit i||rV p.op)
def OY(side:Bool)(b:Array Nat)(ps:List Oper):Nat->List Oper->Option (List Oper)
 |_,[]=>some []
 |i,p::r=>match OY side b ps (i+1) r with
  |some rest=>if gP p.op||pinned b ps i then some (p::rest)else if turns p.op then none else if sS p.op then
    (match(if side then ajZ b ps i else none)with
    |some x=>match M8 x with
     |some c=>if pinnedBy b ps i x&&M9 (p.type+4*(c+1)) x then some ({p with type:=p.type+4*(c+1)}::rest)else none
     |none=>none
    |none=>some ({p with type:=p.type+2}::rest))else some (p::rest)
  |none=>none
def FC:List (Nat×Nat)->List Oper->List (Nat×Nat)
 |e,[]=>e
 |e,o::r=>match o.dst,o.op with
  |some d,.fieldAddr _ x _|some d,.indexAddr _ x _=>match D8 pb e x with
   |some (a,_)=>if own loc d then FC ((d,a)::e) r else FC e r
   |none=>FC e r
  |_,_=>FC e r
def Ta:List Oper->Bool
 |[]=>true
 |o::r=>(match o.dst with
  |some d=>match iq env d with
   |some a=>r.all λp=>p.dst !=some d&&p.dst !=some a
   |none=>true
  |none=>true)&&Ta r
def BE(o:Oper):List Nat:=
 (o.op.operands.toList.filterMap λ|.tmp t=>some t|.global t=>some t|_=>none)++(match o.guard with
  |some (g,_)=>[g/4]
  |none=>[])
def Tz(b:Array Nat)(i j:Nat)(x y:Oper):Bool:=
 (b.getD j 0).testBit i||((match x.dst with|some d=>!(BE y).contains d&&y.dst !=some d|none=>true)&&(match y.dst with|some d=>!(BE x).contains d|none=>true))
def Nb(b:Array Nat)(ps:List Oper):Bool:=
 ps.zipIdx.all λ(y,j)=>ps.zipIdx.all λ(x,i)=>!decide (i<j)||Tz b i j x y
def Fu(p:Oper):Bool:=
 (p.op.operands.toList.all λ|.tmp i=>!own loc i|.global i=>own loc i|_=>true)&&
 (match p.guard with|some (i,_)=>(i%2==1)==own loc (i/4)|none=>true)&&
 (match p.dst with|some d=>gQ p.type==own loc d|none=>true)&&
 (match tG p.type with|some (.tmp i)=>!own loc i|some (.global i)=>own loc i|_=>true)
def ahN(b:Array Nat)(ops:List Oper):Bool:=
 ops.zipIdx.all λ(x,i)=>ops.zipIdx.all λ(y,j)=>match x.dst,y.dst with
  |some a,some d=>iq env d !=some a||decide (j<i)||(b.getD j 0).testBit i
  |_,_=>true
def ZW:Bool:=env.all λp=>own loc p.1&&pb.contains p.2&&!pb.contains p.1
def K7(ops:Array Oper)(draw:Bool):Option (List Oper):=
 let env:=FC loc pb [] ops.toList
 if Ta env ops.toList&&ZW loc pb env then
  match Ke A loc pb env ops ops.toList with
  |some ps=>
   match(if draw then(if Cd ops&&Nb (Region.before ops) ps&&ahN env (Region.before ops) ops.toList then OY (loc.contains 1000000) (Region.before ops) ps 0 ps else none)else some ps)with
   |some l=>if l.all (Fu loc)&&(!draw||Nb (Region.before ops) l)then some l else none
   |none=>none
  |none=>none
 else none
def sE:Code->Option Code
 |.skip=>some .skip
 |.region _ ops draw=>(K7 A loc pb ops draw).map λl=>.region 0 l.toArray false
 |.seq a b=>match sE a,sE b with
  |some a,some b=>some (.seq a b)
  |_,_=>none
 |.cond c a b=>match cV A loc pb [] c,sE a,sE b with
  |some c,some a,some b=>some (.cond c a b)
  |_,_,_=>none
 |.block id c=>(sE c).map (.block id)
 |.loop c=>(sE c).map .loop
 |.exit id=>some (.exit id)
 |.ret=>some .ret
 |_=>none
def yp:List ResultVar->Option (List (Nat×Nat))
 |[]=>some []
 |.tmp t::r=>if own loc t||pb.contains t then none else(yp r).map ((t,0)::·)
 |.cell a t::r=>if own loc a then none else match fj A t with
  |some n=>if n<1000 then(yp r).map ((a,(if pb.contains a then 1000000 else 1)+(if qy A t then n+1 else 0))::·)else none
  |none=>none
def uA(m:Nat):Code->Bool
 |.region _ ops _=>ops.toList.all λo=>match o.dst with
  |some d=>decide (d<m)
  |none=>true
 |.seq a b|.cond _ a b=>uA m a&&uA m b
 |.block _ c|.loop c=>uA m c
 |_=>true
def MP(F:Func):Option mC:=match F.body with
 |some c=>match sE A loc pb c,yp A loc pb F.results.toList with
  |some c,some r=>if(List.range (F.params.size+F.nfree)).all (λi=>!own loc i&&!pb.contains i)&&pb.all (λi=>!own loc i)&&F.name != "runtime.NumGoroutine" &&(F.body.map (uA F.ntmps)).getD false then some ⟨F.params.size+F.nfree,c,r⟩else none
  |_,_=>none
 |none=>none
end
end Am

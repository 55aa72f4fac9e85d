/- Contracts: AmBuf, AmC1, AmC2, AmC3, AmC4, AmC5, AmC6, AmOwn, AmT1, AmT2, AmT3, AmC7, AmP1. -/
import Derived.Test.YtpgioncclmancaaGreatAmSimp
import Derived.Test.YtpgioncclmancaaGreatAmTab
import Derived.Test.YtpgioncclmancaaGreatAmArgs
set_option linter.unusedVariables false
set_option linter.unusedSimpArgs false
set_option maxHeartbeats 4000000
set_option maxRecDepth 40000
namespace Am
open Go
theorem Grows.push{h0 h:Heap}(g:Grows h0 h)(k:Blk):Grows h0 (h++[k]):=g.trans ⟨[k],rfl⟩
theorem Grows.put{h0 h:Heap}(g:Grows h0 h){b:Nat}(hb:h0.length<=b)(k:Blk):Grows h0 (h.set b k):=by
 obtain⟨l,rfl⟩:=g
 exact⟨l.set (b-h0.length) k,by rw[List.set_append_right _ _ hb]⟩
theorem Grows.le{h0 h:Heap}(g:Grows h0 h):h0.length<=h.length:=by obtain⟨l,rfl⟩:=g;simp
theorem Grows.at{h0 h:Heap}(g:Grows h0 h){b:Nat}{k:Blk}(hk:h0[b]?=some k):h[b]?=some k:=by
 obtain⟨l,rfl⟩:=g
 rw[List.getElem?_append_left (List.getElem?_eq_some_iff.1 hk).1];exact hk
theorem push_at{h:Heap}{b:Nat}{k x:Blk}(hk:h[b]?=some k):(h++[x])[b]?=some k:=Grows.at ⟨[x],rfl⟩ hk
theorem at_lt{h:Heap}{b:Nat}{k:Blk}(hk:h[b]?=some k):b<h.length:=(List.getElem?_eq_some_iff.1 hk).1
theorem put_at{h:Heap}{b c:Nat}{k x:Blk}(hk:h[c]?=some k)(hne:c≠b):(h.set b x)[c]?=some k:=by
 rw[List.getElem?_set_ne (λe=>hne e.symm)];exact hk
theorem cellsAt_of{h:Heap}{b o n:Nat}{k:Blk}(hk:h[b]?=some k)(hn:o+n<=k.cells.length):cellsAt h b o n=some ((k.cells.drop o).take n):=by
 simp[cellsAt,hk,hn]
theorem cellsAt_all{h:Heap}{b n:Nat}{cs:List Value}{rw:Bool}(hk:h[b]?=some ⟨cs,rw⟩)(hn:n=cs.length):cellsAt h b 0 n=some cs:=by
 subst hn;rw[cellsAt_of hk (by simp)];simp
theorem cell_of{h:Heap}{b i:Nat}{k:Blk}{v:Value}(hk:h[b]?=some k)(hv:k.cells[i]?=some v):cell h b i=some v:=by
 simp[cell,hk,hv]
/-- A slice whose cells are these: an empty one without memory, or a block of the call's own (from h0's end on). -/
def Buf(h0 h:Heap)(v:Value)(z:Nat)(cs:List Value):Prop:=(cs=[]∧v=sl 0 0 0 z)∨∃b n,v=sl b 0 n z∧n*z=cs.length∧h0.length<=b∧h[b]?=some ⟨cs,true⟩
theorem Buf.nil{h0 h:Heap}{z:Nat}:Buf h0 h (sl 0 0 0 z) z []:=.inl ⟨rfl,rfl⟩
theorem Buf.grow{h0 h h':Heap}{v:Value}{z:Nat}{cs:List Value}(x:Buf h0 h v z cs)(g:Grows h h'):Buf h0 h' v z cs:=by
 rcases x with x|⟨b,n,h1,h2,h3,h4⟩
 ·exact .inl x
 ·exact .inr ⟨b,n,h1,h2,h3,g.at h4⟩
/-- APPENDING TO IT. -/
theorem append_buf{h0 h:Heap}{v x:Value}{z:Nat}{cs new:List Value}{k:Value->Heap->Prop}(hp:0<h0.length)(g:Grows h0 h)(hv:Buf h0 h v z cs)(hn:newCells z h x=some new)(hz:0<z)(hne:new≠[])(hm:new.length/z*z=new.length)
  (hmax:cs.length+new.length<=maxSize) (hk:∀v' h',Grows h0 h'->Buf h0 h' v' z (cs++new)->(∀c kk,h[c]?=some kk->(∀n,v≠sl c 0 n z)->h'[c]?=some kk)->k v' h'):bindW (aAppend z h x v) k:=by
 rcases hv with⟨rfl,rfl⟩|⟨b,n,rfl,h2,h3,h4⟩
 ·have e:aAppend z h x (sl 0 0 0 z)=some (sl h.length 0 (new.length/z) z,h++[⟨new,true⟩]):=by
   simp only[aAppend,hn]
   rw[if_neg (by omega),if_neg hne,if_neg (by simp at hmax;omega),if_pos trivial]
  rw[e]
  refine hk _ _ (g.push _) (.inr ⟨h.length,_,rfl,hm,g.le,by simp⟩) λc kk hc _=>push_at hc
 ·have hnz:n<=cs.length:=by rw[<-h2];exact Nat.le_mul_of_pos_right n hz
  have e:aAppend z h x (sl b 0 n z)=some (sl h.length 0 (n+new.length/z) z,h.set b ⟨[],false⟩++[⟨cs++new,true⟩]):=by
   simp only[aAppend,hn]
   rw[if_neg (by omega),if_neg hne,if_neg (by omega),if_neg (by omega)]
   simp only[h4]
   rw[if_pos ⟨trivial,trivial⟩,cellsAt_all h4 h2]
  rw[e]
  have hb:=at_lt h4
  refine hk _ _ ((g.put h3 _).push _) (.inr ⟨h.length,_,rfl,by rw[Nat.add_mul,hm,h2];simp,g.le,by simp⟩) λc kk hc hne'=>?_
  exact push_at (put_at hc λe=>hne' n (by rw[e]))
theorem cell_in{h:Heap}{b o n i:Nat}{cs:List Value}(hc:cellsAt h b o n=some cs)(hi:i<n):cell h b (o+i)=cs[i]?∧cs.length=n:=by
 unfold cellsAt at hc
 unfold cell
 split at hc
 ·rename_i k hk
  split at hc
  ·injection hc with hc;subst hc
   rw[List.getElem?_take_of_lt hi,List.getElem?_drop]
   exact⟨rfl,by simp;omega⟩
  ·simp at hc
 ·simp at hc
theorem cellsAt_in{h:Heap}{b o n i m:Nat}{cs:List Value}(hc:cellsAt h b o n=some cs)(hi:i+m<=n):cellsAt h b (o+i) m=some ((cs.drop i).take m):=by
 unfold cellsAt at hc ⊢
 split at hc
 ·rename_i k hk
  split at hc
  ·rename_i hl
   injection hc with hc;subst hc
   rw[if_pos (by omega),List.drop_take,List.drop_drop,List.take_take]
   congr 2
   omega
  ·simp at hc
 ·simp at hc
theorem Grows.cellsAt{h h':Heap}(g:Grows h h'){b o n:Nat}{cs:List Value}(hc:Am.cellsAt h b o n=some cs):Am.cellsAt h' b o n=some cs:=by
 unfold Am.cellsAt at hc ⊢
 split at hc
 ·rename_i k hk
  rw[g.at hk];exact hc
 ·simp at hc
/-- The slice holds these cells. -/
def Reads(h:Heap)(v:Value)(z:Nat)(cs:List Value):Prop:=∃b o n,v=sl b o n z∧n*z=cs.length∧(n=0∨cellsAt h b o (n*z)=some cs)
theorem Buf.reads{h0 h:Heap}{v:Value}{z:Nat}{cs:List Value}(x:Buf h0 h v z cs):Reads h v z cs:=by
 rcases x with⟨rfl,rfl⟩|⟨b,n,rfl,h2,h3,h4⟩
 ·exact⟨0,0,0,rfl,by simp,.inl rfl⟩
 ·exact⟨b,0,n,rfl,h2,.inr (cellsAt_all h4 h2)⟩
/-- Cells that one may write. -/
def Own(h:Heap)(b o n:Nat):Prop:=n=0∨∃k,h[b]?=some k∧k.rw=true∧o+n<=k.cells.length
def bytesV(l:List UInt8):List Value:=l.map λb=>U b.toNat
theorem asInts_bytes(l:List UInt8):asInts (bytesV l)=some l:=by
 induction l with
 |nil=>rfl
 |cons c l ih=>simp only[bytesV,List.map_cons,asInts]at ih ⊢;rw[ih];simp
theorem text_buf{h0 h:Heap}{v:Value}{l:List UInt8}(hv:Buf h0 h v 1 (bytesV l)):aConv 21 v h=some (S l,h):=by
 rcases hv with⟨h1,rfl⟩|⟨b,n,rfl,h2,h3,h4⟩
 ·have:l=[]:=by simpa [bytesV]using h1
  subst this;simp[aConv]
 ·simp only[aConv]
  by_cases hn:n=0
  ·subst hn
   have:l=[]:=by simp[bytesV]at h2;simpa using h2.symm
   subst this;simp
  ·have hc:=cellsAt_all (n:=n) h4 (by simpa using h2)
   simp[hn,hc,asInts_bytes]
def inR(a lo hi:Int):Bool:=decide (lo<=a)&&decide (a<=hi)
theorem inR_iff{a lo hi:Int}:inR a lo hi=true↔lo<=a∧a<=hi:=by simp[inR]
theorem c164(a lo hi:Int)(h:Heap):ACall Gam 164 [I a,I lo,I hi] h λv h'=>v=B (inR a lo hi)∧h'=h:=by
 refine ACall_intro g164 rfl ?_
 unfold fn164
 simp(disch:=omega)
 refine fork_dec (λh1=>?_) (λh1=>?_)
 ·simp[h1,inR]
 ·simp[h1,inR]
theorem c432(a lo hi:Int)(h:Heap):ACall Gam 432 [I a,I lo,I hi] h λv h'=>v=B (inR a lo hi)∧h'=h:=by
 refine ACall_intro g432 rfl ?_
 unfold fn432
 simp(disch:=omega)
 refine fork_dec (λh1=>?_) (λh1=>?_)
 ·simp[h1,inR]
 ·simp[h1,inR]
theorem c457(a:Int)(h:Heap):ACall Gam 457 [I a] h λv h'=>v=B (inR a 1 8)∧h'=h:=by
 refine ACall_intro g457 rfl ?_
 unfold fn457
 simp(disch:=omega)
 refine callW_of (c432 a 1 8 h) ?_
 rintro v h'⟨rfl,rfl⟩
 simp
def okSz(a b:Int):Bool:=inR a 1 8&&inR b 1 8
theorem okSz_iff{a b:Int}:okSz a b=true↔(1<=a∧a<=8)∧1<=b∧b<=8:=by simp[okSz,inR_iff]
theorem c198(a b:Int)(h:Heap):ACall Gam 198 [I a,I b] h λv h'=>v=B (okSz a b)∧h'=h:=by
 refine ACall_intro g198 rfl ?_
 unfold fn198
 simp(disch:=omega)
 refine callW_of (c164 a 1 8 h) ?_
 rintro v h'⟨rfl,rfl⟩
 cases hb:inR a 1 8
 ·simp[okSz,hb]
 ·simp
  refine callW_of (c164 b 1 8 h') ?_
  rintro v h'⟨rfl,rfl⟩
  simp[okSz,hb]
def inner(a b:Int):Int:=a*(b-1)+b*(a-1)
theorem inner_bd{a b:Int}(ha:1<=a∧a<=8)(hb:1<=b∧b<=8):0<=inner a b∧inner a b<=112∧0<=a*(b-1)∧a*(b-1)<=56∧0<=b*(a-1)∧b*(a-1)<=56:=by
 unfold inner
 have h1:0<=a*(b-1):=Int.mul_nonneg (by omega) (by omega)
 have h2:0<=b*(a-1):=Int.mul_nonneg (by omega) (by omega)
 have h3:a*(b-1)<=8*7:=Int.mul_le_mul (by omega) (by omega) (by omega) (by omega)
 have h4:b*(a-1)<=8*7:=Int.mul_le_mul (by omega) (by omega) (by omega) (by omega)
 omega
theorem c166(a b:Int)(ha:1<=a∧a<=8)(hb:1<=b∧b<=8)(h:Heap):ACall Gam 166 [I a,I b] h λv h'=>v=I (inner a b)∧h'=h:=by
 refine ACall_intro g166 rfl ?_
 unfold fn166
 have:=inner_bd ha hb
 simp(disch:=omega)[wrap64]
 simp[inner]
theorem c448(a b:Int)(ha:1<=a∧a<=8)(hb:1<=b∧b<=8)(h:Heap):ACall Gam 448 [I a,I b] h λv h'=>v=I (inner a b)∧h'=h:=by
 refine ACall_intro g448 rfl ?_
 unfold fn448
 have:=inner_bd ha hb
 simp(disch:=omega)[wrap64]
 simp[inner]
def digs:Nat->Nat->List UInt8->List UInt8
 |0,_,acc=>acc
 |f+1,r,acc=>if r=0 then acc else digs f (r/10) (UInt8.ofNat (48+r%10)::acc)
def markOf(m:Nat):List UInt8:=if m=0 then[109,48]else 109::digs m m []
def texts(l:List (List UInt8)):List Value:=l.map S
theorem texts_cell{h:Heap}{b o n k:Nat}{l:List (List UInt8)}(hr:n=0∨cellsAt h b o (n*1)=some (texts l))(hn:n*1=(texts l).length)(hk:k<l.length):cell h b (o+k)=some (S l[k]):=by
 have hl:n=l.length:=by simpa [texts]using hn
 rcases hr with h0|hr
 ·omega
 ·rw[(cell_in (i:=k) hr (by omega)).1]
  simp[texts,hk]
def marks(m n:Nat):List (List UInt8):=(List.range n).map λi=>markOf (m+i)
theorem texts_append(a b:List (List UInt8)):texts (a++b)=texts a++texts b:=by simp[texts]
/-- The first place of a byte. -/
def idx:List UInt8->UInt8->Nat->Int
 |[],_,_=>-1
 |x::r,c,i=>if x=c then i else idx r c (i+1)
theorem idx_drop(s:List UInt8)(c:UInt8)(k:Nat)(hk:k<s.length):idx (s.drop k) c k=if s[k]=c then(k:Int)else idx (s.drop (k+1)) c (k+1):=by
 rw[List.drop_eq_getElem_cons hk];rfl
theorem c183(s:List UInt8)(hs:s.length<=1048576)(c:UInt8)(h:Heap):ACall Gam 183 [S s,U c.toNat,I 0] h λv h'=>v=I (idx s c 0)∧h'=h:=by
 refine ACall_intro g183 rfl ?_
 unfold fn183
 simp(disch:=omega)
 refine awp_loop (λk σ h'=>h'=h∧k<=s.length∧idx (s.drop k) c k=idx s c 0∧σ 0=S s∧σ 1=U c.toNat∧σ 7=I k) (λk=>s.length-k) 0 ?_ ?_
 ·simp
 ·rintro k σ h'⟨rfl,hk,hd,h0,h1,h7⟩
  simp(disch:=omega)[h0,h7]
  refine fork_dec (λhlt=>?_) (λhge=>?_)
  ·rw[idx_drop s c k hlt]at hd
   simp(disch:=omega)[h0,h1,h7,hlt]
   refine fork_dec (λhe=>?_) (λhe=>?_)
   ·have:s[k]=c:=UInt8.toNat_inj.1 (by omega)
    rw[if_pos this]at hd
    simp(disch:=omega)[h0,h1,h7,hd]
   ·have:¬s[k]=c:=λe=>he (by rw[e])
    rw[if_neg this]at hd
    simp(disch:=omega)[h0,h1,h7,wrap64]
    exact⟨k+1,⟨by omega,hd,by omega⟩,by omega⟩
  ·have:k=s.length:=by omega
   subst this
   simp[idx]at hd
   simp(disch:=omega)[h0,h1,h7,hd]
def All3{α β γ:Type}(R:α->β->γ->Prop):List α->List β->List γ->Prop
 |[],[],[]=>True
 |a::x,b::y,c::z=>R a b c∧All3 R x y z
 |_,_,_=>False
theorem All3.mono{α β γ:Type}{R S:α->β->γ->Prop}:∀{x:List α} {y:List β} {z:List γ},(∀a b c,c∈z->R a b c->S a b c)->All3 R x y z->All3 S x y z
 |[],[],[],_,_=>trivial
 |a::x,b::y,c::z,h,r=>⟨h a b c (by simp) r.1,All3.mono (λa b c hc=>h a b c (by simp[hc])) r.2⟩
 |[],_::_,_,_,r=>r.elim
 |[],[],_::_,_,r=>r.elim
 |_::_,[],_,_,r=>r.elim
 |_::_,_::_,[],_,r=>r.elim
/-- These cells read so; the memory behind them is our own: these blocks. -/
def Ow(h:Heap):(D:Shp)->List Value->D.T->List Nat->Prop
 |.int k,cs,(x:Int),bs=>cs=[.int k x]∧(Lit.int k x).wf=true∧bs=[]
 |.str,cs,(x:List UInt8),bs=>cs=[S x]∧x.length<=maxLen∧bs=[]
 |.bool,cs,(x:Bool),bs=>cs=[.bool x]∧bs=[]
 |.pair a b,cs,(x:a.T×b.T),bs=>∃c1 c2 b1 b2,cs=c1++c2∧bs=b1++b2∧Ow h a c1 x.1 b1∧Ow h b c2 x.2 b2
 |.slice a,cs,(x:List a.T),bs=>∃b z css bss,cs=[sl b 0 x.length z]∧(z=a.n∨b=0∧x=[])∧x.length<=maxLen∧All3 (λc y s=>Ow h a c y s) css x bss∧(x=[]∧bs=[]∨x≠[]∧bs=b::bss.flatten∧h[b]?=some ⟨css.flatten,true⟩)
theorem Ow.frame{h h':Heap}:∀{D:Shp} {cs:List Value} {x:D.T} {bs:List Nat},(∀b∈bs,h'[b]?=h[b]?)->Ow h D cs x bs->Ow h' D cs x bs
 |.int _,cs,x,bs,_,r=>r
 |.str,cs,x,bs,_,r=>r
 |.bool,cs,x,bs,_,r=>r
 |.pair a b,cs,x,bs,hs,⟨c1,c2,b1,b2,e,e',h1,h2⟩=>⟨c1,c2,b1,b2,e,e',Ow.frame (λb hb=>hs b (by simp[e',hb])) h1,Ow.frame (λb hb=>hs b (by simp[e',hb])) h2⟩
 |.slice a,cs,x,bs,hs,⟨b,z,css,bss,e,hz,hm,h1,.inl ⟨h2,h3⟩⟩=>⟨b,z,css,bss,e,hz,hm,by
   have h2':x=([]:List a.T):=h2
   subst h2'
   cases css<;>cases bss<;>first|trivial|exact h1.elim,.inl ⟨h2,h3⟩⟩
 |.slice a,cs,x,bs,hs,⟨b,z,css,bss,e,hz,hm,h1,.inr ⟨h2,h3,h4⟩⟩=>⟨b,z,css,bss,e,hz,hm,All3.mono (λc y s hsm r=>Ow.frame (λb hb=>hs b (by rw[h3];simp;exact .inr ⟨s,hsm,hb⟩)) r) h1,.inr ⟨h2,h3,by rw[hs b (by simp[h3])];exact h4⟩⟩
theorem Ow.len{h:Heap}:∀{D:Shp} {cs:List Value} {x:D.T} {bs:List Nat},Ow h D cs x bs->cs.length=D.n
 |.int _,cs,x,bs,⟨e,_⟩=>by rw[e];rfl
 |.str,cs,x,bs,⟨e,_⟩=>by rw[e];rfl
 |.bool,cs,x,bs,⟨e,_⟩=>by rw[e];rfl
 |.pair a b,cs,x,bs,⟨c1,c2,b1,b2,e,_,h1,h2⟩=>by rw[e,List.length_append,h1.len,h2.len];rfl
 |.slice a,cs,x,bs,⟨b,z,css,bss,e,_⟩=>by rw[e];rfl
theorem All3.two{h:Heap}{a:Shp}{R:List Value->a.T->Prop}:∀{css:List (List Value)} {x:List a.T} {bss:List (List Nat)},All3 (λc y s=>Ow h a c y s) css x bss->(∀c y s,Ow h a c y s->R c y)->All2 R css x
 |[],[],[],_,_=>trivial
 |c::css,y::x,s::bss,r,f=>⟨f c y s r.1,All3.two r.2 f⟩
 |[],_::_,_,r,_=>r.elim
 |[],[],_::_,r,_=>r.elim
 |_::_,[],_,r,_=>r.elim
 |_::_,_::_,[],r,_=>r.elim
theorem Ow.rd{h:Heap}:∀{D:Shp} {cs:List Value} {x:D.T} {bs:List Nat},Ow h D cs x bs->Rd h D cs x
 |.int _,cs,x,bs,⟨e,w,_⟩=>⟨e,w⟩
 |.str,cs,x,bs,⟨e,w,_⟩=>⟨e,w⟩
 |.bool,cs,x,bs,⟨e,_⟩=>e
 |.pair a b,cs,x,bs,⟨c1,c2,b1,b2,e,_,h1,h2⟩=>⟨c1,c2,e,h1.rd,h2.rd⟩
 |.slice a,cs,x,bs,⟨b,z,css,bss,e,hz,hm,h1,h2⟩=>by
  have h1':All2 (λc y=>Rd h a c y) css x:=All3.two h1 λc y s r=>Ow.rd r
  refine⟨b,0,z,css,e,hz,hm,h1',?_⟩
  rcases h2 with⟨h2,_⟩|⟨_,_,h4⟩
  ·exact .inl h2
  ·exact .inr (cellsAt_all h4 (All2.len_flatten h1').symm)
theorem Ow.lt{h:Heap}:∀{D:Shp} {cs:List Value} {x:D.T} {bs:List Nat},Ow h D cs x bs->∀b∈bs,b<h.length
 |.int _,cs,x,bs,⟨_,_,e⟩=>by rw[e];simp
 |.str,cs,x,bs,⟨_,_,e⟩=>by rw[e];simp
 |.bool,cs,x,bs,⟨_,e⟩=>by rw[e];simp
 |.pair a b,cs,x,bs,⟨c1,c2,b1,b2,_,e,h1,h2⟩=>by
  intro b hb
  rw[e]at hb
  rcases List.mem_append.1 hb with hb|hb
  ·exact h1.lt b hb
  ·exact h2.lt b hb
 |.slice a,cs,x,bs,⟨b,z,css,bss,e,hz,hm,h1,.inl ⟨_,h2⟩⟩=>by rw[h2];simp
 |.slice a,cs,x,bs,⟨b,z,css,bss,e,hz,hm,h1,.inr ⟨_,h2,h3⟩⟩=>by
  intro b' hb
  rw[h2]at hb
  rcases List.mem_cons.1 hb with rfl|hb
  ·exact at_lt h3
  ·obtain⟨s,hs,hb⟩:=List.mem_flatten.1 hb
   exact aux h1 s hs b' hb
where
 aux {h:Heap} {a:Shp}:∀{css:List (List Value)} {x:List a.T} {bss:List (List Nat)},All3 (λc y s=>Ow h a c y s) css x bss->∀s∈bss,∀b∈s,b<h.length
 |[],[],[],_=>by simp
 |c::css,y::x,s::bss,r=>by
  intro s' hs' b hb
  rcases List.mem_cons.1 hs' with rfl|hs'
  ·exact Ow.lt r.1 b hb
  ·exact aux r.2 s' hs' b hb
 |[],_::_,_,r=>r.elim
 |[],[],_::_,r=>r.elim
 |_::_,[],_,r=>r.elim
 |_::_,_::_,[],r=>r.elim
/-- The value reads so. -/
def Vr(h:Heap)(D:Shp)(v:Value)(X:D.T):Prop:=∃cs,Rd h D cs X∧v=asVal D cs
/-- The value reads so, and its memory is our own, apart, among the blocks from lo on, before hi. -/
def Vo(h:Heap)(lo hi:Nat)(D:Shp)(v:Value)(X:D.T):Prop:=∃cs bs,Ow h D cs X bs∧v=asVal D cs∧bs.Nodup∧∀b∈bs,lo<=b∧b<hi
/-- Only blocks from lo on, before hi, have turned. -/
def Mod(lo hi:Nat)(h h':Heap):Prop:=h.length<=h'.length∧∀b,b<h.length->b<lo∨hi<=b->h'[b]?=h[b]?
theorem grows_of{h h':Heap}(hl:h.length<=h'.length)(hs:∀b,b<h.length->h'[b]?=h[b]?):Grows h h':=by
 refine⟨h'.drop h.length,?_⟩
 apply List.ext_getElem?
 intro i
 by_cases hi:i<h.length
 ·rw[hs i hi,List.getElem?_append_left hi]
 ·rw[List.getElem?_append_right (by omega),List.getElem?_drop];congr 1;omega
theorem Grows.look{h h':Heap}(g:Grows h h'){b:Nat}(hb:b<h.length):h'[b]?=h[b]?:=by
 obtain⟨l,rfl⟩:=g;exact List.getElem?_append_left hb
theorem Grows.mod{h h':Heap}(g:Grows h h'){lo hi:Nat}:Mod lo hi h h':=⟨g.le,λb hb _=>g.look hb⟩
theorem Mod.trans{lo hi:Nat}{a b c:Heap}(x:Mod lo hi a b)(y:Mod lo hi b c):Mod lo hi a c:=
 ⟨Nat.le_trans x.1 y.1,λk hk hn=>by rw[y.2 k (Nat.lt_of_lt_of_le hk x.1) hn,x.2 k hk hn]⟩
theorem Mod.wide{lo hi lo' hi':Nat}{a b:Heap}(x:Mod lo hi a b)(h1:lo'<=lo)(h2:hi<=hi'):Mod lo' hi' a b:=⟨x.1,λk hk hn=>x.2 k hk (by omega)⟩
theorem Mod.grows{lo hi:Nat}{h0 h h':Heap}(x:Mod lo hi h h')(g:Grows h0 h)(hl:h0.length<=lo):Grows h0 h':=
 grows_of (Nat.le_trans g.le x.1) λb hb=>by rw[x.2 b (Nat.lt_of_lt_of_le hb g.le) (.inl (by omega)),g.look hb]
theorem Vr.grow{h h':Heap}{D:Shp}{v:Value}{X:D.T}(x:Vr h D v X)(g:Grows h h'):Vr h' D v X:=by
 obtain⟨cs,r,e⟩:=x;exact⟨cs,r.grow g,e⟩
theorem Vo.vr{h:Heap}{lo hi:Nat}{D:Shp}{v:Value}{X:D.T}(x:Vo h lo hi D v X):Vr h D v X:=by
 obtain⟨cs,bs,r,e,_⟩:=x;exact⟨cs,r.rd,e⟩
theorem Vo.mod{h h':Heap}{lo hi lo' hi':Nat}{D:Shp}{v:Value}{X:D.T}(x:Vo h lo hi D v X)(m:Mod lo' hi' h h')(hd:hi<=lo'∨hi'<=lo):Vo h' lo hi D v X:=by
 obtain⟨cs,bs,r,e,n,hb⟩:=x
 exact⟨cs,bs,r.frame λb hb'=>m.2 b (r.lt b hb') (by have:=hb b hb';omega),e,n,hb⟩
theorem Vo.grow{h h':Heap}{lo hi:Nat}{D:Shp}{v:Value}{X:D.T}(x:Vo h lo hi D v X)(g:Grows h h'):Vo h' lo hi D v X:=by
 obtain⟨cs,bs,r,e,n,hb⟩:=x
 exact⟨cs,bs,r.frame λb hb'=>g.look (r.lt b hb'),e,n,hb⟩
theorem Vo.wide{h:Heap}{lo hi lo' hi':Nat}{D:Shp}{v:Value}{X:D.T}(x:Vo h lo hi D v X)(h1:lo'<=lo)(h2:hi<=hi'):Vo h lo' hi' D v X:=by
 obtain⟨cs,bs,r,e,n,hb⟩:=x
 exact⟨cs,bs,r,e,n,λb hb'=>by have:=hb b hb';omega⟩
abbrev shInt:Shp:=.int .i64
abbrev shInts:Shp:=.slice shInt
abbrev shTrip:Shp:=.pair shInt (.pair shInt shInt)
abbrev shTrips:Shp:=.slice shTrip
abbrev shTexts:Shp:=.slice .str
abbrev shPanel:Shp:=.pair shInt (.pair shInt shInts)
abbrev shJournal:Shp:=.pair shPanel (.pair shTrips shTrips)
theorem All2.mem{α β:Type}{R:α->β->Prop}:∀{x:List α} {y:List β},All2 R x y->∀a∈x,∃b∈y,R a b
 |[],[],_,a,ha=>by simp at ha
 |p::x,q::y,h,a,ha=>by
  rcases List.mem_cons.1 ha with rfl|ha
  ·exact⟨q,by simp,h.1⟩
  ·obtain⟨b,hb,r⟩:=All2.mem h.2 a ha
   exact⟨b,by simp[hb],r⟩
theorem flat_part{α:Type}{z:Nat}:∀{css:List (List α)} (_:∀c∈css,c.length=z) {i:Nat} {c:List α},css[i]?=some c->(css.flatten.drop (i*z)).take z=c
 |[],_,i,c,h=>by simp at h
 |d::css,hz,0,c,h=>by
  have hd:=hz d (by simp)
  simp at h;subst h
  simp only[List.flatten_cons,Nat.zero_mul,List.drop_zero]
  rw[<-hd,List.take_left']
  rfl
 |d::css,hz,i+1,c,h=>by
  have hd:=hz d (by simp)
  simp only[List.flatten_cons]
  rw[List.drop_append,List.drop_eq_nil_of_le (by rw[hd,Nat.add_mul];omega),List.nil_append,hd,Nat.add_mul,Nat.one_mul,Nat.add_sub_cancel]
  exact flat_part (λc hc=>hz c (by simp[hc])) (by simpa using h)
theorem Vr.slice{h:Heap}{a:Shp}{v:Value}{X:List a.T}(x:Vr h (.slice a) v X):∃b o z,v=sl b o X.length z∧(z=a.n∨b=0∧X=[])∧X.length<=maxLen∧∀i (hi:i<X.length),∃c,cellsAt h b (o+i*a.n) a.n=some c∧Rd h a c X[i]:=by
 obtain⟨cs,⟨b,o,z,css,rfl,hz0,hm,h1,h2⟩,rfl⟩:=x
 refine⟨b,o,z,rfl,hz0,hm,λi hi=>?_⟩
 have hne:X≠[]:=by intro e;subst e;simp at hi
 have h2:=h2.resolve_left hne
 have hz:∀c∈css,c.length=a.n:=λc hc=>by obtain⟨y,_,r⟩:=All2.mem h1 c hc;exact r.len
 obtain⟨c,hc,r⟩:=h1.get' i X[i] (by simp[hi])
 refine⟨c,?_,r⟩
 have:=cellsAt_in (i:=i*a.n) (m:=a.n) h2 (by rw[<-Nat.succ_mul];exact Nat.mul_le_mul_right _ hi)
 rw[flat_part hz hc]at this
 exact this
/-- How many elements and letters. -/
def siz:(D:Shp)->D.T->Nat
 |.int _,_|.bool,_=>0
 |.str,(x:List UInt8)=>x.length
 |.pair a b,(x:a.T×b.T)=>siz a x.1+siz b x.2
 |.slice a,(x:List a.T)=>x.length+(x.map λy=>siz a y).sum
theorem reps_succ{m:Nat}{z:List Value}:reps (m+1) z=z++reps m z:=by simp[reps,List.replicate_succ]
theorem maxLen_eq:maxLen=9223372036854775807:=by decide
def ints(l:List Int):List Value:=l.map I
def I64(n:Int):Prop:=-9223372036854775808<=n∧n<9223372036854775808
theorem wf_i64{n:Int}:(Lit.int .i64 n).wf=true↔I64 n:=by
 simp[Lit.wf,IntKind.min,IntKind.max,IntKind.signed,IntKind.bits,I64]
 omega
theorem rd_ints{h:Heap}:∀{css:List (List Value)} {X:List Int},All2 (λc y=>Rd h shInt c y) css X->css.flatten=ints X∧∀x∈X,I64 x
 |[],[],_=>by simp[ints]
 |c::css,x::X,r=>by
  obtain⟨e,w⟩:=r.1
  obtain⟨h1,h2⟩:=rd_ints r.2
  refine⟨by simp[e,h1,ints],λy hy=>?_⟩
  rcases List.mem_cons.1 hy with rfl|hy
  ·exact wf_i64.1 w
  ·exact h2 y hy
/-- A slice of numbers. -/
theorem Vr.ints{h:Heap}{v:Value}{X:List Int}(x:Vr h shInts v X):∃b o z,v=sl b o X.length z∧(z=1∨b=0∧X=[])∧X.length<=maxLen∧(∀x∈X,I64 x)∧(X=[]∨cellsAt h b o X.length=some (Am.ints X)):=by
 obtain⟨cs,⟨b,o,z,css,rfl,hz,hm,h1,h2⟩,rfl⟩:=x
 obtain⟨e1,e2⟩:=rd_ints h1
 have h2':X=[]∨cellsAt h b o (X.length*1)=some css.flatten:=h2
 rw[e1,Nat.mul_one]at h2'
 exact⟨b,o,z,rfl,hz,hm,e2,h2'⟩
theorem ints_cell{h:Heap}{b o k:Nat}{X:List Int}(hr:X=[]∨cellsAt h b o X.length=some (ints X))(hk:k<X.length):cell h b (o+k)=some (I X[k]):=by
 rcases hr with h0|hr
 ·subst h0;simp at hk
 ·rw[(cell_in (i:=k) hr hk).1];simp[ints,hk]
theorem all_ints(h:Heap):∀(X:List Int),(∀x∈X,I64 x)->All2 (λc y=>Rd h shInt c y) (X.map λx=>[I x]) X
 |[],_=>trivial
 |x::X,hx=>⟨⟨rfl,wf_i64.2 (hx x (by simp))⟩,all_ints h X λy hy=>hx y (by simp[hy])⟩
theorem flat_ints:∀(X:List Int),(X.map λx=>[I x]).flatten=ints X
 |[]=>rfl
 |x::X=>by simp[ints,List.flatten_cons];have:=flat_ints X;simp[ints]at this;exact this
theorem Vr.of_ints{h:Heap}{b o z:Nat}{X:List Int}(hz:z=1∨b=0∧X=[])(hm:X.length<=maxLen)(hx:∀x∈X,I64 x)(hc:X=[]∨cellsAt h b o X.length=some (Am.ints X)):Vr h shInts (sl b o X.length z) X:=
 ⟨[sl b o X.length z],⟨b,o,z,X.map λx=>[I x],rfl,hz,hm,all_ints h X hx,hc.imp id λh=>by rw[flat_ints];show cellsAt _ _ _ (X.length*1)=_;rw[Nat.mul_one];exact h⟩,rfl⟩
theorem all3_ints(h:Heap):∀(X:List Int),(∀x∈X,I64 x)->All3 (λc y s=>Ow h shInt c y s) (X.map λx=>[I x]) X (X.map λ_=>[])
 |[],_=>trivial
 |x::X,hx=>⟨⟨rfl,wf_i64.2 (hx x (by simp)),rfl⟩,all3_ints h X λy hy=>hx y (by simp[hy])⟩
theorem nils_flat{α β:Type}:∀(X:List α),(X.map λ_=>([]:List β)).flatten=[]
 |[]=>rfl
 |x::X=>by simp[nils_flat X]
theorem Vo.of_ints{h:Heap}{b lo hi z:Nat}{X:List Int}(hz:z=1∨b=0∧X=[])(hm:X.length<=maxLen)(hx:∀x∈X,I64 x)(hc:X=[]∨h[b]?=some ⟨Am.ints X,true⟩∧lo<=b∧b<hi):Vo h lo hi shInts (sl b 0 X.length z) X:=by
 refine⟨[sl b 0 X.length z],if X=[]then[]else[b],⟨b,z,X.map λx=>[I x],X.map λ_=>[],rfl,hz,hm,all3_ints h X hx,?_⟩,rfl,?_,?_⟩
 ·by_cases h0:X=[]
  ·exact .inl ⟨h0,by simp[h0]⟩
  ·exact .inr ⟨h0,by rw[if_neg h0,nils_flat],by rw[flat_ints];exact(hc.resolve_left h0).1⟩
 ·split<;>simp
 ·intro b' hb'
  by_cases h0:X=[]
  ·simp[h0]at hb'
  ·simp[h0]at hb';subst hb';exact(hc.resolve_left h0).2
theorem All3.ints{h:Heap}:∀{css:List (List Value)} {X:List Int} {bss:List (List Nat)},All3 (λc y s=>Ow h shInt c y s) css X bss->css.flatten=ints X∧(∀x∈X,I64 x)∧bss.flatten=[]
 |[],[],[],_=>by simp[Am.ints]
 |c::css,x::X,s::bss,r=>by
  obtain⟨e,w,es⟩:=r.1
  obtain⟨h1,h2,h3⟩:=All3.ints r.2
  refine⟨by simp[e,h1,Am.ints],λy hy=>?_,by simp[es,h3]⟩
  rcases List.mem_cons.1 hy with rfl|hy
  ·exact wf_i64.1 w
  ·exact h2 y hy
 |[],_::_,_,r=>r.elim
 |[],[],_::_,r=>r.elim
 |_::_,[],_,r=>r.elim
 |_::_,_::_,[],r=>r.elim
theorem Vo.ints{h:Heap}{lo hi:Nat}{v:Value}{X:List Int}(x:Vo h lo hi shInts v X):∃b z,v=sl b 0 X.length z∧(z=1∨b=0∧X=[])∧X.length<=maxLen∧(∀x∈X,I64 x)∧(X=[]∨h[b]?=some ⟨Am.ints X,true⟩∧lo<=b∧b<hi):=by
 obtain⟨cs,bs,⟨b,z,css,bss,rfl,hz,hm,h1,h2⟩,rfl,_,hb⟩:=x
 obtain⟨e1,e2,e3⟩:=All3.ints h1
 refine⟨b,z,rfl,hz,hm,e2,?_⟩
 rcases h2 with⟨h2,_⟩|⟨_,h3,h4⟩
 ·exact .inl h2
 ·rw[e3]at h3;rw[e1]at h4
  exact .inr ⟨h4,hb b (by simp[h3])⟩
theorem sum_zero{α:Type}:∀(X:List α),(X.map λ_=>0).sum=0
 |[]=>rfl
 |x::X=>by simp[sum_zero X]
theorem ints_append(a b:List Int):ints (a++b)=ints a++ints b:=by simp[ints]
theorem siz_ints(X:List Int):siz shInts X=X.length:=by
 show X.length+(X.map λ_=>0).sum=_
 rw[sum_zero];rfl
/-- One cell is written. -/
theorem store_one{h:Heap}{b o:Nat}{cs:List Value}{v:Value}(hk:h[b]?=some ⟨cs,true⟩)(ho:o<cs.length):storeAt h b o [v]=some (h.set b ⟨cs.set o v,true⟩):=by
 unfold storeAt
 simp only[hk]
 rw[if_pos ⟨trivial,ho⟩]
 congr 3
 unfold splice
 rw[List.set_eq_take_append_cons_drop,if_pos ho]
 simp
theorem Mod.put{lo hi b:Nat}{h h':Heap}(m:Mod lo hi h h')(hb:lo<=b∧b<hi)(k:Blk):Mod lo hi h (h'.set b k):=
 ⟨by simpa using m.1,λc hc hn=>by rw[List.getElem?_set_ne (by omega)];exact m.2 c hc hn⟩
theorem Mod.refl(lo hi:Nat)(h:Heap):Mod lo hi h h:=⟨Nat.le_refl _,λ_ _ _=>rfl⟩
theorem Vr.panel{h:Heap}{v:Value}{W H:Int}{br:List Int}(x:Vr h shPanel v (W,H,br)):∃s,v=.agg #[I W,I H,s]∧I64 W∧I64 H∧Vr h shInts s br:=by
 obtain⟨cs,⟨c1,c2,rfl,⟨rfl,w1⟩,⟨c3,c4,rfl,⟨rfl,w2⟩,r⟩⟩,rfl⟩:=x
 have hl:=r.len
 match c4,hl with
 |[s],_=>exact⟨s,rfl,wf_i64.1 w1,wf_i64.1 w2,[s],r,rfl⟩
theorem Vr.of_panel{h:Heap}{s:Value}{W H:Int}{br:List Int}(h1:I64 W)(h2:I64 H)(x:Vr h shInts s br):Vr h shPanel (.agg #[I W,I H,s]) (W,H,br):=by
 obtain⟨cs,r,rfl⟩:=x
 have hl:=r.len
 match cs,hl with
 |[s],_=>exact⟨[I W,I H,s],⟨[I W],[I H,s],rfl,⟨rfl,wf_i64.2 h1⟩,[I H],[s],rfl,⟨rfl,wf_i64.2 h2⟩,r⟩,rfl⟩
theorem Vo.panel{h:Heap}{lo hi:Nat}{v:Value}{W H:Int}{br:List Int}(x:Vo h lo hi shPanel v (W,H,br)):∃s,v=.agg #[I W,I H,s]∧I64 W∧I64 H∧Vo h lo hi shInts s br:=by
 obtain⟨cs,bs,⟨c1,c2,b1,b2,rfl,rfl,⟨rfl,w1,rfl⟩,⟨c3,c4,b3,b4,rfl,rfl,⟨rfl,w2,rfl⟩,r⟩⟩,rfl,nd,hb⟩:=x
 have hl:=r.len
 match c4,hl with
 |[s],_=>exact⟨s,rfl,wf_i64.1 w1,wf_i64.1 w2,[s],_,r,rfl,by simpa using nd,by simpa using hb⟩
theorem Vo.of_panel{h:Heap}{lo hi:Nat}{s:Value}{W H:Int}{br:List Int}(h1:I64 W)(h2:I64 H)(x:Vo h lo hi shInts s br):Vo h lo hi shPanel (.agg #[I W,I H,s]) (W,H,br):=by
 obtain⟨cs,bs,r,rfl,nd,hb⟩:=x
 have hl:=r.len
 match cs,hl with
 |[s],_=>exact⟨[I W,I H,s],bs,⟨[I W],[I H,s],[],bs,rfl,rfl,⟨rfl,wf_i64.2 h1,rfl⟩,[I H],[s],[],bs,rfl,rfl,⟨rfl,wf_i64.2 h2,rfl⟩,r⟩,rfl,nd,hb⟩
theorem siz_panel(W H:Int)(br:List Int):siz shPanel (W,H,br)=br.length:=by
 show 0+(0+siz shInts br)=_
 rw[siz_ints];omega
abbrev Trip:=Int×Int×Int
def trip(t:Trip):List Value:=[I t.1,I t.2.1,I t.2.2]
def trips(l:List Trip):List Value:=(l.map trip).flatten
def T64(t:Trip):Prop:=I64 t.1∧I64 t.2.1∧I64 t.2.2
theorem trips_append(a b:List Trip):trips (a++b)=trips a++trips b:=by simp[trips]
theorem trips_cons(a:Trip)(b:List Trip):trips (a::b)=I a.1::I a.2.1::I a.2.2::trips b:=by simp[trips,trip]
theorem trips_nil:trips []=[]:=rfl
theorem trips_len:∀l:List Trip,(trips l).length=3*l.length
 |[]=>rfl
 |a::l=>by rw[trips_cons];simp[trips_len l];omega
theorem rd_trip{h:Heap}{c:List Value}{t:Trip}:Rd h shTrip c t↔c=trip t∧T64 t:=by
 constructor
 ·rintro⟨c1,c2,rfl,⟨rfl,w1⟩,c3,c4,rfl,⟨rfl,w2⟩,rfl,w3⟩
  exact⟨rfl,wf_i64.1 w1,wf_i64.1 w2,wf_i64.1 w3⟩
 ·rintro⟨rfl,w1,w2,w3⟩
  exact⟨[I t.1],[I t.2.1,I t.2.2],rfl,⟨rfl,wf_i64.2 w1⟩,[I t.2.1],[I t.2.2],rfl,⟨rfl,wf_i64.2 w2⟩,rfl,wf_i64.2 w3⟩
theorem rd_trips{h:Heap}:∀{css:List (List Value)} {X:List Trip},All2 (λc y=>Rd h shTrip c y) css X->css.flatten=trips X∧∀x∈X,T64 x
 |[],[],_=>by simp[trips]
 |c::css,x::X,r=>by
  obtain⟨e,w⟩:=rd_trip.1 r.1
  obtain⟨h1,h2⟩:=rd_trips r.2
  refine⟨by simp[e,h1,trips],λy hy=>?_⟩
  rcases List.mem_cons.1 hy with rfl|hy
  ·exact w
  ·exact h2 y hy
theorem Vr.trips{h:Heap}{v:Value}{X:List Trip}(x:Vr h shTrips v X):∃b o z,v=sl b o X.length z∧(z=3∨b=0∧X=[])∧X.length<=maxLen∧(∀x∈X,T64 x)∧(X=[]∨cellsAt h b o (X.length*3)=some (Am.trips X)):=by
 obtain⟨cs,⟨b,o,z,css,rfl,hz,hm,h1,h2⟩,rfl⟩:=x
 obtain⟨e1,e2⟩:=rd_trips h1
 have h2':X=[]∨cellsAt h b o (X.length*3)=some css.flatten:=h2
 rw[e1]at h2'
 exact⟨b,o,z,rfl,hz,hm,e2,h2'⟩
theorem trips_get:∀(X:List Trip) (k:Nat) (hk:k<X.length),(trips X)[3*k]?=some (I X[k].1)∧(trips X)[3*k+1]?=some (I X[k].2.1)∧(trips X)[3*k+2]?=some (I X[k].2.2)
 |[],k,hk=>by simp at hk
 |x::X,0,_=>by rw[trips_cons];simp
 |x::X,k+1,hk=>by
  have:=trips_get X k (by simpa using hk)
  rw[trips_cons]
  simpa [Nat.mul_add]using this
theorem trips_cell{h:Heap}{b o k:Nat}{X:List Trip}(hr:X=[]∨cellsAt h b o (X.length*3)=some (trips X))(hk:k<X.length):cell h b (o+k*3)=some (I X[k].1)∧cell h b (o+k*3+1)=some (I X[k].2.1)∧cell h b (o+k*3+2)=some (I X[k].2.2):=by
 rcases hr with h0|hr
 ·subst h0;simp at hk
 ·have:=trips_get X k hk
  have h1:=(cell_in (i:=3*k) hr (by omega)).1
  have h2:=(cell_in (i:=3*k+1) hr (by omega)).1
  have h3:=(cell_in (i:=3*k+2) hr (by omega)).1
  rw[show o+k*3=o+3*k by omega]
  exact⟨by rw[h1];exact this.1,by rw[Nat.add_assoc,h2];exact this.2.1,by rw[Nat.add_assoc,h3];exact this.2.2⟩
theorem all_trips(h:Heap):∀(X:List Trip),(∀x∈X,T64 x)->All2 (λc y=>Rd h shTrip c y) (X.map trip) X
 |[],_=>trivial
 |x::X,hx=>⟨rd_trip.2 ⟨rfl,hx x (by simp)⟩,all_trips h X λy hy=>hx y (by simp[hy])⟩
theorem Vr.of_trips{h:Heap}{b o z:Nat}{X:List Trip}(hz:z=3∨b=0∧X=[])(hm:X.length<=maxLen)(hx:∀x∈X,T64 x)(hc:X=[]∨cellsAt h b o (X.length*3)=some (Am.trips X)):Vr h shTrips (sl b o X.length z) X:=
 ⟨[sl b o X.length z],⟨b,o,z,X.map trip,rfl,hz,hm,all_trips h X hx,hc⟩,rfl⟩
theorem ow_trip{h:Heap}{c:List Value}{t:Trip}{bs:List Nat}:Ow h shTrip c t bs↔c=trip t∧T64 t∧bs=[]:=by
 constructor
 ·rintro⟨c1,c2,b1,b2,rfl,rfl,⟨rfl,w1,rfl⟩,c3,c4,b3,b4,rfl,rfl,⟨rfl,w2,rfl⟩,rfl,w3,rfl⟩
  exact⟨rfl,⟨wf_i64.1 w1,wf_i64.1 w2,wf_i64.1 w3⟩,rfl⟩
 ·rintro⟨rfl,⟨w1,w2,w3⟩,rfl⟩
  exact⟨[I t.1],[I t.2.1,I t.2.2],[],[],rfl,rfl,⟨rfl,wf_i64.2 w1,rfl⟩,[I t.2.1],[I t.2.2],[],[],rfl,rfl,⟨rfl,wf_i64.2 w2,rfl⟩,rfl,wf_i64.2 w3,rfl⟩
theorem all3_trips(h:Heap):∀(X:List Trip),(∀x∈X,T64 x)->All3 (λc y s=>Ow h shTrip c y s) (X.map trip) X (X.map λ_=>[])
 |[],_=>trivial
 |x::X,hx=>⟨ow_trip.2 ⟨rfl,hx x (by simp),rfl⟩,all3_trips h X λy hy=>hx y (by simp[hy])⟩
theorem Vo.of_trips{h:Heap}{b lo hi z:Nat}{X:List Trip}(hz:z=3∨b=0∧X=[])(hm:X.length<=maxLen)(hx:∀x∈X,T64 x)(hc:X=[]∨h[b]?=some ⟨Am.trips X,true⟩∧lo<=b∧b<hi):Vo h lo hi shTrips (sl b 0 X.length z) X:=by
 refine⟨[sl b 0 X.length z],if X=[]then[]else[b],⟨b,z,X.map trip,X.map λ_=>[],rfl,hz,hm,all3_trips h X hx,?_⟩,rfl,?_,?_⟩
 ·by_cases h0:X=[]
  ·exact .inl ⟨h0,by simp[h0]⟩
  ·exact .inr ⟨h0,by rw[if_neg h0,nils_flat],(hc.resolve_left h0).1⟩
 ·split<;>simp
 ·intro b' hb'
  by_cases h0:X=[]
  ·simp[h0]at hb'
  ·simp[h0]at hb';subst hb';exact(hc.resolve_left h0).2
theorem All3.trips{h:Heap}:∀{css:List (List Value)} {X:List Trip} {bss:List (List Nat)},All3 (λc y s=>Ow h shTrip c y s) css X bss->css.flatten=Am.trips X∧(∀x∈X,T64 x)∧bss.flatten=[]
 |[],[],[],_=>by simp[Am.trips]
 |c::css,x::X,s::bss,r=>by
  obtain⟨e,w,es⟩:=ow_trip.1 r.1
  obtain⟨h1,h2,h3⟩:=All3.trips r.2
  refine⟨by simp[e,h1,Am.trips],λy hy=>?_,by simp[es,h3]⟩
  rcases List.mem_cons.1 hy with rfl|hy
  ·exact w
  ·exact h2 y hy
 |[],_::_,_,r=>r.elim
 |[],[],_::_,r=>r.elim
 |_::_,[],_,r=>r.elim
 |_::_,_::_,[],r=>r.elim
theorem Vo.trips{h:Heap}{lo hi:Nat}{v:Value}{X:List Trip}(x:Vo h lo hi shTrips v X):∃b z,v=sl b 0 X.length z∧(z=3∨b=0∧X=[])∧X.length<=maxLen∧(∀x∈X,T64 x)∧(X=[]∨h[b]?=some ⟨Am.trips X,true⟩∧lo<=b∧b<hi):=by
 obtain⟨cs,bs,⟨b,z,css,bss,rfl,hz,hm,h1,h2⟩,rfl,_,hb⟩:=x
 obtain⟨e1,e2,e3⟩:=All3.trips h1
 refine⟨b,z,rfl,hz,hm,e2,?_⟩
 rcases h2 with⟨h2,_⟩|⟨_,h3,h4⟩
 ·exact .inl h2
 ·rw[e3]at h3;rw[e1]at h4
  exact .inr ⟨h4,hb b (by simp[h3])⟩
theorem siz_trips(X:List Trip):siz shTrips X=X.length:=by
 show X.length+(X.map λ_=>0).sum=_
 rw[sum_zero];rfl
theorem pos_of{h h':Heap}(hp:0<h.length)(g:Grows h h'):0<h'.length:=Nat.lt_of_lt_of_le hp g.le
@[simp] theorem nat_neg (n:Nat):((n:Int)<0)=False:=by simp
theorem all2_nil{α β:Type}{R:α->β->Prop}{vs:List β}(h:All2 R [] vs):vs=[]:=by cases vs with|nil=>rfl|cons _ _=>exact h.elim
theorem all2_cons{α β:Type}{R:α->β->Prop}{a:α}{l:List α}{vs:List β}(h:All2 R (a::l) vs):∃v r,vs=v::r∧R a v∧All2 R l r:=by
 cases vs with
 |nil=>exact h.elim
 |cons v r=>exact⟨v,r,rfl,h.1,h.2⟩
theorem ArgR.vr{h:Heap}{D:Shp}{v:Value}(x:ArgR h D v):∃X,Vr h D v X:=by obtain⟨cs,X,r,e⟩:=x;exact⟨X,cs,r,e⟩
theorem trips_inj_nil{X:List Trip}(h:trips X=[]):X=[]:=by
 cases X with
 |nil=>rfl
 |cons x X=>rw[trips_cons]at h;cases h
theorem ints_inj_nil{X:List Int}(h:ints X=[]):X=[]:=by
 cases X with
 |nil=>rfl
 |cons x X=>cases h
theorem Buf.ints{h0 h:Heap}{v:Value}{X:List Int}(x:Buf h0 h v 1 (Am.ints X))(hm:X.length<=maxLen)(hx:∀x∈X,I64 x):Vo h h0.length h.length shInts v X:=by
 rcases x with⟨h1,rfl⟩|⟨b,n,rfl,h2,h3,h4⟩
 ·have:=ints_inj_nil h1
  subst this
  exact Vo.of_ints (X:=[]) (.inl rfl) (by simp) (by simp) (.inl rfl)
 ·have:n=X.length:=by simpa [Am.ints]using h2
  subst this
  exact Vo.of_ints (.inl rfl) hm hx (.inr ⟨h4,h3,at_lt h4⟩)
def inverse(X:List Trip):List Trip:=X.reverse.map λt=>(t.1,t.2.2,t.2.1)
abbrev Pan:=Int×Int×List Int
def okBr(b:Int):Bool:=inR b 0 2
def okP(X:Pan):Bool:=okSz X.1 X.2.1&&(decide ((X.2.2.length:Int)=inner X.1 X.2.1)&&X.2.2.all okBr)
structure OkP (X:Pan):Prop where
 w:1<=X.1∧X.1<=8
 h:1<=X.2.1∧X.2.1<=8
 n:(X.2.2.length:Int)=inner X.1 X.2.1
 b:∀x∈X.2.2,0<=x∧x<=2
theorem okP_iff{X:Pan}:okP X=true↔OkP X:=by
 unfold okP
 simp only[Bool.and_eq_true,okSz_iff,decide_eq_true_eq,List.all_eq_true,okBr,inR_iff]
 exact⟨λ⟨⟨a,b⟩,c,d⟩=>⟨a,b,c,d⟩,λ⟨a,b,c,d⟩=>⟨⟨a,b⟩,c,d⟩⟩
/-- A pointer to a panel. -/
def PtP(h:Heap)(v:Value)(X:Pan):Prop:=∃b o s,v=pt b o∧cell h b o=some (I X.1)∧cell h b (o+1)=some (I X.2.1)∧cell h b (o+2)=some s∧Vr h shInts s X.2.2∧I64 X.1∧I64 X.2.1
theorem Grows.cell{h h':Heap}(g:Grows h h'){b o:Nat}{v:Value}(x:Am.cell h b o=some v):Am.cell h' b o=some v:=by
 unfold Am.cell at*
 split at x
 ·rename_i k hk;rw[g.at hk];exact x
 ·cases x
theorem PtP.grow{h h':Heap}{v:Value}{X:Pan}(x:PtP h v X)(g:Grows h h'):PtP h' v X:=by
 obtain⟨b,o,s,e,h1,h2,h3,h4,h5⟩:=x
 exact⟨b,o,s,e,g.cell h1,g.cell h2,g.cell h3,h4.grow g,h5⟩
theorem c449(a:Int)(h:Heap):ACall Gam 449 [I a] h λv h'=>v=B (okBr a)∧h'=h:=by
 refine ACall_intro g449 rfl ?_
 unfold fn449
 simp(disch:=omega)
 refine callW_of (c432 a 0 2 h) ?_
 rintro v h'⟨rfl,rfl⟩
 simp[okBr]
theorem c196(a:Int)(h:Heap):ACall Gam 196 [I a] h λv h'=>v=B (okBr a)∧h'=h:=by
 refine ACall_intro g196 rfl ?_
 unfold fn196
 simp(disch:=omega)
 refine callW_of (c164 a 0 2 h) ?_
 rintro v h'⟨rfl,rfl⟩
 simp[okBr]
theorem all_drop{α:Type}{p:α->Bool}{l:List α}{k:Nat}(hk:k<l.length):(l.drop k).all p=(p l[k]&&(l.drop (k+1)).all p):=by
 rw[List.drop_eq_getElem_cons hk];rfl
theorem c452(v:Value)(X:Pan)(h:Heap)(hv:PtP h v X):ACall Gam 452 [v] h λr h'=>r=B (okP X)∧h'=h:=by
 obtain⟨b,o,s,rfl,h1,h2,h3,hs,hW,hH⟩:=hv
 obtain⟨W,H,br⟩:=X
 obtain⟨b2,o2,z,rfl,_,hm,hx,hc⟩:=hs.ints
 rw[maxLen_eq]at hm
 have hm:br.length<=9223372036854775807:=hm
 simp only at h1 h2
 refine ACall_intro g452 rfl ?_
 unfold fn452
 simp(disch:=omega)[h1,h2,h3]
 refine callW_of (c457 W h) ?_
 rintro v h'⟨rfl,rfl⟩
 cases hb:inR W 1 8
 ·simp[okP,okSz,hb]
 ·simp(disch:=omega)[h1,h2,h3]
  refine callW_of (c457 H h') ?_
  rintro v h'⟨rfl,rfl⟩
  cases hc':inR H 1 8
  ·simp[okP,okSz,hb,hc']
  ·simp(disch:=omega)[h1,h2,h3]
   have qW:=inR_iff.1 hb
   have qH:=inR_iff.1 hc'
   refine callW_of (c448 W H qW qH h') ?_
   rintro v h'⟨rfl,rfl⟩
   refine⟨λ_=>Grows.refl _,?_⟩
   simp(disch:=omega)[h1,h2,h3]
   refine fork_dec (λhn=>?_) (λhn=>?_)
   ·simp(disch:=omega)
    refine awp_loop (λk σ h''=>h''=h'∧k<=br.length∧(br.drop k).all okBr=br.all okBr∧σ 0=pt b o∧σ 3=I k) (λk=>br.length-k) 0 ?_ ?_
    ·simp
    ·rintro k σ h''⟨rfl,hk,ht,q0,q3⟩
     simp(disch:=omega)[q0,q3,h3]
     refine fork_dec (λhlt=>?_) (λhge=>?_)
     ·have k1:k<br.length:=by omega
      simp(disch:=omega)[q0,q3,h3,k1,ints_cell hc k1]
      refine callW_of (c432 br[k] 0 2 _) ?_
      rintro v h'⟨rfl,rfl⟩
      rw[all_drop k1]at ht
      have eb:inR br[k] 0 2=okBr br[k]:=rfl
      rw[eb]
      cases hbr:okBr br[k]
      ·rw[hbr]at ht
       simp[okP,okSz,hb,hc',hn,<-ht]
      ·rw[hbr]at ht
       simp(disch:=omega)[q0,q3,wrap64]
       exact⟨k+1,⟨by omega,by simpa using ht,by omega⟩,by omega⟩
     ·have:k=br.length:=by omega
      subst this
      simp at ht
      simp[okP,okSz,hb,hc',hn]
      exact ht
   ·simp[okP,okSz,hb,hc',hn]
theorem c140(v:Value)(X:Pan)(h:Heap)(hv:Vr h shPanel v X):ACall Gam 140 [v] h λr h'=>r=B (okP X)∧h'=h:=by
 obtain⟨W,H,br⟩:=X
 obtain⟨s,rfl,hW,hH,hs⟩:=hv.panel
 obtain⟨b2,o2,z,rfl,_,hm,hx,hc⟩:=hs.ints
 rw[maxLen_eq]at hm
 refine ACall_intro g140 rfl ?_
 unfold fn140
 simp(disch:=omega)
 refine callW_of (c198 W H h) ?_
 rintro v h'⟨rfl,rfl⟩
 cases hb:okSz W H
 ·simp[okP,hb]
 ·obtain⟨qW,qH⟩:=okSz_iff.1 hb
  simp(disch:=omega)
  refine callW_of (c166 W H qW qH h') ?_
  rintro v h'⟨rfl,rfl⟩
  simp(disch:=omega)
  refine fork_dec (λhn=>?_) (λhn=>?_)
  ·simp(disch:=omega)
   refine awp_loop (λk σ h''=>h''=h'∧k<=br.length∧(br.drop k).all okBr=br.all okBr∧σ 23=sl b2 o2 br.length z∧σ 24=I br.length∧σ 25=I k) (λk=>br.length-k) 0 ?_ ?_
   ·simp
   ·rintro k σ h''⟨rfl,hk,ht,q0,q1,q3⟩
    simp(disch:=omega)[q0,q1,q3]
    refine fork_dec (λhlt=>?_) (λhge=>?_)
    ·have k1:k<br.length:=by omega
     simp(disch:=omega)[q0,q1,q3,k1,ints_cell hc k1]
     refine callW_of (c196 br[k] _) ?_
     rintro v h'⟨rfl,rfl⟩
     rw[all_drop k1]at ht
     cases hbr:okBr br[k]
     ·rw[hbr]at ht
      simp[okP,hb,hn,<-ht]
     ·rw[hbr]at ht
      simp(disch:=omega)[q0,q1,q3,wrap64]
      exact⟨k+1,⟨by omega,by simpa using ht,by omega⟩,by omega⟩
    ·have:k=br.length:=by omega
     subst this
     simp at ht
     simp[okP,hb,hn]
     exact ht
  ·simp[okP,hb,hn]
def at0(br:List Int)(i:Nat):Int:=br.getD i 0
theorem at0_of{br:List Int}{i:Nat}(h:i<br.length):at0 br i=br[i]:=by simp[at0,h]
end Am

/- Contracts of functions. -/
import Derived.Test.YtpgioncclmancaaGreatPTab
set_option linter.unusedVariables false
set_option linter.unusedSimpArgs false
set_option maxHeartbeats 4000000
set_option maxRecDepth 40000
namespace Am
open Go
variable{h0 h h':a9}{b i z m lo tu iY ix f g:Nat}{cs new xs:List Value}{l:List UInt8}{css:List (List Value)}{nq:List (List Nat)}{zero:Array Value}{X br:List Int}{W H:Int}{bs:List Nat}
theorem ae.push(g:ae h0 h)(k:mm):ae h0 (h++[k]):=g.trans ⟨[k],rfl⟩
theorem ae.put(g:ae h0 h)(a:h0.length<=b)(k:mm):ae h0 (h.set b k):=by obtain⟨l,rfl⟩:=g;exact⟨l.set (b-h0.length) k,by rw[m9 _ _ a]⟩
theorem ae.le(g:ae h0 h):h0.length<=h.length:=by obtain⟨l,rfl⟩:=g;simp
theorem ae.at(g:ae h0 h){k:mm}(a:h0[b]?=some k):h[b]?=some k:=by
 obtain⟨l,rfl⟩:=g
 grind
theorem xq{k x:mm}(a:h[b]?=some k):(h++[x])[b]?=some k:=ae.at ⟨[x],rfl⟩ a
theorem bZ{k:mm}(a:h[b]?=some k):b<h.length:=(au.1 a).1
theorem Pm{c:Nat}{k x:mm}(d:h[c]?=some k)(a:c≠b):(h.set b x)[c]?=some k:=by
 grind
theorem fB{o n:Nat}{k:mm}(a:h[b]?=some k)(hn:o+n<=k.cells.length):aZ h b o n=some ((k.cells.drop o).take n):=by simp[aZ,a,hn]
theorem cI{n:Nat}{rw:Bool}(a:h[b]?=some ⟨cs,rw⟩)(hn:n=cs.length):aZ h b 0 n=some cs:=by subst hn;rw[fB a (by simp)];simp
theorem i9{k:mm}{v:Value}(a:h[b]?=some k)(c:k.cells[i]?=some v):cell h b i=some v:=by simp[cell,a,c]
def bP(h0 h:a9)(v:Value)(z:Nat)(cs:List Value):Prop:=(cs=[]∧v=sl 0 0 0 z)∨∃b n,v=sl b 0 n z∧n*z=cs.length∧h0.length<=b∧h[b]?=some ⟨cs,true⟩
theorem bP.nil:bP h0 h (sl 0 0 0 z) z []:=.inl ⟨rfl,rfl⟩
theorem bP.grow{v:Value}(x:bP h0 h v z cs)(g:ae h h'):bP h0 h' v z cs:=by
 rcases x with x|⟨b,n,h1,a,c,d⟩
 ·exact .inl x
 ·exact .inr ⟨b,n,h1,a,c,g.at d⟩
theorem pH{v x:Value}{k:Value->a9->Prop}(hp:0<h0.length)(g:ae h0 h)(s:bP h0 h v z cs)(hn:cR z h x=some new)(t:0<z)(j:new≠[])(hm:new.length/z*z=new.length)
  (p:cs.length+new.length<=maxSize) (l:∀m h',ae h0 h'->bP h0 h' m z (cs++new)->(∀c a,h[c]?=some a->(∀n,v≠sl c 0 n z)->h'[c]?=some a)->k m h'):gE (cu z h x v) k:=by
 rcases s with⟨rfl,rfl⟩|⟨b,n,rfl,d,q,f⟩
 ·have e:cu z h x (sl 0 0 0 z)=some (sl h.length 0 (new.length/z) z,h++[⟨new,true⟩]):=by simp only[cu,hn];rw[if_neg (by omega),if_neg j,if_neg (by simp at p;omega),if_pos trivial]
  rw[e];refine l _ _ (g.push _) (.inr ⟨h.length,_,rfl,hm,g.le,by simp⟩) λc a i _=>xq i
 ·have r:n<=cs.length:=by rw[<-d];exact fL n t
  have e:cu z h x (sl b 0 n z)=some (sl h.length 0 (n+new.length/z) z,h.set b ⟨[],false⟩++[⟨cs++new,true⟩]):=by simp only[cu,hn];rw[if_neg (by omega),if_neg j,if_neg (by omega),if_neg (by omega)];simp only[f];rw[if_pos ⟨trivial,trivial⟩,cI f d]
  rw[e];have u:=bZ f;refine l _ _ ((g.put q _).push _) (.inr ⟨h.length,_,rfl,by rw[cX,hm,d];simp,g.le,by simp⟩) λc a i o=>?_;exact xq (Pm i λe=>o n (by rw[e]))
theorem fQ{o n:Nat}(a:aZ h b o n=some cs)(hi:i<n):cell h b (o+i)=cs[i]?∧cs.length=n:=by
 unfold aZ at a;unfold cell
 grind
theorem AX{o n:Nat}(a:aZ h b o n=some cs)(hi:i+m<=n):aZ h b (o+i) m=some ((cs.drop i).take m):=by
 unfold aZ at a ⊢;split at a
 ·rename_i k c;split at a
  ·rename_i hl;injection a with a;subst a;rw[if_pos (by omega),afR,km,List.take_take]
   congr 2
   omega
  ·simp at a
 ·simp at a
theorem ae.aZ(g:ae h h'){o n:Nat}(a:Am.aZ h b o n=some cs):Am.aZ h' b o n=some cs:=by
 unfold Am.aZ at a ⊢;split at a
 ·rename_i k c;rw[g.at c];exact a
 ·simp at a
def Reads(h:a9)(v:Value)(z:Nat)(cs:List Value):Prop:=∃b o n,v=sl b o n z∧n*z=cs.length∧(n=0∨aZ h b o (n*z)=some cs)
theorem bP.reads{v:Value}(x:bP h0 h v z cs):Reads h v z cs:=by
 rcases x with⟨rfl,rfl⟩|⟨b,n,rfl,a,d,c⟩
 ·exact⟨0,0,0,rfl,by simp,.inl rfl⟩
 ·exact⟨b,0,n,rfl,a,.inr (cI c a)⟩
def Own(h:a9)(b o n:Nat):Prop:=n=0∨∃k,h[b]?=some k∧k.rw=true∧o+n<=k.cells.length
def cD(l:List UInt8):List Value:=l.map λb=>U b.toNat
theorem Er(l:List UInt8):xU (cD l)=some l:=by
 induction l with
 |nil=>rfl
 |cons c l ih=>simp only[cD,bX,xU]at ih ⊢;rw[ih];simp
theorem Ng{v:Value}(e:bP h0 h v 1 (cD l)):kr 21 v h=some (S l,h):=by
 rcases e with⟨h1,rfl⟩|⟨b,n,rfl,a,f,c⟩
 ·have:l=[]:=by simpa [cD]using h1
  subst this;simp[kr]
 ·simp only[kr];by_cases hn:n=0
  ·subst hn;have:l=[]:=by simp[cD]at a;simpa using a.symm
   subst this;simp
  ·have d:=cI (n:=n) c (by simpa using a);simp[hn,d,Er]
def gZ(a lo hi:Int):Bool:=decide (lo<=a)&&decide (a<=hi)
theorem fM{a lo hi:Int}:gZ a lo hi=true↔lo<=a∧a<=hi:=by simp[gZ]
theorem B8(a lo hi:Int)(h:a9):aN aE 164 [I a,I lo,I hi] h λv h'=>v=B (gZ a lo hi)∧h'=h:=by
 refine akV ?_;refine aG (λh1=>?_) (λh1=>?_)
 ·simp[h1,gZ]
 ·simp[h1,gZ]
theorem xW(a lo hi:Int)(h:a9):aN aE 432 [I a,I lo,I hi] h λv h'=>v=B (gZ a lo hi)∧h'=h:=by
 refine akV ?_;refine aG (λh1=>?_) (λh1=>?_)
 ·simp[h1,gZ]
 ·simp[h1,gZ]
theorem ZD(a:Int)(h:a9):aN aE 457 [I a] h λv h'=>v=B (gZ a 1 8)∧h'=h:=by refine akV ?_;refine aQ (xW a 1 8 h) ?_;rintro v h'⟨rfl,rfl⟩;simp
def yr(a b:Int):Bool:=gZ a 1 8&&gZ b 1 8
theorem VN{a b:Int}:yr a b=true↔(1<=a∧a<=8)∧1<=b∧b<=8:=by simp[yr,fM]
theorem aoE(a b:Int)(h:a9):aN aE 198 [I a,I b] h λv h'=>v=B (yr a b)∧h'=h:=by
 refine akV ?_;refine aQ (B8 a 1 8 h) ?_;rintro v h'⟨rfl,rfl⟩;cases c:gZ a 1 8
 ·simp[yr,c]
 ·simp;refine aQ (B8 b 1 8 h') ?_;rintro v h'⟨rfl,rfl⟩;simp[yr,c]
def inner(a b:Int):Int:=a*(b-1)+b*(a-1)
theorem Cj{a b:Int}(f:1<=a∧a<=8)(g:1<=b∧b<=8):0<=inner a b∧inner a b<=112∧0<=a*(b-1)∧a*(b-1)<=56∧0<=b*(a-1)∧b*(a-1)<=56:=by unfold inner;have h1:0<=a*(b-1):=gq (by omega) (by omega);have c:0<=b*(a-1):=gq (by omega) (by omega);have d:a*(b-1)<=8*7:=iB (by omega) (by omega) (by omega) (by omega);have e:b*(a-1)<=8*7:=iB (by omega) (by omega) (by omega) (by omega);omega
theorem aoz(a b:Int)(c:1<=a∧a<=8)(d:1<=b∧b<=8)(h:a9):aN aE 166 [I a,I b] h λv h'=>v=I (inner a b)∧h'=h:=by refine afq ?_;have:=Cj c d;simp(disch:=omega)[wrap64];simp[inner]
theorem aoN(a b:Int)(c:1<=a∧a<=8)(d:1<=b∧b<=8)(h:a9):aN aE 448 [I a,I b] h λv h'=>v=I (inner a b)∧h'=h:=by refine afq ?_;have:=Cj c d;simp(disch:=omega)[wrap64];simp[inner]
def zg:Nat->Nat->List UInt8->List UInt8
 |0,_,acc=>acc
 |f+1,r,acc=>if r=0 then acc else zg f (r/10) (UInt8.ofNat (48+r%10)::acc)
def yn(m:Nat):List UInt8:=if m=0 then[109,48]else 109::zg m m []
theorem aoG(m:Nat)(hm:m<=1099511627776)(h:a9):aN aE 289 [I m] h λv h'=>v=S (yn m)∧ae h h':=by
 refine akV ?_;refine aG (λh0=>?_) (λh0=>?_)
 ·have:m=0:=by omega
  subst this;simp[yn,ae.refl]
 ·simp(disch:=omega);refine aU (λ(p:Nat×Nat) σ h'=>ae h h'∧p.1<=p.2∧∃acc:List UInt8,acc.length+p.1<=m∧zg p.2 p.1 acc=zg m m []∧σ 0=I p.1∧σ 3=S acc) (λp=>p.1) (m,m) ?_ ?_
  ·simp[ae.refl]
  ·rintro⟨r,f⟩ σ h'⟨i,c,acc,e,g,b,d⟩;simp(disch:=omega)[b];refine aG (λt=>?_) (λu=>?_)
   ·have j:0<r:=by omega
    obtain⟨f,rfl⟩:∃f',f=f'+1:=⟨f-1,by omega⟩;simp(disch:=omega)[b,d];have l:IntKind.u8.wrap (IntKind.i64.wrap (48+Int.tmod (r:Int) 10))=((48+r%10:Nat):Int):=by rw[tI (by omega),wrap64 (by omega) (by omega),Ln (by omega) (by omega)];omega
    rw[l];obtain⟨x,hx⟩:=aC (48+r%10);rw[<-hx];have n:aW 1 1 h' [(0,Value.agg #[U 0]),(1,U (x:Int))]=some (sl h'.length 0 1 1,h'++[⟨[U (x:Int)],true⟩]):=by simp[aW]
    rw[n];simp only[bI];have o:kr 21 (sl h'.length 0 1 1) (h'++[⟨[U (x:Int)],true⟩])=some (S [UInt8.ofNat (x)],h'++[⟨[U (x:Int)],true⟩]):=by simp[kr,aZ,xU]
    rw[o];simp only[bI];have s:acc.length+r<=m:=e;have a:zg f (r/10) (UInt8.ofNat (x)::acc)=zg m m []:=by have:zg (f+1) r acc=zg m m []:=g;rw[zg,if_neg (by omega),<-hx]at this;exact this
    have k:r<=f+1:=c;simp(disch:=omega);rw[if_pos (by omega)];simp only[SC,bI];refine⟨r/10,⟨i.push _,f,by omega,UInt8.ofNat (x)::acc,by simp;omega,a,?_,rfl⟩,by omega⟩;rw[wrap64 (by omega) (by omega)];omega
   ·have j:r=0:=by omega
    subst j;have s:acc.length+0<=m:=e;have a:zg f 0 acc=zg m m []:=g;have q:∀f,zg f 0 acc=acc:=λf=>by cases f<;>simp[zg]
    rw[q]at a;simp(disch:=omega)[b,d];rw[if_pos (by omega)];simp only[SC,bI];exact⟨by rw[yn,if_neg h0,a],i⟩
def texts(l:List (List UInt8)):List Value:=l.map S
theorem BL{o n k:Nat}{l:List (List UInt8)}(a:n=0∨aZ h b o (n*1)=some (texts l))(hn:n*1=(texts l).length)(c:k<l.length):cell h b (o+k)=some (S l[k]):=by
 have hl:n=l.length:=by simpa [texts]using hn
 rcases a with h0|a
 ·omega
 ·rw[(fQ (i:=k) a (by omega)).1];simp[texts,c]
def marks(m n:Nat):List (List UInt8):=(List.range n).map λi=>yn (m+i)
theorem adK(m n:Nat):marks m (n+1)=marks m n++[yn (m+n)]:=by simp[marks,dN]
theorem KI(a b:List (List UInt8)):texts (a++b)=texts a++texts b:=by simp[texts]
def nT:List (List UInt8):=[[97,108,111,110,103],[98,114,97,99,107,101,116],[99,111,100,101],[99,111,108,117,109,110],[99,111,117,110,116],[108,101,110,103,116,104,115],[108,105,110,107],[110,101,119],[112,97,115,115,101,115],[112,105,99,116,117,114,101],[114,101,97,100],[114,101,100,111],[115,101,97,114,99,104],[115,101,116],[115,104,111,119],[115,113,117,97,115,104],[117,110,100,111],[119,114,105,116,104,101]]
theorem aDM(h:a9):aN aE 581 [] h λv h'=>v=sl h.length 0 18 1∧h'=h++[⟨texts nT,true⟩]:=by refine afq ?_;simp(disch:=omega)[aW,texts,nT]
def idx:List UInt8->UInt8->Nat->Int
 |[],_,_=>-1
 |x::r,c,i=>if x=c then i else idx r c (i+1)
theorem ajk(s:List UInt8)(c:UInt8)(k:Nat)(a:k<s.length):idx (s.drop k) c k=if s[k]=c then(k:Int)else idx (s.drop (k+1)) c (k+1):=by rw[bt a];rfl
theorem aoD(s:List UInt8)(i:s.length<=1048576)(c:UInt8)(h:a9):aN aE 183 [S s,U c.toNat,I 0] h λv h'=>v=I (idx s c 0)∧h'=h:=by
 refine akV ?_;refine aU (λk σ h'=>h'=h∧k<=s.length∧idx (s.drop k) c k=idx s c 0∧σ 0=S s∧σ 1=U c.toNat∧σ 7=I k) (λk=>s.length-k) 0 ?_ ?_
 ·simp
 ·rintro k σ h'⟨rfl,g,a,h0,h1,b⟩;simp(disch:=omega)[h0,b];refine aG (λd=>?_) (λf=>?_)
  ·rw[ajk s c k d]at a;simp(disch:=omega)[h0,h1,b,d];refine aG (λhe=>?_) (λhe=>?_)
   ·have:s[k]=c:=rA.1 (by omega);rw[if_pos this]at a;simp(disch:=omega)[h0,h1,b,a]
   ·have:¬s[k]=c:=λe=>he (by rw[e]);rw[if_neg this]at a;simp(disch:=omega)[h0,h1,b,wrap64];exact⟨k+1,⟨by omega,a,by omega⟩,by omega⟩
  ·have:k=s.length:=by omega
   subst this;simp[idx]at a;simp(disch:=omega)[h0,h1,b,a]
def ma{α β d:Type}(R:α->β->d->Prop):List α->List β->List d->Prop
 |[],[],[]=>True
 |a::x,b::y,c::z=>R a b c∧ma R x y z
 |_,_,_=>False
theorem ma.mono{α β d:Type}{R S:α->β->d->Prop}:∀{x:List α} {y:List β} {z:List d},(∀a b c,c∈z->R a b c->S a b c)->ma R x y z->ma S x y z
 |[],[],[],_,_=>trivial
 |a::x,b::y,c::z,h,r=>⟨h a b c (by simp) r.1,ma.mono (λa b c e=>h a b c (by simp[e])) r.2⟩
 |[],_::_,_,_,r=>r.elim
 |[],[],_::_,_,r=>r.elim
 |_::_,[],_,_,r=>r.elim
 |_::_,_::_,[],_,r=>r.elim
def Ow(h:a9):(D:iM)->List Value->D.T->List Nat->Prop
 |.int k,cs,(x:Int),bs=>cs=[.int k x]∧(Lit.int k x).wf=true∧bs=[]
 |.str,cs,(x:List UInt8),bs=>cs=[S x]∧x.length<=maxLen∧bs=[]
 |.bool,cs,(x:Bool),bs=>cs=[.bool x]∧bs=[]
 |.pair a b,cs,(x:a.T×b.T),bs=>∃c1 c2 b1 b2,cs=c1++c2∧bs=b1++b2∧Ow h a c1 x.1 b1∧Ow h b c2 x.2 b2
 |.slice a,cs,(x:List a.T),bs=>∃b z css nq,cs=[sl b 0 x.length z]∧(z=a.n∨b=0∧x=[])∧x.length<=maxLen∧ma (λc y s=>Ow h a c y s) css x nq∧(x=[]∧bs=[]∨x≠[]∧bs=b::nq.flatten∧h[b]?=some ⟨css.flatten,true⟩)
theorem Ow.frame{h h':a9}:∀{D:iM} {cs:List Value} {x:D.T} {bs:List Nat},(∀b∈bs,h'[b]?=h[b]?)->Ow h D cs x bs->Ow h' D cs x bs
 |.int _,cs,x,bs,_,r=>r
 |.str,cs,x,bs,_,r=>r
 |.bool,cs,x,bs,_,r=>r
 |.pair a b,cs,x,bs,f,⟨c1,c2,b1,b2,e,j,h1,d⟩=>⟨c1,c2,b1,b2,e,j,Ow.frame (λb i=>f b (by simp[j,i])) h1,Ow.frame (λb i=>f b (by simp[j,i])) d⟩
 |.slice a,cs,x,bs,f,⟨b,z,css,nq,e,l,hm,h1,.inl ⟨d,g⟩⟩=>⟨b,z,css,nq,e,l,hm,by
   have n:x=([]:List a.T):=d;subst n;cases css<;>cases nq<;>first|trivial|exact h1.elim,.inl ⟨d,g⟩⟩
 |.slice a,cs,x,bs,f,⟨b,z,css,nq,e,l,hm,h1,.inr ⟨d,g,m⟩⟩=>⟨b,z,css,nq,e,l,hm,ma.mono (λc y s k r=>Ow.frame (λb i=>f b (by rw[g];simp;exact .inr ⟨s,k,i⟩)) r) h1,.inr ⟨d,g,by rw[f b (by simp[g])];exact m⟩⟩
theorem Ow.len:∀{D:iM} {cs:List Value} {x:D.T} {bs:List Nat},Ow h D cs x bs->cs.length=D.n
 |.int _,cs,x,bs,⟨e,_⟩=>by rw[e];rfl
 |.str,cs,x,bs,⟨e,_⟩=>by rw[e];rfl
 |.bool,cs,x,bs,⟨e,_⟩=>by rw[e];rfl
 |.pair a b,cs,x,bs,⟨c1,c2,b1,b2,e,_,h1,c⟩=>by rw[e,af,h1.len,c.len];rfl
 |.slice a,cs,x,bs,⟨b,z,css,nq,e,_⟩=>by rw[e];rfl
theorem ma.two{h:a9}{a:iM}{R:List Value->a.T->Prop}:∀{css:List (List Value)} {x:List a.T} {nq:List (List Nat)},ma (λc y s=>Ow h a c y s) css x nq->(∀c y s,Ow h a c y s->R c y)->cM R css x
 |[],[],[],_,_=>trivial
 |c::css,y::x,s::nq,r,f=>⟨f c y s r.1,ma.two r.2 f⟩
 |[],_::_,_,r,_=>r.elim
 |[],[],_::_,r,_=>r.elim
 |_::_,[],_,r,_=>r.elim
 |_::_,_::_,[],r,_=>r.elim
theorem Ow.rd{h:a9}:∀{D:iM} {cs:List Value} {x:D.T} {bs:List Nat},Ow h D cs x bs->Rd h D cs x
 |.int _,cs,x,bs,⟨e,w,_⟩=>⟨e,w⟩
 |.str,cs,x,bs,⟨e,w,_⟩=>⟨e,w⟩
 |.bool,cs,x,bs,⟨e,_⟩=>e
 |.pair a b,cs,x,bs,⟨c1,c2,b1,b2,e,_,h1,d⟩=>⟨c1,c2,e,h1.rd,d.rd⟩
 |.slice a,cs,x,bs,⟨b,z,css,nq,e,i,hm,h1,d⟩=>by
  have f:cM (λc y=>Rd h a c y) css x:=ma.two h1 λc y s r=>Ow.rd r;refine⟨b,0,z,css,e,i,hm,f,?_⟩;rcases d with⟨d,_⟩|⟨_,_,g⟩
  ·exact .inl d
  ·exact .inr (cI g (cM.CP f).symm)
theorem Ow.lt{h:a9}:∀{D:iM} {cs:List Value} {x:D.T} {bs:List Nat},Ow h D cs x bs->∀b∈bs,b<h.length
 |.int _,cs,x,bs,⟨_,_,e⟩=>by rw[e];simp
 |.str,cs,x,bs,⟨_,_,e⟩=>by rw[e];simp
 |.bool,cs,x,bs,⟨_,e⟩=>by rw[e];simp
 |.pair a b,cs,x,bs,⟨c1,c2,b1,b2,_,e,h1,f⟩=>by
  intro b d;rw[e]at d;rcases cS.1 d with d|d
  ·exact h1.lt b d
  ·exact f.lt b d
 |.slice a,cs,x,bs,⟨b,z,css,nq,e,k,hm,h1,.inl ⟨_,f⟩⟩=>by rw[f];simp
 |.slice a,cs,x,bs,⟨b,z,css,nq,e,k,hm,h1,.inr ⟨_,f,i⟩⟩=>by
  intro b' d;rw[f]at d;rcases bR.1 d with rfl|d
  ·exact bZ i
  ·obtain⟨s,j,d⟩:=nB.1 d;exact aux h1 s j b' d
where
 aux {h:a9} {a:iM}:∀{css:List (List Value)} {x:List a.T} {nq:List (List Nat)},ma (λc y s=>Ow h a c y s) css x nq->∀s∈nq,∀b∈s,b<h.length
 |[],[],[],_=>by simp
 |c::css,y::x,s::nq,r=>by
  intro l g b d
  rcases bR.1 g with rfl|g
  ·exact Ow.lt r.1 b d
  ·exact aux r.2 l g b d
 |[],_::_,_,r=>r.elim
 |[],[],_::_,r=>r.elim
 |_::_,[],_,r=>r.elim
 |_::_,_::_,[],r=>r.elim
def Vr(h:a9)(D:iM)(v:Value)(X:D.T):Prop:=∃cs,Rd h D cs X∧v=NG D cs
def Vo(h:a9)(lo hi:Nat)(D:iM)(v:Value)(X:D.T):Prop:=∃cs bs,Ow h D cs X bs∧v=NG D cs∧bs.Nodup∧∀b∈bs,lo<=b∧b<hi
def Mod(lo hi:Nat)(h h':a9):Prop:=h.length<=h'.length∧∀b,b<h.length->b<lo∨hi<=b->h'[b]?=h[b]?
theorem EC(hl:h.length<=h'.length)(a:∀b,b<h.length->h'[b]?=h[b]?):ae h h':=by
 refine⟨h'.drop h.length,?_⟩;apply afb
 grind
theorem ae.look(g:ae h h')(a:b<h.length):h'[b]?=h[b]?:=by obtain⟨l,rfl⟩:=g;exact ai a
theorem ae.mod(g:ae h h'){hi:Nat}:Mod lo hi h h':=⟨g.le,λb a _=>g.look a⟩
theorem Mod.trans{hi:Nat}{a b c:a9}(x:Mod lo hi a b)(y:Mod lo hi b c):Mod lo hi a c:=
 ⟨a7 x.1 y.1,λk d hn=>by rw[y.2 k (bQ d x.1) hn,x.2 k d hn]⟩
theorem Mod.wide{hi:Nat}{a b:a9}(x:Mod lo hi a b)(h1:tu<=lo)(d:hi<=iY):Mod tu iY a b:=⟨x.1,λk c hn=>x.2 k c (by omega)⟩
theorem Mod.kR{hi:Nat}(x:Mod lo hi h h')(g:ae h0 h)(hl:h0.length<=lo):ae h0 h':=
 EC (a7 g.le x.1) λb a=>by rw[x.2 b (bQ a g.le) (.inl (by omega)),g.look a]
theorem Vr.grow{D:iM}{v:Value}{X:D.T}(x:Vr h D v X)(g:ae h h'):Vr h' D v X:=by obtain⟨cs,r,e⟩:=x;exact⟨cs,r.grow g,e⟩
theorem Vo.vr{hi:Nat}{D:iM}{v:Value}{X:D.T}(x:Vo h lo hi D v X):Vr h D v X:=by obtain⟨cs,bs,r,e,_⟩:=x;exact⟨cs,r.rd,e⟩
theorem Vo.mod{hi:Nat}{D:iM}{v:Value}{X:D.T}(x:Vo h lo hi D v X)(m:Mod tu iY h h')(d:hi<=tu∨iY<=lo):Vo h' lo hi D v X:=by obtain⟨cs,bs,r,e,n,a⟩:=x;exact⟨cs,bs,r.frame λb c=>m.2 b (r.lt b c) (by have:=a b c;omega),e,n,a⟩
theorem Vo.grow{hi:Nat}{D:iM}{v:Value}{X:D.T}(x:Vo h lo hi D v X)(g:ae h h'):Vo h' lo hi D v X:=by obtain⟨cs,bs,r,e,n,a⟩:=x;exact⟨cs,bs,r.frame λb c=>g.look (r.lt b c),e,n,a⟩
theorem Vo.wide{hi:Nat}{D:iM}{v:Value}{X:D.T}(x:Vo h lo hi D v X)(h1:tu<=lo)(d:hi<=iY):Vo h tu iY D v X:=by obtain⟨cs,bs,r,e,n,a⟩:=x;exact⟨cs,bs,r,e,n,λb c=>by have:=a b c;omega⟩
def j7:(D:iM)->D.T->Nat
 |.int _,_|.str,_|.bool,_=>1
 |.pair a b,(x:a.T×b.T)=>j7 a x.1+j7 b x.2
 |.slice a,(x:List a.T)=>(x.map λy=>j7 a y).sum
def mkd:(D:iM)->D.T->Nat->D.T
 |.int _,_,k=>(k:Int)
 |.str,_,k=>yn k
 |.bool,x,_=>x
 |.pair a b,(x:a.T×b.T),k=>(mkd a x.1 k,mkd b x.2 (k+j7 a x.1))
 |.slice a,(x:List a.T),k=>mkL (λy k=>mkd a y k) (λy=>j7 a y) x k
where mkL {α:Type} (f:α->Nat->α) (c:α->Nat):List α->Nat->List α
 |[],_=>[]
 |y::l,k=>f y k::mkL f c l (k+c y)
def wR:(D:iM)->D.T->Nat
 |.int _,_|.str,_|.bool,_=>0
 |.pair a b,(x:a.T×b.T)=>wR a x.1+wR b x.2
 |.slice a,(x:List a.T)=>j7 (.slice a) x
def G0:(D:iM)->D.T->Nat->D.T
 |.int _,x,k=>x
 |.str,x,k=>x
 |.bool,x,_=>x
 |.pair a b,(x:a.T×b.T),k=>(G0 a x.1 k,G0 b x.2 (k+wR a x.1))
 |.slice a,(x:List a.T),k=>mkd (.slice a) x k
abbrev CU:iM:=.int .i64
abbrev cZ:iM:=.slice CU
abbrev Dk:iM:=.pair CU (.pair CU CU)
abbrev gC:iM:=.slice Dk
abbrev lD:iM:=.slice .str
abbrev bU:iM:=.pair CU (.pair CU cZ)
abbrev ba:iM:=.pair bU (.pair gC gC)
theorem cM.mem{α β:Type}{R:α->β->Prop}:∀{x:List α} {y:List β},cM R x y->∀a∈x,∃b∈y,R a b
 |[],[],_,a,c=>by simp at c
 |p::x,q::y,h,a,c=>by
  rcases bR.1 c with rfl|c
  ·exact⟨q,by simp,h.1⟩
  ·obtain⟨b,d,r⟩:=cM.mem h.2 a c;exact⟨b,by simp[d],r⟩
theorem Jp{α:Type}{z:Nat}:∀{css:List (List α)} (_:∀c∈css,c.length=z) {i:Nat} {c:List α},css[i]?=some c->(css.flatten.drop (i*z)).take z=c
 |[],_,i,c,h=>by simp at h
 |d::css,b,0,c,h=>by
  have a:=b d (by simp);simp at h;subst h;simp only[cK,te,kq];rw[<-a,pr];rfl
 |d::css,b,i+1,c,h=>by
  have a:=b d (by simp);simp only[cK];rw[qA,dz (by rw[a,cX];omega),df,a,cX,Nat.one_mul,dV];exact Jp (λc e=>b c (by simp[e])) (by simpa using h)
theorem Vr.slice{a:iM}{v:Value}{X:List a.T}(x:Vr h (.slice a) v X):∃b o z,v=sl b o X.length z∧(z=a.n∨b=0∧X=[])∧X.length<=maxLen∧∀i (hi:i<X.length),∃c,aZ h b (o+i*a.n) a.n=some c∧Rd h a c X[i]:=by
 obtain⟨cs,⟨b,o,z,css,rfl,g,hm,h1,d⟩,rfl⟩:=x;refine⟨b,o,z,rfl,g,hm,λi hi=>?_⟩;have j:X≠[]:=by intro e;subst e;simp at hi
 have d:=d.resolve_left j;have k:∀c∈css,c.length=a.n:=λc f=>by obtain⟨y,_,r⟩:=cM.mem h1 c f;exact r.len
 obtain⟨c,f,r⟩:=h1.get' i X[i] (by simp[hi]);refine⟨c,?_,r⟩;have:=AX (i:=i*a.n) (m:=a.n) d (by rw[<-pF];exact bM _ hi);rw[Jp k f]at this;exact this
def hI:(D:iM)->D.T->Nat
 |.int _,_|.bool,_=>0
 |.str,(x:List UInt8)=>x.length
 |.pair a b,(x:a.T×b.T)=>hI a x.1+hI b x.2
 |.slice a,(x:List a.T)=>x.length+(x.map λy=>hI a y).sum
theorem Y5{a:iM}:∀{X:List a.T} {y:a.T},y∈X->hI a y<=(X.map λy=>hI a y).sum
 |x::X,y,h=>by
  rcases bR.1 h with rfl|h
  ·simp
  ·have:=Y5 h;simp;omega
def Zh(f:Nat)(D:iM):Prop:=∀h v X,0<h.length->Vr h D v X->hI D X<=1048576->aN aE f [v] h λa h'=>ae h h'∧Vo h' h.length h'.length D a X
def IZ(f:Nat)(D:iM):Prop:=∀h v w X,Vr h D v X->Vr h D w X->aN aE f [v,w] h λr h'=>r=.bool true∧h'=h
theorem Dh{z:List Value}:jN (m+1) z=z++jN m z:=by simp[jN,fJ]
theorem ad6{A B:List Value}{n:Nat}(hn:n=A.length):iK (A++B) n xs=A++xs++B.drop xs.length:=by
 subst hn;unfold iK;rw[pr rfl]
 congr 1
 rw[qA];simp[dz]
theorem ma.snoc{α β d:Type}{R:α->β->d->Prop}:∀{x:List α} {y:List β} {z:List d} {a:α} {b:β} {c:d},ma R x y z->R a b c->ma R (x++[a]) (y++[b]) (z++[c])
 |[],[],[],_,_,_,_,r=>⟨r,trivial⟩
 |_::_,_::_,_::_,_,_,_,h,r=>⟨h.1,ma.snoc h.2 r⟩
 |[],_::_,_,_,_,_,h,_=>h.elim
 |[],[],_::_,_,_,_,h,_=>h.elim
 |_::_,[],_,_,_,_,h,_=>h.elim
 |_::_,_::_,[],_,_,_,h,_=>h.elim
theorem ma.Cg{a:iM}{x:List a.T}(r:ma (λc y s=>Ow h a c y s) css x nq):css.flatten.length=x.length*a.n:=
 cM.CP (h:=h) (ma.two r λc y s r=>Ow.rd r)
def awq(z ix:Nat)(zero:Array Value)(f:Nat):mC:=⟨1,
(.seq (zV [op 2 (.move (.const (sl 0 0 0 0)))])
(.seq (zV [op 5 (.move (.tmp 0)) 1,
 op 6 (bi .len #[(.global 5)] 1) 1,
 op 7 (.mapUpdate z (.global 6) (.global 6) (.const (.agg zero))) 1,
 op 3 (.move (.global 7))])
(.seq (.seq (zV [op 4 (.move (.const (I 0)))])
(.block 0
 (.loop
  (.seq (.seq (zV [op 8 (.move (.tmp 4)) 1,
   op 9 (.move (.tmp 0)) 1,
   op 10 (bi .len #[(.global 9)] 1) 1,
   op 11 (.binOp .lss 0 (.global 8) (.global 10) 0)])
  (.cond (.tmp 11)
   .skip
   (.exit 0)))
  (.seq (.block 1
   (zV [op 14 (.move (.tmp 3)) 1,
    op 15 (.move (.tmp 4)) 1,
    op 16 (.move (.tmp 0)) 1,
    op 17 (.move (.tmp 4)) 1,
    op 18 (.indexAddr ix (.global 16) (.global 17)) 1,
    op 19 (.load (z+1) (.global 18)) 1,
    op 20 (call (.func f) #[(.global 19)]) 1,
    op 21 (.indexAddr ix (.global 14) (.global 15)) 1,
    DQ (.store z (.global 21) (.global 20))]))
  (zV [op 12 (.move (.tmp 4)) 1,
   op 13 (.binOp .add 0 (.global 12) (.const (I 1)) 0) 1,
   op 4 (.move (.global 13))]))))))
(.seq (zV [op 22 (.move (.tmp 3)) 1,
 op 2 (.move (.global 22))])
.ret)))),[(2,0)]⟩
def axf(h h':a9)(D:iM)(X:List D.T)(zero:List Value)(k:Nat):Prop:=∃css nq,ma (λc y s=>Ow h' D c y s) css (X.take k) nq∧nq.flatten.Nodup∧(∀b∈nq.flatten,h.length<b)∧
   h'[h.length]?=some ⟨css.flatten++jN (X.length-k) zero,true⟩
theorem aKC{a b:iM}(W:aE g=some (awq z ix zero f))(A:(iM.pair a b).n=z)(C:ix<1000000∧ix/2=z)(hzero:zero.size=z)(he:Zh f (.pair a b)):Zh g (.slice (.pair a b)):=by
 intro h v (X:List (iM.pair a b).T) hp Z hs;obtain⟨S,o,zz,rfl,_,hm,P⟩:=Z.slice;have hlen:(X.length:Nat)<=1048576:=by have:hI (.slice (.pair a b)) X=X.length+(X.map λy=>hI (.pair a b) y).sum:=rfl;omega
 rw[A]at P;have R:0<z:=by rw[<-A];exact iM.pos _
 refine CF W rfl ?_;unfold awq;simp(disch:=omega)[nR,hzero,maxSize,hlen];rw[if_pos (by omega)];simp;refine aU (λk σ h'=>k<=X.length∧ae h h'∧σ 0=sl S o X.length zz∧σ 3=sl h.length 0 X.length z∧σ 4=I k∧axf h h' (.pair a b) X zero.toList k) (λk=>X.length-k) 0 ?_ ?_
 ·refine⟨by omega,⟨_,rfl⟩,by simp,by simp,by simp,[],[],trivial,by simp,by simp,by simp⟩
 ·rintro k σ h'⟨Y,l,h0,J,E,hinv⟩;obtain⟨css,nq,p,w,D,j⟩:=hinv;simp(disch:=omega)[h0,E];refine aG (λm=>?_) (λdG=>?_)
  ·have m:k<X.length:=by omega
   obtain⟨c,V,r⟩:=P k m;have mS:=dZ l V;simp(disch:=omega)[h0,J,E,C.1,C.2,m,mS];have mU:hI (.pair a b) X[k]<=1048576:=by have h1:=Y5 (a:=.pair a b) (aD m);have:hI (.slice (.pair a b)) X=X.length+(X.map λy=>hI (.pair a b) y).sum:=rfl;omega
   refine aQ (he h' _ X[k] (by have:=l.le;omega) ⟨c,r.grow l,rfl⟩ mU) ?_;rintro v' i⟨g2,q,u,ow,rfl,M,B⟩;have G:=ow.len;rw[A]at G;have H:=p.Cg;rw[A,bu,ks Y]at H;have O:i[h.length]?=some ⟨css.flatten++jN (X.length-k) zero.toList,true⟩:=by rw[g2.look (bZ j)];exact j
   have Q:X.length-k=(X.length-(k+1))+1:=by omega
   have U:storeAt i h.length (k*z) q=some (i.set h.length ⟨(css++[q]).flatten++jN (X.length-(k+1)) zero.toList,true⟩):=by
    unfold storeAt;simp only[O];rw[if_pos ⟨trivial,by
     rw[af,H,G,Q,Dh];simp[hzero]⟩,ad6 H.symm]
    congr 3
    rw[Q,Dh,qA];simp[G,hzero,dz]
   simp(disch:=omega)[h0,J,E,C.1,C.2,m,NG,G,U,wrap64];have L:h.length<i.length:=bZ O;have N:Ow (i.set h.length ⟨(css++[q]).flatten++jN (X.length-(k+1)) zero.toList,true⟩) (.pair a b) q X[k] u:=ow.frame λb d=>by
    have:=(B b d).1;have:=l.le;have:=bZ j;rw[ag (by omega)]
   have K:ma (λc y s=>Ow (i.set h.length ⟨(css++[q]).flatten++jN (X.length-(k+1)) zero.toList,true⟩) (.pair a b) c y s) css (X.take k) nq:=p.mono λc y s t r=>r.frame λb d=>by
    have h1:=D b (nB.2 ⟨s,t,d⟩);rw[ag (by omega),g2.look (r.lt b d)]
   refine⟨k+1,⟨by omega,(l.trans g2).put (aa _) _,by omega,css++[q],nq++[u],?_,?_,?_,?_⟩,by omega⟩
   ·rw[aj m];have:=ma.snoc K N;simpa using this
   ·rw[j9,kS];refine⟨w,by simpa using M,λx hx y hy e=>?_⟩;subst e;have h1:=(B x (by simpa using hy)).1;obtain⟨s,t,d⟩:=nB.1 hx;have:x<h'.length:=by have i:=p;exact Ow.lt.aux i s t x d
    omega
   ·intro b d;rw[j9,cS]at d;rcases d with d|d
    ·exact D b d
    ·have:=(B b (by simpa using d)).1;have:=bZ j;omega
   ·simp[L]
  ·have e:k=X.length:=by omega
   subst e;rw[aK]at p;simp(disch:=omega)[h0,J,E];simp[jN]at j;refine⟨l,[sl h.length 0 X.length z],if X=[]then[]else h.length::nq.flatten,⟨h.length,z,css,nq,rfl,.inl A.symm,hm,p,?_⟩,rfl,?_,?_⟩
   ·by_cases F:X=[]
    ·exact .inl ⟨F,by simp[F]⟩
    ·exact .inr ⟨F,by simp[F],j⟩
   ·split
    ·simp
    ·refine afM.2 ⟨λhm=>?_,w⟩;have:=D _ hm;omega
   ·intro b d;split at d
    ·simp at d
    ·rcases bR.1 d with rfl|d
     ·exact⟨aa _,bZ j⟩
     ·obtain⟨s,t,B⟩:=nB.1 d;exact⟨by have:=D b d;omega,Ow.lt.aux p s t b B⟩
def ap1(z ix:Nat)(f:Nat):mC:=⟨2,
(.seq (zV [op 4 (.move (.const (B false)))])
(.seq (.seq (zV [op 6 (.move (.tmp 0)) 1,
 op 7 (bi .len #[(.global 6)] 1) 1,
 op 8 (.move (.tmp 1)) 1,
 op 9 (bi .len #[(.global 8)] 1) 1,
 op 10 (.binOp .neq 0 (.global 7) (.global 9) 0)])
(.cond (.tmp 10)
 (.seq (zV [op 4 (.move (.const (B false)))])
 .ret)
 .skip))
(.seq (.seq (zV [op 5 (.move (.const (I 0)))])
(.block 0
 (.loop
  (.seq (.seq (zV [op 11 (.move (.tmp 5)) 1,
   op 12 (.move (.tmp 0)) 1,
   op 13 (bi .len #[(.global 12)] 1) 1,
   op 14 (.binOp .lss 0 (.global 11) (.global 13) 0)])
  (.cond (.tmp 14)
   .skip
   (.exit 0)))
  (.seq (.block 1
   (.seq (zV [op 17 (.move (.tmp 0)) 1,
    op 18 (.move (.tmp 5)) 1,
    op 19 (.indexAddr ix (.global 17) (.global 18)) 1,
    op 20 (.load (z+1) (.global 19)) 1,
    op 21 (.move (.tmp 1)) 1,
    op 22 (.move (.tmp 5)) 1,
    op 23 (.indexAddr ix (.global 21) (.global 22)) 1,
    op 24 (.load (z+1) (.global 23)) 1,
    op 25 (call (.func f) #[(.global 20),(.global 24)]) 1,
    op 26 (.unOp .not 0 (.global 25))])
   (.cond (.tmp 26)
    (.seq (zV [op 4 (.move (.const (B false)))])
    .ret)
    .skip)))
  (zV [op 15 (.move (.tmp 5)) 1,
   op 16 (.binOp .add 0 (.global 15) (.const (I 1)) 0) 1,
   op 5 (.move (.global 16))]))))))
(.seq (zV [op 4 (.move (.const (B true)))])
.ret)))),[(4,0)]⟩
theorem cH:maxLen=9223372036854775807:=by decide
theorem aHC{a b:iM}(t:aE g=some (ap1 z ix f))(x:(iM.pair a b).n=z)(m:ix<1000000∧ix/2=z)(he:IZ f (.pair a b)):IZ g (.slice (.pair a b)):=by
 intro h v w (X:List (iM.pair a b).T) u hw;obtain⟨q,o,B,rfl,_,hm,p⟩:=u.slice;obtain⟨j,o2,l,rfl,_,_,d⟩:=hw.slice;rw[x]at p d;rw[cH]at hm;refine CF t rfl ?_;unfold ap1;simp(disch:=omega);refine aU (λk σ h'=>h'=h∧k<=X.length∧σ 0=sl q o X.length B∧σ 1=sl j o2 X.length l∧σ 5=I k) (λk=>X.length-k) 0 ?_ ?_
 ·simp
 ·rintro k σ h'⟨rfl,E,h0,h1,i⟩;simp(disch:=omega)[h0,i];refine aG (λe=>?_) (λC=>?_)
  ·have e:k<X.length:=by omega
   obtain⟨c,s,r⟩:=p k e;obtain⟨c2,y,A⟩:=d k e;simp(disch:=omega)[h0,h1,i,m.1,m.2,e,s,y];refine aQ (he h' _ _ X[k] ⟨c,r,rfl⟩ ⟨c2,A,rfl⟩) ?_;rintro F D⟨rfl,rfl⟩;simp(disch:=omega)[h0,h1,i,wrap64];exact⟨k+1,⟨by omega,by omega⟩,by omega⟩
  ·simp(disch:=omega)[h0,h1,i]
def ints(l:List Int):List Value:=l.map I
def bK(n:Int):Prop:=-9223372036854775808<=n∧n<9223372036854775808
theorem wf_i64{n:Int}:(Lit.int .i64 n).wf=true↔bK n:=by simp[Lit.wf,IntKind.min,IntKind.max,IntKind.signed,IntKind.bits,bK];omega
theorem YQ{h:a9}:∀{css:List (List Value)} {X:List Int},cM (λc y=>Rd h CU c y) css X->css.flatten=ints X∧∀x∈X,bK x
 |[],[],_=>by simp[ints]
 |c::css,x::X,r=>by
  obtain⟨e,w⟩:=r.1;obtain⟨h1,a⟩:=YQ r.2;refine⟨by simp[e,h1,ints],λy hy=>?_⟩;rcases bR.1 hy with rfl|hy
  ·exact wf_i64.1 w
  ·exact a y hy
theorem Vr.ints{v:Value}(x:Vr h cZ v X):∃b o z,v=sl b o X.length z∧(z=1∨b=0∧X=[])∧X.length<=maxLen∧(∀x∈X,bK x)∧(X=[]∨aZ h b o X.length=some (Am.ints X)):=by obtain⟨cs,⟨b,o,z,css,rfl,f,hm,h1,e⟩,rfl⟩:=x;obtain⟨c,d⟩:=YQ h1;have a:X=[]∨aZ h b o (X.length*1)=some css.flatten:=e;rw[c,dn]at a;exact⟨b,o,z,rfl,f,hm,d,a⟩
theorem eG{o k:Nat}(c:X=[]∨aZ h b o X.length=some (ints X))(a:k<X.length):cell h b (o+k)=some (I X[k]):=by
 rcases c with h0|c
 ·subst h0;simp at a
 ·rw[(fQ (i:=k) c a).1];simp[ints,a]
theorem Ty(h:a9):∀(X:List Int),(∀x∈X,bK x)->cM (λc y=>Rd h CU c y) (X.map λx=>[I x]) X
 |[],_=>trivial
 |x::X,hx=>⟨⟨rfl,wf_i64.2 (hx x (by simp))⟩,Ty h X λy hy=>hx y (by simp[hy])⟩
theorem Jo:∀(X:List Int),(X.map λx=>[I x]).flatten=ints X
 |[]=>rfl
 |x::X=>by simp[ints,cK];have:=Jo X;simp[ints]at this;exact this
theorem Vr.fY{o:Nat}(c:z=1∨b=0∧X=[])(hm:X.length<=maxLen)(hx:∀x∈X,bK x)(a:X=[]∨aZ h b o X.length=some (Am.ints X)):Vr h cZ (sl b o X.length z) X:=
 ⟨[sl b o X.length z],⟨b,o,z,X.map λx=>[I x],rfl,c,hm,Ty h X hx,a.imp id λh=>by rw[Jo];show aZ _ _ _ (X.length*1)=_;rw[dn];exact h⟩,rfl⟩
theorem QN(h:a9):∀(X:List Int),(∀x∈X,bK x)->ma (λc y s=>Ow h CU c y s) (X.map λx=>[I x]) X (X.map λ_=>[])
 |[],_=>trivial
 |x::X,hx=>⟨⟨rfl,wf_i64.2 (hx x (by simp)),rfl⟩,QN h X λy hy=>hx y (by simp[hy])⟩
theorem FR{α β:Type}:∀(X:List α),(X.map λ_=>([]:List β)).flatten=[]
 |[]=>rfl
 |x::X=>by simp[FR X]
theorem Vo.fY{hi:Nat}(d:z=1∨b=0∧X=[])(hm:X.length<=maxLen)(hx:∀x∈X,bK x)(c:X=[]∨h[b]?=some ⟨Am.ints X,true⟩∧lo<=b∧b<hi):Vo h lo hi cZ (sl b 0 X.length z) X:=by
 refine⟨[sl b 0 X.length z],if X=[]then[]else[b],⟨b,z,X.map λx=>[I x],X.map λ_=>[],rfl,d,hm,QN h X hx,?_⟩,rfl,?_,?_⟩
 ·by_cases h0:X=[]
  ·exact .inl ⟨h0,by simp[h0]⟩
  ·exact .inr ⟨h0,by rw[if_neg h0,FR],by rw[Jo];exact(c.resolve_left h0).1⟩
 ·split<;>simp
 ·intro b' a;by_cases h0:X=[]
  ·simp[h0]at a
  ·simp[h0]at a;subst a;exact(c.resolve_left h0).2
theorem ma.ints{h:a9}:∀{css:List (List Value)} {X:List Int} {nq:List (List Nat)},ma (λc y s=>Ow h CU c y s) css X nq->css.flatten=ints X∧(∀x∈X,bK x)∧nq.flatten=[]
 |[],[],[],_=>by simp[Am.ints]
 |c::css,x::X,s::nq,r=>by
  obtain⟨e,w,es⟩:=r.1;obtain⟨h1,a,b⟩:=ma.ints r.2;refine⟨by simp[e,h1,Am.ints],λy hy=>?_,by simp[es,b]⟩;rcases bR.1 hy with rfl|hy
  ·exact wf_i64.1 w
  ·exact a y hy
 |[],_::_,_,r=>r.elim
 |[],[],_::_,r=>r.elim
 |_::_,[],_,r=>r.elim
 |_::_,_::_,[],r=>r.elim
theorem Vo.ints{hi:Nat}{v:Value}(x:Vo h lo hi cZ v X):∃b z,v=sl b 0 X.length z∧(z=1∨b=0∧X=[])∧X.length<=maxLen∧(∀x∈X,bK x)∧(X=[]∨h[b]?=some ⟨Am.ints X,true⟩∧lo<=b∧b<hi):=by
 obtain⟨cs,bs,⟨b,z,css,nq,rfl,j,hm,h1,a⟩,rfl,_,i⟩:=x;obtain⟨e,f,g⟩:=ma.ints h1;refine⟨b,z,rfl,j,hm,f,?_⟩;rcases a with⟨a,_⟩|⟨_,c,d⟩
 ·exact .inl a
 ·rw[g]at c;rw[e]at d;exact .inr ⟨d,i b (by simp[c])⟩
def aoe(f:Nat)(D:iM):Prop:=∀h v X (left:Nat),Vr h D v X->left<=1048576->aN aE f [v,I left] h λr h'=>(r=if hI D X<=left then I ((left-hI D X:Nat):Int)else I (-1))∧h'=h
def Tr(f:Nat)(D:iM):Prop:=∀h lo hi v X (k:Nat),Vo h lo hi D v X->k+wR D X<=1099511627776->aN aE f [v,I k] h λr h'=>r=I ((k+wR D X:Nat):Int)∧Mod lo hi h h'∧Vo h' lo hi D v (G0 D X k)
def To(f:Nat)(D:iM):Prop:=∀h v X (k:Nat),Vr h D v (G0 D X k)->k+wR D X<=1099511627776->aN aE f [v,I k] h λr h'=>r=I ((k+wR D X:Nat):Int)∧ae h h'
theorem Lk{α:Type}:∀(X:List α),(X.map λ_=>1).sum=X.length
 |[]=>rfl
 |x::X=>by simp[Lk X];omega
theorem Nf{α:Type}:∀(X:List α),(X.map λ_=>0).sum=0
 |[]=>rfl
 |x::X=>by simp[Nf X]
theorem CO(a b:List Int):ints (a++b)=ints a++ints b:=by simp[ints]
theorem RE(a:Int)(b:List Int):ints (a::b)=I a::ints b:=rfl
theorem ajl:ints []=[]:=rfl
theorem At(X:List Int):hI cZ X=X.length:=by
 show X.length+(X.map λ_=>0).sum=_
 rw[Nf];rfl
theorem yb(X:List Int):wR cZ X=X.length:=Lk X
def agT(k n:Nat):List Int:=(List.range n).map λi=>((k+i:Nat):Int)
theorem Ie(k n:Nat):(agT k n).length=n:=by simp[agT]
theorem age(k n:Nat):agT k (n+1)=agT k n++[((k+n:Nat):Int)]:=by simp[agT,dN]
theorem Co:∀(X:List Int) (k:Nat),G0 cZ X k=agT k X.length
 |[],k=>rfl
 |x::X,k=>by
  refine(congrArg (List.cons ((k:Nat):Int)) (Co X (k+1))).trans ?_;simp only[agT,az,mc,bX,ta]
  congr 1
  apply fe;intro i _;simp;omega
theorem ajE{k n:Nat}(h:k+n<=1099511627776):∀x∈agT k n,bK x:=by intro x hx;obtain⟨i,hi,rfl⟩:=bj.1 hx;have:=da.1 hi;unfold bK;omega
theorem ld{o:Nat}{v:Value}(c:h[b]?=some ⟨cs,true⟩)(a:o<cs.length):storeAt h b o [v]=some (h.set b ⟨cs.set o v,true⟩):=by
 unfold storeAt;simp only[c];rw[if_pos ⟨trivial,a⟩]
 congr 3
 unfold iK;rw[iI,if_pos a];simp
theorem QC{α:Type}{A B:List α}{x v:α}{n:Nat}(hn:n=A.length):(A++x::B).set n v=A++v::B:=by subst hn;simp
theorem Mod.put{hi:Nat}(m:Mod lo hi h h')(d:lo<=b∧b<hi)(k:mm):Mod lo hi h (h'.set b k):=
 ⟨by simpa using m.1,λc a hn=>by rw[ag (by omega)];exact m.2 c a hn⟩
theorem Mod.refl(lo hi:Nat)(h:a9):Mod lo hi h h:=⟨aa _,λ_ _ _=>rfl⟩
theorem Mod.grow{hi:Nat}{a b c:a9}(m:Mod lo hi a b)(g:ae b c):Mod lo hi a c:=m.trans g.mod
theorem aCy:aoe 290 cZ:=by
 intro h v (X:List Int) left a hl;obtain⟨b,o,e,rfl,c,hm,hx,d⟩:=a.ints;rw[cH]at hm;refine afq ?_;simp(disch:=omega)[wrap64];rw[At];refine aG (λh1=>?_) (λh1=>?_)
 ·rw[if_neg (by omega)];simp
 ·rw[if_pos (by omega)];simp;omega
theorem aCz:Zh 297 cZ:=by
 intro h v (X:List Int) hp r q;obtain⟨l,o,s,rfl,t,hm,hx,p⟩:=r.ints;rw[At]at q;refine afq ?_;simp(disch:=omega)[nR,maxSize];rw[if_pos (by omega)];simp;refine aU (λk σ h'=>k<=X.length∧ae h h'∧σ 0=sl l o X.length s∧σ 3=sl h.length 0 X.length 1∧σ 4=I k∧h'[h.length]?=some ⟨ints (X.take k)++jN (X.length-k) [I 0],true⟩) (λk=>X.length-k) 0 ?_ ?_
 ·exact⟨by omega,⟨_,rfl⟩,by simp,by simp,by simp,by simp[ints]⟩
 ·rintro k σ h'⟨w,c,h0,g,d,a⟩;simp(disch:=omega)[h0,d];refine aG (λb=>?_) (λu=>?_)
  ·have b:k<X.length:=by omega
   have m:=eG (p.imp id (dZ c)) b;have j:X.length-k=(X.length-(k+1))+1:=by omega
   have i:(ints (X.take k)).length=k:=by simp[ints];omega
   have f:=ld (v:=I X[k]) (o:=k) a (by rw[af,i,j,Dh];simp);rw[j,Dh,show[I 0]++jN (X.length-(k+1)) [I 0]=I 0::jN (X.length-(k+1)) [I 0]from rfl,QC i.symm]at f;simp(disch:=omega)[h0,g,d,b,m,f,wrap64];refine⟨k+1,⟨by omega,c.put (aa _) _,by omega,?_⟩,by omega⟩;have n:ints (X.take (k+1))=ints (X.take k)++[I X[k]]:=by rw[aj b,CO];rfl
   rw[n];simp[bZ a]
  ·have e:k=X.length:=by omega
   subst e;rw[aK]at a;simp[jN]at a;simp(disch:=omega)[h0,g,d];exact⟨c,Vo.fY (.inl rfl) hm hx (.inr ⟨a,aa _,bZ a⟩)⟩
theorem aCs:IZ 259 cZ:=by
 intro h v w (X:List Int) g hw;obtain⟨e,o,j,rfl,l,hm,hx,f⟩:=g.ints;obtain⟨b,o2,d,rfl,_,_,_,i⟩:=hw.ints;rw[cH]at hm;refine akV ?_;refine aU (λk σ h'=>h'=h∧k<=X.length∧σ 0=sl e o X.length j∧σ 1=sl b o2 X.length d∧σ 5=I k) (λk=>X.length-k) 0 ?_ ?_
 ·simp
 ·rintro k σ h'⟨rfl,n,h0,h1,c⟩;simp(disch:=omega)[h0,c];refine aG (λa=>?_) (λm=>?_)
  ·have a:k<X.length:=by omega
   simp(disch:=omega)[h0,h1,c,a,eG f a,eG i a,wrap64];exact⟨k+1,⟨by omega,by omega⟩,by omega⟩
  ·simp(disch:=omega)[h0,h1,c]
theorem aCw:Tr 282 cZ:=by
 intro h lo hi v (X:List Int) k s p;obtain⟨f,t,rfl,q,hm,hx,c⟩:=s.ints;rw[yb]at p;rw[yb,Co];refine akV ?_;refine aU (λi σ h'=>i<=X.length∧Mod lo hi h h'∧σ 0=sl f 0 X.length t∧σ 1=I ((k+i:Nat):Int)∧σ 5=I i∧(X=[]∨h'[f]?=some ⟨ints (agT k i++X.drop i),true⟩)) (λi=>X.length-i) 0 ?_ ?_
 ·exact⟨by omega,Mod.refl _ _ _,by simp,by simp,by simp,by
   rcases c with c|c
   ·exact .inl c
   ·exact .inr (by simpa [agT]using c.1)⟩
 ·rintro i σ h'⟨iY,l,h0,h1,j,a⟩;simp(disch:=omega)[h0,j];refine aG (λd=>?_) (λu=>?_)
  ·have d:i<X.length:=by omega
   have m:X≠[]:=by intro e;subst e;simp at d
   have a:=a.resolve_left m;have c:=c.resolve_left m;have r:(ints (agT k i)).length=i:=by simp[ints,agT]
   have g:=ld (v:=I ((k+i:Nat):Int)) (o:=i) a (by simp[ints,agT];omega);rw[bt d,CO,RE,QC r.symm]at g;simp only[rq]at g;simp(disch:=omega)[h0,h1,j,d,g,wrap64];refine⟨i+1,⟨by omega,l.put c.2 _,by omega,by omega,.inr ?_⟩,by omega⟩;rw[age];simp[CO,RE,ajl,bZ a]
  ·have e:i=X.length:=by omega
   subst e;simp(disch:=omega)[h0,h1,j];refine⟨l,?_⟩;have:=Vo.fY (h:=h') (b:=f) (lo:=lo) (hi:=hi) (X:=agT k X.length) (q.imp id λe=>⟨e.1,by rw[e.2];rfl⟩) (by rw[Ie];exact hm) (ajE p) (by
    rcases a with a|a
    ·subst a;exact .inl rfl
    ·by_cases n:X=[]
     ·subst n;exact .inl rfl
     ·exact .inr ⟨by simpa using a,(c.resolve_left n).2⟩)
   rw[Ie]at this;exact this
theorem ajD{k n:Nat}(h:i<(agT k n).length):(agT k n)[i]=((k+i:Nat):Int):=by simp[agT]
theorem aCu:To 275 cZ:=by
 intro h v (X:List Int) k d j;rw[yb]at j ⊢;rw[Co]at d;obtain⟨f,o,l,rfl,m,hm,hx,g⟩:=d.ints;rw[Ie];refine akV ?_;refine aU (λi σ h'=>h'=h∧i<=X.length∧σ 0=sl f o X.length l∧σ 1=I ((k+i:Nat):Int)∧σ 5=I i) (λi=>X.length-i) 0 ?_ ?_
 ·simp
 ·rintro i σ h'⟨rfl,iY,h0,h1,b⟩;simp(disch:=omega)[h0,b];refine aG (λa=>?_) (λn=>?_)
  ·have a:i<X.length:=by omega
   have c:=eG g (by rw[Ie];exact a);rw[ajD]at c;simp(disch:=omega)[h0,h1,b,a,c,wrap64];exact⟨i+1,⟨by omega,by omega,by omega⟩,by omega⟩
  ·have e:i=X.length:=by omega
   subst e;simp(disch:=omega)[h0,h1,b,ae.refl]
theorem Vr.dE{v:Value}(x:Vr h bU v (W,H,br)):∃s,v=.agg #[I W,I H,s]∧bK W∧bK H∧Vr h cZ s br:=by
 obtain⟨cs,⟨c1,c2,rfl,⟨rfl,w1⟩,⟨b,a,rfl,⟨rfl,w2⟩,r⟩⟩,rfl⟩:=x;have hl:=r.len
 match a,hl with
 |[s],_=>exact⟨s,rfl,wf_i64.1 w1,wf_i64.1 w2,[s],r,rfl⟩
theorem Vr.jF{s:Value}(h1:bK W)(a:bK H)(x:Vr h cZ s br):Vr h bU (.agg #[I W,I H,s]) (W,H,br):=by
 obtain⟨cs,r,rfl⟩:=x;have hl:=r.len
 match cs,hl with
 |[s],_=>exact⟨[I W,I H,s],⟨[I W],[I H,s],rfl,⟨rfl,wf_i64.2 h1⟩,[I H],[s],rfl,⟨rfl,wf_i64.2 a⟩,r⟩,rfl⟩
theorem Vo.dE{hi:Nat}{v:Value}(x:Vo h lo hi bU v (W,H,br)):∃s,v=.agg #[I W,I H,s]∧bK W∧bK H∧Vo h lo hi cZ s br:=by
 obtain⟨cs,bs,⟨c1,c2,b1,b2,rfl,rfl,⟨rfl,w1,rfl⟩,⟨d,a,b3,c,rfl,rfl,⟨rfl,w2,rfl⟩,r⟩⟩,rfl,nd,b⟩:=x;have hl:=r.len
 match a,hl with
 |[s],_=>exact⟨s,rfl,wf_i64.1 w1,wf_i64.1 w2,[s],_,r,rfl,by simpa using nd,by simpa using b⟩
theorem Vo.jF{hi:Nat}{s:Value}(h1:bK W)(a:bK H)(x:Vo h lo hi cZ s br):Vo h lo hi bU (.agg #[I W,I H,s]) (W,H,br):=by
 obtain⟨cs,bs,r,rfl,nd,b⟩:=x;have hl:=r.len
 match cs,hl with
 |[s],_=>exact⟨[I W,I H,s],bs,⟨[I W],[I H,s],[],bs,rfl,rfl,⟨rfl,wf_i64.2 h1,rfl⟩,[I H],[s],[],bs,rfl,rfl,⟨rfl,wf_i64.2 a,rfl⟩,r⟩,rfl,nd,b⟩
theorem sQ(W H:Int)(br:List Int):hI bU (W,H,br)=br.length:=by
 show 0+(0+hI cZ br)=_
 rw[At];omega
theorem Fz(W H:Int)(br:List Int):wR bU (W,H,br)=br.length:=by
 show 0+(0+wR cZ br)=_
 rw[yb];omega
theorem Kb(W H:Int)(br:List Int)(k:Nat):G0 bU (W,H,br) k=(W,H,agT k br.length):=by
 show(W,H,G0 cZ br (k+0+0))=_
 rw[Co];rfl
theorem aLC:aoe 295 bU:=by
 rintro h v⟨(W:Int),(H:Int),(br:List Int)⟩ left b hl;obtain⟨s,rfl,_,_,a⟩:=b.dE;refine akV ?_;refine aQ (aCy _ _ br left a hl) ?_;rintro v h'⟨rfl,rfl⟩;rw[sQ,At];split
 ·simp(disch:=omega);refine aG (λh1=>?_) (λh1=>?_)
  ·omega
  ·simp
 ·simp
theorem aLD:Zh 303 bU:=by rintro h v⟨(W:Int),(H:Int),(br:List Int)⟩ hp g c;obtain⟨s,rfl,w1,w2,d⟩:=g.dE;rw[sQ]at c;refine akV ?_;refine aQ (aCz _ _ br hp d (by rw[At];exact c)) ?_;rintro v h'⟨f,a⟩;obtain⟨b,i,e,_⟩:=a.ints;subst e;simp(disch:=omega)[gV,bD];exact⟨f,Vo.jF w1 w2 a⟩
theorem aLy:IZ 265 bU:=by rintro h v w⟨(W:Int),(H:Int),(br:List Int)⟩ c hw;obtain⟨s,rfl,_,_,b⟩:=c.dE;obtain⟨s2,rfl,_,_,a⟩:=hw.dE;refine akV ?_;refine aQ (aCs _ _ _ br b a) ?_;rintro v h'⟨rfl,rfl⟩;simp
theorem aLA:Tr 286 bU:=by rintro h lo hi v⟨(W:Int),(H:Int),(br:List Int)⟩ k d a;obtain⟨s,rfl,w1,w2,c⟩:=d.dE;rw[Fz]at a ⊢;rw[Kb];refine akV ?_;refine aQ (aCw _ lo hi _ br k c (by rw[yb];exact a)) ?_;rintro v h'⟨rfl,hm,b⟩;rw[yb];rw[Co]at b;simp;exact⟨hm,Vo.jF w1 w2 b⟩
theorem aLz:To 279 bU:=by
 rintro h v⟨(W:Int),(H:Int),(br:List Int)⟩ k b a;rw[Kb]at b;rw[Fz]at a ⊢;obtain⟨s,rfl,_,_,d⟩:=b.dE;refine akV ?_;refine aQ (aCu _ _ br k (by rw[Co];exact d) (by rw[yb];exact a)) ?_;rintro v h'⟨rfl,c⟩;rw[yb];simp(disch:=omega);refine aG (λh1=>?_) (λh1=>?_)
 ·omega
 ·simp[c]
abbrev dF:=Int×Int×Int
def zo(t:dF):List Value:=[I t.1,I t.2.1,I t.2.2]
def cW(l:List dF):List Value:=(l.map zo).flatten
def sX(t:dF):Prop:=bK t.1∧bK t.2.1∧bK t.2.2
theorem rJ(a b:List dF):cW (a++b)=cW a++cW b:=by simp[cW]
theorem iX(a:dF)(b:List dF):cW (a::b)=I a.1::I a.2.1::I a.2.2::cW b:=by simp[cW,zo]
theorem qe:cW []=[]:=rfl
theorem gD:∀l:List dF,(cW l).length=3*l.length
 |[]=>rfl
 |a::l=>by rw[iX];simp[gD l];omega
theorem Lf{c:List Value}{t:dF}:Rd h Dk c t↔c=zo t∧sX t:=by
 constructor
 ·rintro⟨c1,c2,rfl,⟨rfl,w1⟩,a,b,rfl,⟨rfl,w2⟩,rfl,w3⟩;exact⟨rfl,wf_i64.1 w1,wf_i64.1 w2,wf_i64.1 w3⟩
 ·rintro⟨rfl,w1,w2,w3⟩;exact⟨[I t.1],[I t.2.1,I t.2.2],rfl,⟨rfl,wf_i64.2 w1⟩,[I t.2.1],[I t.2.2],rfl,⟨rfl,wf_i64.2 w2⟩,rfl,wf_i64.2 w3⟩
theorem Wc{h:a9}:∀{css:List (List Value)} {X:List dF},cM (λc y=>Rd h Dk c y) css X->css.flatten=cW X∧∀x∈X,sX x
 |[],[],_=>by simp[cW]
 |c::css,x::X,r=>by
  obtain⟨e,w⟩:=Lf.1 r.1;obtain⟨h1,a⟩:=Wc r.2;refine⟨by simp[e,h1,cW],λy hy=>?_⟩;rcases bR.1 hy with rfl|hy
  ·exact w
  ·exact a y hy
theorem Vr.cW{v:Value}{X:List dF}(x:Vr h gC v X):∃b o z,v=sl b o X.length z∧(z=3∨b=0∧X=[])∧X.length<=maxLen∧(∀x∈X,sX x)∧(X=[]∨aZ h b o (X.length*3)=some (Am.cW X)):=by obtain⟨cs,⟨b,o,z,css,rfl,f,hm,h1,e⟩,rfl⟩:=x;obtain⟨c,d⟩:=Wc h1;have a:X=[]∨aZ h b o (X.length*3)=some css.flatten:=e;rw[c]at a;exact⟨b,o,z,rfl,f,hm,d,a⟩
theorem Sw:∀(X:List dF) (k:Nat) (a:k<X.length),(cW X)[3*k]?=some (I X[k].1)∧(cW X)[3*k+1]?=some (I X[k].2.1)∧(cW X)[3*k+2]?=some (I X[k].2.2)
 |[],k,a=>by simp at a
 |x::X,0,_=>by rw[iX];simp
 |x::X,k+1,a=>by
  have:=Sw X k (by simpa using a);rw[iX];simpa [qj]using this
theorem Ed{o k:Nat}{X:List dF}(a:X=[]∨aZ h b o (X.length*3)=some (cW X))(c:k<X.length):cell h b (o+k*3)=some (I X[k].1)∧cell h b (o+k*3+1)=some (I X[k].2.1)∧cell h b (o+k*3+2)=some (I X[k].2.2):=by
 rcases a with h0|a
 ·subst h0;simp at c
 ·have:=Sw X k c;have h1:=(fQ (i:=3*k) a (by omega)).1;have d:=(fQ (i:=3*k+1) a (by omega)).1;have e:=(fQ (i:=3*k+2) a (by omega)).1
  grind
theorem QO(h:a9):∀(X:List dF),(∀x∈X,sX x)->cM (λc y=>Rd h Dk c y) (X.map zo) X
 |[],_=>trivial
 |x::X,hx=>⟨Lf.2 ⟨rfl,hx x (by simp)⟩,QO h X λy hy=>hx y (by simp[hy])⟩
theorem Vr.rY{o:Nat}{X:List dF}(c:z=3∨b=0∧X=[])(hm:X.length<=maxLen)(hx:∀x∈X,sX x)(a:X=[]∨aZ h b o (X.length*3)=some (Am.cW X)):Vr h gC (sl b o X.length z) X:=
 ⟨[sl b o X.length z],⟨b,o,z,X.map zo,rfl,c,hm,QO h X hx,a⟩,rfl⟩
theorem YD{c:List Value}{t:dF}:Ow h Dk c t bs↔c=zo t∧sX t∧bs=[]:=by
 constructor
 ·rintro⟨c1,c2,b1,b2,rfl,rfl,⟨rfl,w1,rfl⟩,b,d,b3,a,rfl,rfl,⟨rfl,w2,rfl⟩,rfl,w3,rfl⟩;exact⟨rfl,⟨wf_i64.1 w1,wf_i64.1 w2,wf_i64.1 w3⟩,rfl⟩
 ·rintro⟨rfl,⟨w1,w2,w3⟩,rfl⟩;exact⟨[I t.1],[I t.2.1,I t.2.2],[],[],rfl,rfl,⟨rfl,wf_i64.2 w1,rfl⟩,[I t.2.1],[I t.2.2],[],[],rfl,rfl,⟨rfl,wf_i64.2 w2,rfl⟩,rfl,wf_i64.2 w3,rfl⟩
theorem NB(h:a9):∀(X:List dF),(∀x∈X,sX x)->ma (λc y s=>Ow h Dk c y s) (X.map zo) X (X.map λ_=>[])
 |[],_=>trivial
 |x::X,hx=>⟨YD.2 ⟨rfl,hx x (by simp),rfl⟩,NB h X λy hy=>hx y (by simp[hy])⟩
theorem Vo.rY{hi:Nat}{X:List dF}(c:z=3∨b=0∧X=[])(hm:X.length<=maxLen)(hx:∀x∈X,sX x)(a:X=[]∨h[b]?=some ⟨Am.cW X,true⟩∧lo<=b∧b<hi):Vo h lo hi gC (sl b 0 X.length z) X:=by
 refine⟨[sl b 0 X.length z],if X=[]then[]else[b],⟨b,z,X.map zo,X.map λ_=>[],rfl,c,hm,NB h X hx,?_⟩,rfl,?_,?_⟩
 ·by_cases h0:X=[]
  ·grind
  ·exact .inr ⟨h0,by rw[if_neg h0,FR],(a.resolve_left h0).1⟩
 ·split<;>simp
 ·grind
theorem ma.cW{h:a9}:∀{css:List (List Value)} {X:List dF} {nq:List (List Nat)},ma (λc y s=>Ow h Dk c y s) css X nq->css.flatten=Am.cW X∧(∀x∈X,sX x)∧nq.flatten=[]
 |[],[],[],_=>by simp[Am.cW]
 |c::css,x::X,s::nq,r=>by
  obtain⟨e,w,es⟩:=YD.1 r.1;obtain⟨h1,a,b⟩:=ma.cW r.2;refine⟨by simp[e,h1,Am.cW],λy hy=>?_,by simp[es,b]⟩;rcases bR.1 hy with rfl|hy
  ·exact w
  ·exact a y hy
 |[],_::_,_,r=>r.elim
 |[],[],_::_,r=>r.elim
 |_::_,[],_,r=>r.elim
 |_::_,_::_,[],r=>r.elim
theorem Vo.cW{hi:Nat}{v:Value}{X:List dF}(x:Vo h lo hi gC v X):∃b z,v=sl b 0 X.length z∧(z=3∨b=0∧X=[])∧X.length<=maxLen∧(∀x∈X,sX x)∧(X=[]∨h[b]?=some ⟨Am.cW X,true⟩∧lo<=b∧b<hi):=by
 obtain⟨cs,bs,⟨b,z,css,nq,rfl,d,hm,h1,a⟩,rfl,_,j⟩:=x;obtain⟨e,c,f⟩:=ma.cW h1;refine⟨b,z,rfl,d,hm,c,?_⟩;rcases a with⟨a,_⟩|⟨_,g,i⟩
 ·exact .inl a
 ·simp_all
theorem Vr.zo{v:Value}{t:dF}(x:Vr h Dk v t):v=.agg #[I t.1,I t.2.1,I t.2.2]∧sX t:=by obtain⟨cs,r,rfl⟩:=x;obtain⟨rfl,w⟩:=Lf.1 r;exact⟨rfl,w⟩
theorem So(X:List dF):hI gC X=X.length:=by
 show X.length+(X.map λ_=>0).sum=_
 rw[Nf];rfl
theorem Jm(X:List dF):wR gC X=3*X.length:=by
 show(X.map λ_=>3).sum=_
 induction X with
 |nil=>rfl
 |cons x X ih=>simp[ih];omega
def yV(k n:Nat):List dF:=(List.range n).map λi=>(((k+3*i:Nat):Int),((k+3*i+1:Nat):Int),((k+3*i+2:Nat):Int))
theorem aBk(k n:Nat):(yV k n).length=n:=by simp[yV]
theorem ayn(k n:Nat):yV k (n+1)=yV k n++[(((k+3*n:Nat):Int),((k+3*n+1:Nat):Int),((k+3*n+2:Nat):Int))]:=by simp[yV,dN]
theorem Kd:∀(X:List dF) (k:Nat),G0 gC X k=yV k X.length
 |[],k=>rfl
 |x::X,k=>by
  refine(congrArg (List.cons (((k:Nat):Int),((k+1:Nat):Int),((k+1+1:Nat):Int))) (Kd X (k+3))).trans ?_;simp only[yV,az,mc,bX,ta]
  congr 1
  apply fe;intro i _;simp;omega
theorem aFi{k n:Nat}(h:k+3*n<=1099511627776):∀x∈yV k n,sX x:=by intro x hx;obtain⟨i,hi,rfl⟩:=bj.1 hx;have:=da.1 hi;unfold sX bK;simp;omega
theorem aBj{k n:Nat}(h:i<(yV k n).length):(yV k n)[i]=(((k+3*i:Nat):Int),((k+3*i+1:Nat):Int),((k+3*i+2:Nat):Int)):=by simp[yV]
theorem aL(hp:0<h.length)(g:ae h h'):0<h'.length:=bQ hp g.le
@[simp] theorem aFO (n:Nat):((n:Int)<0)=False:=by simp
theorem Tw{α β:Type}{R:α->β->Prop}{vs:List β}(h:cM R [] vs):vs=[]:=by cases vs with|nil=>rfl|cons _ _=>exact h.elim
theorem I6{α β:Type}{R:α->β->Prop}{a:α}{l:List α}{vs:List β}(h:cM R (a::l) vs):∃v r,vs=v::r∧R a v∧cM R l r:=by
 cases vs with
 |nil=>exact h.elim
 |cons v r=>exact⟨v,r,rfl,h.1,h.2⟩
theorem Dx.vr{D:iM}{v:Value}(x:Dx h D v):∃X,Vr h D v X:=by obtain⟨cs,X,r,e⟩:=x;exact⟨X,cs,r,e⟩
theorem Dx.str{v:Value}(x:Dx h .str v):∃s,v=S s∧s.length<=9223372036854775807:=by obtain⟨cs,X,⟨rfl,w⟩,rfl⟩:=x;exact⟨X,rfl,by rw[<-cH];exact w⟩
theorem Vr.ass{v:Value}{X:bU.T}(x:Vr h bU v X):∃a b c,v=.agg #[a,b,c]:=by obtain⟨W,H,br⟩:=X;obtain⟨s,e,_⟩:=x.dE;exact⟨_,_,_,e⟩
theorem Vr.yl{v:Value}{X:ba.T}(x:Vr h ba v X):∃a b c d f,v=.agg #[a,b,c,d,f]:=by
 obtain⟨cs,r,rfl⟩:=x;have hl:=r.len
 match cs,hl with
 |[a,b,c,d,f],_=>exact⟨a,b,c,d,f,rfl⟩
theorem uj{X:List dF}(h:cW X=[]):X=[]:=by
 cases X with
 |nil=>rfl
 |cons x X=>rw[iX]at h;cases h
theorem JT(h:ints X=[]):X=[]:=by
 cases X with
 |nil=>rfl
 |cons x X=>cases h
theorem bP.ints{v:Value}(x:bP h0 h v 1 (Am.ints X))(hm:X.length<=maxLen)(hx:∀x∈X,bK x):Vo h h0.length h.length cZ v X:=by
 rcases x with⟨h1,rfl⟩|⟨b,n,rfl,c,d,a⟩
 ·have:=JT h1;subst this;exact Vo.fY (X:=[]) (.inl rfl) (by simp) (by simp) (.inl rfl)
 ·have:n=X.length:=by simpa [Am.ints]using c
  subst this;exact Vo.fY (.inl rfl) hm hx (.inr ⟨a,d,bZ a⟩)
end Am

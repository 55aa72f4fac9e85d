/- Contracts of functions. -/
import Derived.Test.YtpgioncclmancaaGreatPK1
set_option linter.unusedVariables false
set_option linter.unusedSimpArgs false
set_option maxHeartbeats 4000000
set_option maxRecDepth 40000
namespace Am
open Go
variable{h h':a9}{b i lo l1 u1 l2 u2 l3 u3 y x' y' m:Nat}{br X:List Int}{K:Value->a9->Prop}{W H x:Int}{cs xs:List Value}{sp sf:Value}{bs:List Nat}{l acc:List UInt8}
def aFN(X:List dF):List dF:=X.reverse.map λt=>(t.1,t.2.2,t.2.1)
abbrev bW:=Int×Int×List Int
def oD(b:Int):Bool:=gZ b 0 2
def iv(X:bW):Bool:=yr X.1 X.2.1&&(decide ((X.2.2.length:Int)=inner X.1 X.2.1)&&X.2.2.all oD)
structure fg (X:bW):Prop where
 w:1<=X.1∧X.1<=8
 h:1<=X.2.1∧X.2.1<=8
 n:(X.2.2.length:Int)=inner X.1 X.2.1
 b:∀x∈X.2.2,0<=x∧x<=2
theorem dK{X:bW}:iv X=true↔fg X:=by unfold iv;simp only[aH,VN,decide_eq_true_eq,bV,oD,fM];exact⟨λ⟨⟨a,b⟩,c,d⟩=>⟨a,b,c,d⟩,λ⟨a,b,c,d⟩=>⟨⟨a,b⟩,c,d⟩⟩
def gY(h:a9)(v:Value)(X:bW):Prop:=∃b o s,v=pt b o∧cell h b o=some (I X.1)∧cell h b (o+1)=some (I X.2.1)∧cell h b (o+2)=some s∧Vr h cZ s X.2.2∧bK X.1∧bK X.2.1
theorem ae.cell(g:ae h h'){o:Nat}{v:Value}(x:Am.cell h b o=some v):Am.cell h' b o=some v:=by
 unfold Am.cell at*;split at x
 ·rename_i k a;rw[g.at a];exact x
 ·cases x
theorem gY.grow{v:Value}{X:bW}(x:gY h v X)(g:ae h h'):gY h' v X:=by obtain⟨b,o,s,e,h1,a,c,d,f⟩:=x;exact⟨b,o,s,e,g.cell h1,g.cell a,g.cell c,d.grow g,f⟩
theorem ahV(a:Int)(h:a9):aN aE 449 [I a] h λv h'=>v=B (oD a)∧h'=h:=by refine akV ?_;refine aQ (xW a 0 2 h) ?_;rintro v h'⟨rfl,rfl⟩;simp[oD]
theorem Zv(a:Int)(h:a9):aN aE 196 [I a] h λv h'=>v=B (oD a)∧h'=h:=by refine akV ?_;refine aQ (B8 a 0 2 h) ?_;rintro v h'⟨rfl,rfl⟩;simp[oD]
theorem Tx{α:Type}{p:α->Bool}{l:List α}{k:Nat}(a:k<l.length):(l.drop k).all p=(p l[k]&&(l.drop (k+1)).all p):=by rw[bt a];rfl
theorem An(v:Value)(X:bW)(h:a9)(t:gY h v X):aN aE 452 [v] h λr h'=>r=B (iv X)∧h'=h:=by
 obtain⟨b,o,s,rfl,h1,e,c,q,C,A⟩:=t;obtain⟨W,H,br⟩:=X;obtain⟨b2,o2,z,rfl,_,hm,hx,p⟩:=q.ints;rw[cH]at hm;have hm:br.length<=9223372036854775807:=hm;simp only at h1 e;refine afq ?_;simp(disch:=omega)[h1,e,c];refine aQ (ZD W h) ?_;rintro v h'⟨rfl,rfl⟩;cases d:gZ W 1 8
 ·simp[iv,yr,d]
 ·simp(disch:=omega)[h1,e,c];refine aQ (ZD H h') ?_;rintro v h'⟨rfl,rfl⟩;cases f:gZ H 1 8
  ·simp[iv,yr,d,f]
  ·simp(disch:=omega)[h1,e,c];have w:=fM.1 d;have u:=fM.1 f;refine aQ (aoN W H w u h') ?_;rintro v h'⟨rfl,rfl⟩;refine⟨λ_=>ae.refl _,?_⟩;simp(disch:=omega)[h1,e,c];refine aG (λhn=>?_) (λhn=>?_)
   ·simp(disch:=omega);refine aU (λk σ m=>m=h'∧k<=br.length∧(br.drop k).all oD=br.all oD∧σ 0=pt b o∧σ 3=I k) (λk=>br.length-k) 0 ?_ ?_
    ·simp
    ·rintro k σ m⟨rfl,D,a,i,j⟩;simp(disch:=omega)[i,j,c];refine aG (λx=>?_) (λy=>?_)
     ·have g:k<br.length:=by omega
      simp(disch:=omega)[i,j,c,g,eG p g];refine aQ (xW br[k] 0 2 _) ?_;rintro v h'⟨rfl,rfl⟩;rw[Tx g]at a;have n:gZ br[k] 0 2=oD br[k]:=rfl;rw[n];cases l:oD br[k]
      ·rw[l]at a;simp[iv,yr,d,f,hn,<-a]
      ·rw[l]at a;simp(disch:=omega)[i,j,wrap64];exact⟨k+1,⟨by omega,by simpa using a,by omega⟩,by omega⟩
     ·have:k=br.length:=by omega
      subst this;simp at a;simp[iv,yr,d,f,hn];exact a
   ·simp[iv,yr,d,f,hn]
theorem B7(v:Value)(X:bW)(h:a9)(l:Vr h bU v X):aN aE 140 [v] h λr h'=>r=B (iv X)∧h'=h:=by
 obtain⟨W,H,br⟩:=X;obtain⟨s,rfl,t,q,j⟩:=l.dE;obtain⟨b2,o2,z,rfl,_,hm,hx,i⟩:=j.ints;rw[cH]at hm;refine akV ?_;refine aQ (aoE W H h) ?_;rintro v h'⟨rfl,rfl⟩;cases b:yr W H
 ·simp[iv,b]
 ·obtain⟨n,m⟩:=VN.1 b;simp(disch:=omega);refine aQ (aoz W H n m h') ?_;rintro v h'⟨rfl,rfl⟩;simp(disch:=omega);refine aG (λhn=>?_) (λhn=>?_)
  ·simp(disch:=omega);refine aU (λk σ g=>g=h'∧k<=br.length∧(br.drop k).all oD=br.all oD∧σ 23=sl b2 o2 br.length z∧σ 24=I br.length∧σ 25=I k) (λk=>br.length-k) 0 ?_ ?_
   ·simp
   ·rintro k σ g⟨rfl,u,a,d,q1,e⟩;simp(disch:=omega)[d,q1,e];refine aG (λo=>?_) (λp=>?_)
    ·have c:k<br.length:=by omega
     simp(disch:=omega)[d,q1,e,c,eG i c];refine aQ (Zv br[k] _) ?_;rintro v h'⟨rfl,rfl⟩;rw[Tx c]at a;cases f:oD br[k]
     ·rw[f]at a;simp[iv,b,hn,<-a]
     ·rw[f]at a;simp(disch:=omega)[d,q1,e,wrap64];exact⟨k+1,⟨by omega,by simpa using a,by omega⟩,by omega⟩
    ·have:k=br.length:=by omega
     subst this;simp at a;simp[iv,b,hn];exact a
  ·simp[iv,b,hn]
def fi(br:List Int)(i:Nat):Int:=br.getD i 0
theorem ng(h:i<br.length):fi br i=br[i]:=by simp[fi,h]
theorem VW{v:Value}(hp:0<h.length)(j:Vr h cZ v X)(m:X.length<=1048576)(f:∀c h',ae h h'->Vo h' h.length h'.length cZ c X->K c h'):
  gE (cu 1 h v (sl 0 0 0 1)) K:=by
 obtain⟨b,o,z,rfl,n,hm,hx,d⟩:=j.ints;by_cases a:X=[]
 ·subst a;have e:cu 1 h (sl b o (List.length ([]:List Int)) z) (sl 0 0 0 1)=some (sl 0 0 0 1,h):=by simp[cu,cR]
  rw[e];exact f _ _ (ae.refl _) (Vo.fY (X:=[]) (.inl rfl) (by simp) (by simp) (.inl rfl))
 ·have d:=d.resolve_left a;have l:X.length≠0:=by simpa using a
  refine pH hp (ae.refl h) bP.nil (new:=ints X) ?_ (by omega) (by simpa [ints]using a) (by simp[ints]) (by simp[ints,maxSize];omega) ?_
  ·simp[cR,a,d]
  ·intro c h' g b1 _;refine f c h' g ?_;obtain⟨b2,z2,rfl,i,_,_,k⟩:=(bP.ints (by simpa using b1) hm hx).ints;exact Vo.fY i hm hx (k.imp id λq=>⟨q.1,q.2.1,bZ q.1⟩)
theorem aoM(h:a9)(v:Value)(X:List Int)(hp:0<h.length)(c:Vr h cZ v X)(a:X.length<=1048576):aN aE 435 [v] h λr h'=>ae h h'∧Vo h' h.length h'.length cZ r X:=by refine akV ?_;refine VW hp c a λd h' g o=>?_;obtain⟨b,z,e,_⟩:=o.ints;subst e;exact⟨g,o⟩
theorem aoJ(h:a9)(v:Value)(X:List Int)(hp:0<h.length)(a:Vr h cZ v X)(f:X.length<=1048576):aN aE 308 [v] h λr h'=>ae h h'∧Vo h' h.length h'.length cZ r X:=by
 have d:=a;obtain⟨b,o,z,rfl,c,hm,hx,i⟩:=a.ints;refine akV ?_;refine Oa (λhn=>?_) (λhn=>?_)
 ·simp at hn;rcases c with c|⟨_,rfl⟩
  ·omega
  ·simp;exact⟨ae.refl _,Vo.fY (X:=[]) (.inr ⟨rfl,rfl⟩) (by simp) (by simp) (.inl rfl)⟩
 ·simp(disch:=omega);refine VW hp d f λj h' g o=>?_;obtain⟨b,z,e,_⟩:=o.ints;subst e;exact⟨g,o⟩
theorem Jh(h:a9)(v:Value)(X:bW)(hp:0<h.length)(k:gY h v X)(j:X.2.2.length<=1048576):aN aE 453 [v] h λr h'=>ae h h'∧Vo h' h.length h'.length bU r X:=by obtain⟨b,o,s,rfl,h1,c,d,a,i,f⟩:=k;obtain⟨W,H,br⟩:=X;refine afq ?_;simp(disch:=omega)[h1,c,d];refine aQ (aoM _ _ br hp a j) ?_;rintro l h'⟨g,ov⟩;refine⟨λ_=>g,?_⟩;obtain⟨b,z,e,_⟩:=ov.ints;subst e;simp(disch:=omega)[gV,bD];exact⟨g,Vo.jF i f ov⟩
theorem Mr(h:a9)(v:Value)(X:bW)(hp:0<h.length)(i:Vr h bU v X)(f:X.2.2.length<=1048576):aN aE 150 [v] h λr h'=>ae h h'∧Vo h' h.length h'.length bU r X:=by obtain⟨W,H,br⟩:=X;obtain⟨s,rfl,d,c,a⟩:=i.dE;refine akV ?_;refine aQ (aoJ _ _ br hp a f) ?_;rintro j h'⟨g,ov⟩;obtain⟨b,z,e,_⟩:=ov.ints;subst e;simp(disch:=omega)[gV,bD];exact⟨g,Vo.jF d c ov⟩
def E7(W H:Int):bW:=(W,H,List.replicate (inner W H).toNat 0)
theorem Yy(b:1<=W∧W<=8)(a:1<=H∧H<=8):fg (E7 W H):=by
 have:=Cj b a;refine⟨b,a,?_,?_⟩
 ·simp[E7];omega
 ·intro x hx;simp[E7]at hx;omega
theorem F1(n:Nat):jN n [I 0]=ints (List.replicate n 0):=by
 induction n with
 |zero=>rfl
 |succ n ih=>rw[Dh,ih,fJ];rfl
theorem VG{n:Nat}(hp:0<h.length)(hn:n<=1048576):Vo (h++[⟨jN n [I 0],true⟩]) h.length (h.length+1) cZ (sl h.length 0 n 1) (List.replicate n 0):=by have:=Vo.fY (h:=h++[⟨jN n [I 0],true⟩]) (b:=h.length) (lo:=h.length) (hi:=h.length+1) (z:=1) (X:=List.replicate n 0) (.inl rfl) (by simp[cH];omega) (by intro x hx;simp at hx;unfold bK;omega) (.inr ⟨by simp[F1],by omega,by omega⟩);simpa using this
theorem aoO(h:a9)(W H:Int)(b:1<=W∧W<=8)(a:1<=H∧H<=8)(hp:0<h.length):aN aE 450 [I W,I H] h λr h'=>ae h h'∧Vo h' h.length h'.length bU r (E7 W H):=by have hi:=Cj b a;refine akV ?_;refine aQ (aoN W H b a h) ?_;rintro c h'⟨rfl,rfl⟩;simp(disch:=omega)[nR,maxSize];rw[if_pos (by omega)];simp(disch:=omega)[gV,bD];refine⟨⟨_,rfl⟩,?_⟩;have:=VG (h:=h') (n:=(inner W H).toNat) hp (by omega);exact Vo.jF (by unfold bK;omega) (by unfold bK;omega) this
theorem aoB(h:a9)(W H:Int)(b:1<=W∧W<=8)(a:1<=H∧H<=8)(hp:0<h.length):aN aE 177 [I W,I H] h λr h'=>ae h h'∧Vo h' h.length h'.length bU r (E7 W H):=by have hi:=Cj b a;refine akV ?_;refine aQ (aoz W H b a h) ?_;rintro c h'⟨rfl,rfl⟩;simp(disch:=omega)[nR,maxSize];rw[if_pos (by omega)];simp(disch:=omega)[gV,bD];refine⟨⟨_,rfl⟩,?_⟩;have:=VG (h:=h') (n:=(inner W H).toNat) hp (by omega);exact Vo.jF (by unfold bK;omega) (by unfold bK;omega) this
abbrev aBC:=Int×Int×List Int
abbrev de:=aBC×List dF×List dF
theorem Rd.one{a:iM}{X:List a.T}(r:Rd h (.slice a) cs X):∃s,cs=[s]:=by
 have:=r.len
 match cs,this with
 |[s],_=>exact⟨s,rfl⟩
theorem Vr.og{v:Value}{p f:List dF}(x:Vr h ba v ((W,H,br),p,f)):∃s sp sf,v=.agg #[I W,I H,s,sp,sf]∧bK W∧bK H∧Vr h cZ s br∧Vr h gC sp p∧Vr h gC sf f:=by obtain⟨cs,⟨c1,c2,rfl,⟨d,e,rfl,⟨rfl,w1⟩,g,i,rfl,⟨rfl,w2⟩,a⟩,j,k,rfl,b,c⟩,rfl⟩:=x;obtain⟨s,rfl⟩:=Rd.one a;obtain⟨sp,rfl⟩:=Rd.one b;obtain⟨sf,rfl⟩:=Rd.one c;exact⟨s,sp,sf,rfl,wf_i64.1 w1,wf_i64.1 w2,⟨_,a,rfl⟩,⟨_,b,rfl⟩,⟨_,c,rfl⟩⟩
theorem Vr.qX{p f:List dF}{s:Value}(h1:bK W)(d:bK H)(a:Vr h cZ s br)(b:Vr h gC sp p)(c:Vr h gC sf f):Vr h ba (.agg #[I W,I H,s,sp,sf]) ((W,H,br),p,f):=by obtain⟨_,a,rfl⟩:=a;obtain⟨_,b,rfl⟩:=b;obtain⟨_,c,rfl⟩:=c;obtain⟨s,rfl⟩:=Rd.one a;obtain⟨sp,rfl⟩:=Rd.one b;obtain⟨sf,rfl⟩:=Rd.one c;exact⟨[I W,I H,s,sp,sf],⟨[I W,I H,s],[sp,sf],rfl,⟨[I W],[I H,s],rfl,⟨rfl,wf_i64.2 h1⟩,[I H],[s],rfl,⟨rfl,wf_i64.2 d⟩,a⟩,[sp],[sf],rfl,b,c⟩,rfl⟩
def xz(lo hi l u:Nat):Prop:=l=u∨lo<=l∧u<=hi
theorem Mod.sub{l u hi:Nat}(m:Mod l u h h')(s:xz lo hi l u):Mod lo hi h h':=
 ⟨m.1,λb a hn=>m.2 b a (by rcases s with s|s<;>omega)⟩
theorem am4(r:Ow h cZ cs X bs):∃s l u,cs=[s]∧Vo h l u cZ s X∧(bs=[]∧l=0∧u=0∨bs=[l]∧u=l+1):=by
 obtain⟨b,z,css,j,rfl,f,hm,h1,a⟩:=r;obtain⟨g,d,i⟩:=ma.ints h1;rcases a with⟨a,c⟩|⟨a,c,e⟩
 ·exact⟨_,0,0,rfl,Vo.fY f hm d (.inl a),.inl ⟨c,rfl,rfl⟩⟩
 ·rw[i]at c;rw[g]at e;exact⟨_,b,b+1,rfl,Vo.fY f hm d (.inr ⟨e,by omega,by omega⟩),.inr ⟨c,rfl⟩⟩
theorem Vt{X:List dF}(r:Ow h gC cs X bs):∃s l u,cs=[s]∧Vo h l u gC s X∧(bs=[]∧l=0∧u=0∨bs=[l]∧u=l+1):=by
 obtain⟨b,z,css,j,rfl,f,hm,h1,a⟩:=r;obtain⟨g,d,i⟩:=ma.cW h1;rcases a with⟨a,c⟩|⟨a,c,e⟩
 ·exact⟨_,0,0,rfl,Vo.rY f hm d (.inl a),.inl ⟨c,rfl,rfl⟩⟩
 ·rw[i]at c;rw[g]at e;exact⟨_,b,b+1,rfl,Vo.rY f hm d (.inr ⟨e,by omega,by omega⟩),.inr ⟨c,rfl⟩⟩
def BO(l u l' a:Nat):Prop:=u<=l'∨a<=l
theorem Vo.og{hi:Nat}{v:Value}{p f:List dF}(x:Vo h lo hi ba v ((W,H,br),p,f)):∃s sp sf l1 u1 l2 u2 l3 u3,v=.agg #[I W,I H,s,sp,sf]∧bK W∧bK H∧
  Vo h l1 u1 cZ s br∧Vo h l2 u2 gC sp p∧Vo h l3 u3 gC sf f∧xz lo hi l1 u1∧xz lo hi l2 u2∧xz lo hi l3 u3∧BO l1 u1 l2 u2∧BO l1 u1 l3 u3∧BO l2 u2 l3 u3:=by
 obtain⟨cs,bs,⟨c1,c2,b1,b2,rfl,rfl,⟨m,n,b3,g,rfl,rfl,⟨rfl,w1,rfl⟩,o,q,i,j,rfl,rfl,⟨rfl,w2,rfl⟩,c⟩,r,t,k,l,rfl,rfl,d,e⟩,rfl,nd,a⟩:=x;obtain⟨s,l1,u1,rfl,o1,q1⟩:=am4 c;obtain⟨sp,l2,u2,rfl,o2,q2⟩:=Vt d;obtain⟨sf,l3,u3,rfl,o3,b⟩:=Vt e;refine⟨s,sp,sf,l1,u1,l2,u2,l3,u3,rfl,wf_i64.1 w1,wf_i64.1 w2,o1,o2,o3,?_,?_,?_,?_,?_,?_⟩
 all_goals
  (first|unfold xz|unfold BO)<;>
  rcases q1 with⟨rfl,rfl,rfl⟩|⟨rfl,rfl⟩<;>rcases q2 with⟨rfl,rfl,rfl⟩|⟨rfl,rfl⟩<;>rcases b with⟨rfl,rfl,rfl⟩|⟨rfl,rfl⟩<;>simp at nd a<;>omega
theorem Vo.qX{hi:Nat}{p f:List dF}{s:Value}(h1:bK W)(n:bK H)(c:Vo h l1 u1 cZ s br)(d:Vo h l2 u2 gC sp p)(g:Vo h l3 u3 gC sf f)
  (s1:xz lo hi l1 u1) (s2:xz lo hi l2 u2) (t:xz lo hi l3 u3) (k:BO l1 u1 l2 u2) (l:BO l1 u1 l3 u3) (m:BO l2 u2 l3 u3):Vo h lo hi ba (.agg #[I W,I H,s,sp,sf]) ((W,H,br),p,f):=by
 obtain⟨_,b1,c,rfl,n1,o⟩:=c;obtain⟨_,b2,d,rfl,n2,q⟩:=d;obtain⟨_,b3,g,rfl,n3,r⟩:=g;obtain⟨s,rfl⟩:=Rd.one c.rd;obtain⟨sp,rfl⟩:=Rd.one d.rd;obtain⟨sf,rfl⟩:=Rd.one g.rd;refine⟨[I W,I H,s,sp,sf],b1++(b2++b3),⟨[I W,I H,s],[sp,sf],b1,b2++b3,rfl,rfl,⟨[I W],[I H,s],[],b1,rfl,rfl,⟨rfl,wf_i64.2 h1,rfl⟩,[I H],[s],[],b1,rfl,rfl,⟨rfl,wf_i64.2 n,rfl⟩,c⟩,[sp],[sf],b2,b3,rfl,rfl,d,g⟩,rfl,?_,?_⟩
 ·rw[kS,kS];refine⟨n1,⟨n2,n3,λa i b j e=>?_⟩,λa i b j e=>?_⟩
  ·subst e;have:=q a i;have:=r a j;unfold BO at m;omega
  ·subst e;have:=o a i;unfold BO at k l
   grind
 ·intro b j;unfold xz at s1 s2 t
  grind
theorem mz(W H:Int)(br:List Int)(p f:List dF):hI ba ((W,H,br),p,f)=br.length+(p.length+f.length):=by
 show hI bU (W,H,br)+(hI gC p+hI gC f)=_
 rw[sQ,So,So]
theorem W3(W H:Int)(br:List Int)(p f:List dF):wR ba ((W,H,br),p,f)=br.length+(3*p.length+3*f.length):=by
 show wR bU (W,H,br)+(wR gC p+wR gC f)=_
 rw[Fz,Jm,Jm]
theorem aw4(W H:Int)(br:List Int)(p f:List dF)(k:Nat):G0 ba ((W,H,br),p,f) k=((W,H,agT k br.length),yV (k+br.length) p.length,yV (k+br.length+3*p.length) f.length):=by
 show(G0 bU (W,H,br) k,G0 gC p (k+wR bU (W,H,br)),G0 gC f (k+wR bU (W,H,br)+wR gC p))=_
 rw[Kb,Kd,Kd,Fz,Jm]
theorem wD(X:ba.T):wR ba X<=4*hI ba X:=by obtain⟨⟨W,H,br⟩,p,f⟩:=X;rw[W3,mz];omega
def dpre(a b:List Int)(n:Nat):List dF:=(List.range n).flatMap λi=>if fi a i=fi b i then[]else[((i:Int),fi a i,fi b i)]
theorem uw(a b:List Int)(n:Nat):dpre a b (n+1)=dpre a b n++if fi a n=fi b n then[]else[((n:Int),fi a n,fi b n)]:=by simp[dpre,dN]
theorem Ew(a b:List Int)(n:Nat):(dpre a b n).length<=n:=by
 induction n with
 |zero=>simp[dpre]
 |succ n ih=>rw[uw];simp;split<;>simp<;>omega
theorem KV{a:List Int}(h:∀x∈a,bK x)(i:Nat):bK (fi a i):=by
 unfold fi;rw[aA];by_cases hi:i<a.length
 ·grind
 ·rw[dX (by omega)];simp[bK]
theorem XK{a b:List Int}(c:∀x∈a,bK x)(d:∀x∈b,bK x){n:Nat}(hn:n<=1048576):∀x∈dpre a b n,sX x:=by
 intro x hx;obtain⟨i,hi,hx⟩:=afH.1 hx;have:=da.1 hi;split at hx
 ·simp at hx
 ·simp at hx;subst hx;exact⟨by unfold bK;simp;omega,KV c i,KV d i⟩
theorem Vo.La{hi:Nat}:Vo h lo hi cZ (sl 0 0 0 0) ([]:List Int):=Vo.fY (X:=[]) (.inr ⟨rfl,rfl⟩) (by simp) (by simp) (.inl rfl)
def qB:de:=(E7 3 2,[],[])
theorem am3:inner 3 2=7:=by decide
theorem LS:hI ba qB<=16777216:=by unfold qB E7;rw[mz];simp[am3]
theorem Vo.qC{hi:Nat}:Vo h lo hi gC (sl 0 0 0 0) ([]:List dF):=Vo.rY (X:=[]) (.inr ⟨rfl,rfl⟩) (by simp) (by simp) (.inl rfl)
theorem aCO(h:a9)(hp:0<h.length):aN aE 393 [] h λr h'=>ae h h'∧Vo h' h.length h'.length ba r qB∧hI ba qB<=16777216:=by refine akV ?_;refine aQ (aoO h 3 2 (by omega) (by omega) hp) ?_;rintro _ h1⟨g,o⟩;obtain⟨s,rfl,w,x,o⟩:=o.dE;obtain⟨b,z,e,_⟩:=o.ints;subst e;simp(disch:=omega)[gV,bD];refine⟨g,Vo.qX (l1:=h.length) (u1:=h1.length) (l2:=0) (u2:=0) (l3:=0) (u3:=0) w x o Vo.qC Vo.qC ?_ ?_ ?_ ?_ ?_ ?_,LS⟩<;>((first|unfold xz|unfold BO)<;>omega)
theorem aBY(h:a9)(hp:0<h.length):aN aE 100 [] h λr h'=>ae h h'∧Vo h' h.length h'.length ba r qB∧hI ba qB<=16777216:=by refine akV ?_;refine aQ (aoB h 3 2 (by omega) (by omega) hp) ?_;rintro _ h1⟨g,o⟩;obtain⟨s,rfl,w,x,o⟩:=o.dE;obtain⟨b,z,e,_⟩:=o.ints;subst e;simp(disch:=omega)[gV,bD];refine⟨g,Vo.qX (l1:=h.length) (u1:=h1.length) (l2:=0) (u2:=0) (l3:=0) (u3:=0) w x o Vo.qC Vo.qC ?_ ?_ ?_ ?_ ?_ ?_,LS⟩<;>((first|unfold xz|unfold BO)<;>omega)
theorem yz{v:Value}{X:List dF}(x:Vr h gC v X):∃b o z,v=sl b o X.length z∧X.length<=maxLen∧∀i (hi:i<X.length),aZ h b (o+i*3) 3=some (zo X[i]):=by obtain⟨b,o,z,rfl,_,hm,d⟩:=x.slice;refine⟨b,o,z,rfl,hm,λi hi=>?_⟩;obtain⟨c,a,r⟩:=d i hi;obtain⟨rfl,_⟩:=Lf.1 r;exact a
theorem Ja{v:Value}{xs:List UInt8}{n:Nat}{bs:Option (Value×a9)}(hp:0<h.length)(hl:l.length+xs.length<=1048576)(f:ae h h')(g:bP h h' v 1 (cD l))(c:xs≠[])(hn:n=xs.length)
  (e:bs=some (sl h'.length 0 n 1,h'++[⟨cD xs,true⟩]))
  (d:∀b a,ae h a->bP h a b 1 (cD (l++xs))->K b a):gE bs λy a=>gE (cu 1 a y v) K:=by
 subst hn;rw[e];simp only[bI];have i:xs.length≠0:=by simpa using c
 refine pH hp (f.push _) (g.grow ⟨_,rfl⟩) (new:=cD xs) ?_ (by omega) (by simpa [cD]using c) (by simp[cD]) (by simp[cD,maxSize];omega) ?_
 ·simp[cR,c];rw[fB (k:=⟨cD xs,true⟩) (by simp) (by simp[cD])];simp[cD,aY]
 ·intro b a g1 b1 _;exact d b a g1 (by simpa [cD]using b1)
theorem Vo.MS{hi:Nat}:Vo h lo hi bU (.agg #[I 0,I 0,sl 0 0 0 0]) ((0,0,[]):bW):=Vo.jF (by unfold bK;omega) (by unfold bK;omega) Vo.La
theorem Vo.pW{hi:Nat}:Vo h lo hi bU (.agg #[I 0,I 0,sl 0 0 0 0]) ((0,0,[]):bW):=Vo.jF (by unfold bK;omega) (by unfold bK;omega) (Vo.fY (X:=[]) (.inr ⟨rfl,rfl⟩) (by simp) (by simp) (.inl rfl))
theorem rH(hl:xs.length=cs.length):storeAt (h++[⟨cs,true⟩]) h.length 0 xs=some (h++[⟨xs,true⟩]):=by unfold storeAt;simp[hl]
theorem gY.at{s:Value}{r:Bool}(a:h[b]?=some ⟨[I W,I H,s],r⟩)(e:Vr h cZ s br)(d:bK W)(c:bK H):gY h (pt b 0) (W,H,br):=
 ⟨b,0,s,rfl,by simp[Am.cell,a],by simp[Am.cell,a],by simp[Am.cell,a],e,d,c⟩
def jW(W:Nat):Nat->Nat
 |0=>0
 |y+1=>jW W y+if y=0 then 0 else W-y%2
theorem F2{W:Nat}(h:1<=y):jW W (y+1)=jW W y+(W-y%2):=by simp only[jW];rw[if_neg (by omega)]
theorem Ku {W : Nat} : ∀ {y z : Nat}, y ≤ z → jW W y ≤ jW W z := by
  intro y z h
  induction z with
  | zero => have : y = 0 := by omega
            subst this; exact aa _
  | succ z ih =>
    by_cases e : y = z + 1
    · grind
    · have := ih (by omega)
      simp only [jW]; omega
theorem Ei:∀{W:Nat},W<9->∀{y:Nat},y<17->jW W y<=128:=by decide+kernel
theorem M4:∀{W:Nat},W<9->∀{H:Nat},H<9->1<=W->1<=H->(jW W (2*H):Int)=(W:Int)*(H-1)+H*(W-1):=by decide+kernel
theorem agM:∀{W:Nat},W<9->∀{y:Nat},y<17->1<=W->1<=y->((y/2:Nat):Int)*((W:Int)-1)+((y-1)/2:Nat)*(W:Int)=jW W y:=by decide+kernel
def jd(W x y:Nat):Nat:=jW W y+(x-1)/2
structure zd (W H k x y:Nat):Prop where
 y1:1<=y
 y2:y<2*H
 lo:jW W y<=k
 hi:k<jW W (y+1)
 x:x=2*(k-jW W y)+1+y%2
theorem zd.uniq{W H k x:Nat}(a:zd W H k x y)(b:zd W H k x' y'):x=x'∧y=y':=by
 have e:y=y':=by
  rcases qf y y' with h|h|h
  ·have:=Ku (W:=W) (show y+1<=y' by omega);have:=a.hi;have:=b.lo;omega
  ·exact h
  ·have:=Ku (W:=W) (show y'+1<=y by omega);have:=b.hi;have:=a.lo;omega
 subst e;exact⟨by rw[a.x,b.x],rfl⟩
theorem zd.bd{W H k x:Nat}(a:zd W H k x y):1<=x∧x<2*W∧(x+y)%2=1:=by have h1:=a.x;have d:=a.lo;have b:=a.hi;have c:=a.y1;rw[F2 c]at b;omega
theorem Cp{W H x:Nat}(hx:1<=x∧x<2*W)(hy:1<=y∧y<2*H)(hp:(x+y)%2=1):jd W x y<jW W (2*H):=by have h1:=Ku (W:=W) (show y+1<=2*H by omega);rw[F2 hy.1]at h1;unfold jd;omega
theorem ahW(h:a9)(v:Value)(X:bW)(W y:Nat)(i:gY h v X)(f:X.1=W)(w1:1<=W)(l:W<9)(e:1<=y)(hy:y<17):aN aE 455 [v,I y] h λr h'=>r=I (jW W y)∧h'=h:=by
 obtain⟨b,o,s,rfl,h1,_⟩:=i;rw[f]at h1;refine akV ?_;refine aU (λ(k:Nat) σ h'=>h'=h∧1<=k∧k<=y∧σ 0=pt b o∧σ 1=I y∧σ 5=I (jW W k)∧σ 6=I k) (λk=>y-k) 1 ?_ ?_
 ·refine⟨rfl,aa _,e,by simp,by simp,by simp[jW],by simp⟩
 ·rintro k σ h'⟨rfl,j,q,d,q1,a,c⟩;simp(disch:=omega)[q1,c];refine aG (λm=>?_) (λn=>?_)
  ·have p:=Ei l (y:=k) (by omega);have t:=F2 (W:=W) j;simp(disch:=omega)[d,a,c,h1,wrap64,tI];refine aG (λg=>?_) (λg=>?_)
   ·simp(disch:=omega)[d,q1,a,c,wrap64];exact⟨k+1,⟨by omega,by omega,by omega,by omega⟩,by omega⟩
   ·simp(disch:=omega)[d,q1,a,c,wrap64];exact⟨k+1,⟨by omega,by omega,by omega,by omega⟩,by omega⟩
  ·have:k=y:=by omega
   subst this;simp(disch:=omega)[a]
theorem PX(h:a9)(v:Value)(X:bW)(W x y:Nat)(c:gY h v X)(b:X.1=W)(w1:1<=W)(a:W<9)(hx:1<=x∧x<17)(hy:1<=y∧y<17):aN aE 451 [v,.agg #[I x,I y]] h λr h'=>r=I (jd W x y)∧h'=h:=by refine afq ?_;have d:=Ei a (y:=y) (by omega);simp(disch:=omega);refine aQ (ahW h v X W y c b w1 a hy.1 hy.2) ?_;rintro _ h'⟨rfl,rfl⟩;simp(disch:=omega)[wrap64,Fq];simp[jd];omega
theorem aC8(h:a9)(v:Value)(X:bW)(W H k:Nat)(q:gY h v X)(n:X.1=W)(B:X.2.1=H)(w1:1<=W)(i:W<9)(h1:1<=H)(E:H<9)(C:k<jW W (2*H)):aN aE 454 [v,I k] h λr h'=>(∃x y,zd W H k x y∧r=.agg #[I x,I y])∧h'=h:=by
 have m:=q;obtain⟨b,o,s,rfl,_,e,_⟩:=q;rw[B]at e;have u:k<128:=by have:=Ei i (y:=2*H) (by omega);omega
 refine akV ?_;refine aU (λ(y:Nat) σ h'=>h'=h∧1<=y∧y<2*H∧jW W y<=k∧σ 0=pt b o∧σ 1=I k∧σ 4=.agg #[I 0,I 0]∧σ 5=I y) (λy=>2*H-y) 1 ?_ ?_
 ·refine⟨rfl,by omega,by omega,by simp[jW],by simp,by simp,by simp,by simp⟩
 ·rintro y σ h'⟨rfl,j,f,A,a,q1,d,c⟩;have fin:k<jW W (y+1)->aN aE 455 [pt b o,I y] h' (λr z=>r=I (jW W y)∧z=h')∧zd W H k (2*(k-jW W y)+1+y%2) y:=λt=>
   ⟨ahW h' _ X W y m n w1 i j (by omega),⟨j,f,A,t,rfl⟩⟩
  simp(disch:=omega)[a,c,e,wrap64];refine aG (λl=>?_) (λw=>?_)
  ·have D:y+1<2*H:=by omega
   simp(disch:=omega)[a,q1,c,e,l,wrap64];have p:=ahW h' _ X W (y+1) m n w1 i (by omega) (by omega);rw[show((y+1:Nat):Int)=(y:Int)+1 by omega]at p;refine aQ p ?_;rintro _ h'⟨rfl,rfl⟩;simp(disch:=omega)[q1,l];refine aG (λhle=>?_) (λhle=>?_)
   ·simp(disch:=omega)[a,q1,d,c,wrap64];exact⟨y+1,⟨by omega,by omega,by omega,by omega⟩,by omega⟩
   ·obtain⟨f1,f2⟩:=fin (by omega);simp(disch:=omega)[a,q1,d,c];refine aQ f1 ?_;rintro _ h'⟨rfl,rfl⟩;simp(disch:=omega)[a,q1,d,c,wrap64,tI,gV,bD];refine⟨_,y,f2,?_,rfl⟩;omega
  ·have g:y+1=2*H:=by omega
   obtain⟨f1,f2⟩:=fin (by rw[g];exact C);simp(disch:=omega)[a,q1,d,c,w];refine aQ f1 ?_;rintro _ h'⟨rfl,rfl⟩;simp(disch:=omega)[a,q1,d,c,wrap64,tI,gV,bD];refine⟨_,y,f2,?_,rfl⟩;omega
theorem aCX(h:a9)(W H x y a j p y1 b q r c d e:Int)(s:Value)(h1:IntKind.i64.wrap (y.tdiv 2)=a)(m:IntKind.i64.wrap (W-1)=j)(n:IntKind.i64.wrap (a*j)=p)(o:IntKind.i64.wrap (y-1)=y1)(t:IntKind.i64.wrap (y1.tdiv 2)=b)(u:IntKind.i64.wrap (b*W)=q)
  (w:IntKind.i64.wrap (p+q)=r) (k:IntKind.i64.wrap (x.tdiv 2)=c) (l:IntKind.i64.wrap (r+c)=d) (f:IntKind.i64.wrap (d-1)=e):aN aE 40 [.agg #[I W,I H,s],.agg #[I x,I y]] h λv h'=>v=I (if y.tmod 2=1 then e else d)∧h'=h:=by
 refine afq ?_;refine bg λK g=>?_;simp;refine g ?_;refine bg λK g=>?_;simp[h1,m,n,o,t,u,w];refine g ?_;simp;refine aG (λi=>?_) (λi=>?_)
 ·simp[k,l,f,i]
 ·simp[k,l,f,i]
theorem XE(h:a9)(W H x y:Nat)(s:Value)(w1:1<=W)(a:W<9)(hx:1<=x∧x<17)(hy:1<=y∧y<17)(hp:(x+y)%2=1):aN aE 40 [.agg #[I W,I H,s],.agg #[I x,I y]] h λr h'=>r=I (jd W x y)∧h'=h:=by
 have m:=Ei a (y:=y) (by omega);have e:=agM a (y:=y) (by omega) w1 hy.1;have c:(y:Int)/2=((y/2:Nat):Int):=by omega
 have d:((y:Int)-1)/2=(((y-1)/2:Nat):Int):=by omega
 have b:(y:Int)/2*((W:Int)-1)+((y:Int)-1)/2*(W:Int)=jW W y:=by rw[c,d];exact e
 have b1:0<=(y:Int)/2*((W:Int)-1):=gq (by omega) (by omega);have b2:0<=((y:Int)-1)/2*(W:Int):=gq (by omega) (by omega);have o:(jW W y:Int)<=128:=by omega
 have j:=cQ ((W:Int)-1) ((W:Int)-1);have u1:=cQ ((y:Int)-1) ((y:Int)-1);have u2:=cQ ((y:Int)/2) ((y:Int)/2);have u3:=cQ (((y:Int)-1)/2) (((y:Int)-1)/2);have k:=cQ ((x:Int)/2) ((x:Int)/2);have l:IntKind.i64.wrap (IntKind.i64.wrap ((y:Int)/2*((W:Int)-1))+IntKind.i64.wrap (((y:Int)-1)/2*(W:Int)))=jW W y:=by rw[wrap64 (n:=(y:Int)/2*((W:Int)-1)) (by omega) (by omega),wrap64 (n:=((y:Int)-1)/2*(W:Int)) (by omega) (by omega),b,wrap64 (by omega) (by omega)]
 have t1:(y:Int).tdiv 2=(y:Int)/2:=Fq (by omega);have f:((y:Int)-1).tdiv 2=((y:Int)-1)/2:=Fq (by omega);have g:(x:Int).tdiv 2=(x:Int)/2:=Fq (by omega);have i:(y:Int).tmod 2=(y:Int)%2:=tI (by omega);refine(aCX h W H x y _ _ _ _ _ _ _ _ _ _ s rfl rfl rfl rfl rfl rfl rfl rfl rfl rfl).mono ?_;rintro r h'⟨rfl,rfl⟩;rw[t1,g,i,u2,j,u1,f,u3,l,k];refine⟨?_,rfl⟩;split
 ·rw[wrap64 (n:=(jW W y:Int)+(x:Int)/2) (by omega) (by omega),wrap64 (by omega) (by omega)];simp[jd];omega
 ·rw[wrap64 (by omega) (by omega)];simp[jd];omega
def Pc(p:Nat×Nat):List Value:=[I p.1,I p.2]
def tE(l:List (Nat×Nat)):List Value:=(l.map Pc).flatten
theorem SK(a b:List (Nat×Nat)):tE (a++b)=tE a++tE b:=by simp[tE]
theorem By:∀l:List (Nat×Nat),(tE l).length=2*l.length
 |[]=>rfl
 |a::l=>by
  have:=By l;simp only[tE,bX,cK,af,az]at this ⊢;simp only[Pc,az,aF]at this ⊢;omega
theorem WR{v:Value}{l:List (Nat×Nat)}{x:Nat}(hp:0<h.length)(hl:l.length<=1048576)(d:ae h h')(f:bP h h' v 2 (tE l))
  (c:∀b a,ae h a->bP h a b 2 (tE (l++[(x,y)]))->K b a):
  gE (aW 2 1 h' [(0,.agg #[I 0,I 0]),(2,.agg #[I x,I y])]) λy a=>gE (cu 2 a y v) K:=by
 have e:aW 2 1 h' [(0,.agg #[I 0,I 0]),(2,.agg #[I x,I y])]=some (sl h'.length 0 1 2,h'++[⟨[I x,I y],true⟩]):=by simp[aW]
 rw[e];simp only[bI];refine pH hp (d.push _) (f.grow ⟨_,rfl⟩) (new:=[I x,I y]) ?_ (by omega) (by simp) (by simp) (by rw[By];simp[maxSize];omega) ?_
 ·simp[cR];rw[fB (k:=⟨[I x,I y],true⟩) (by simp) (by simp)];simp
 ·intro b a g1 b1 g;refine c b a g1 (by rw[SK];exact b1)
def Zg(W H:Nat)(l:List (Nat×Nat)):Prop:=∀k (a:k<l.length),zd W H k l[k].1 l[k].2
theorem c49(h:a9)(W H:Nat)(s:Value)(hp:0<h.length)(w1:1<=W)(F:W<9)(h1:1<=H)(N:H<9):aN aE 49 [.agg #[I W,I H,s]] h λr h'=>ae h h'∧∃l,Zg W H l∧l.length=jW W (2*H)∧bP h h' r 2 (tE l):=by
 refine akV ?_;refine aU (λ(y:Nat) σ h'=>1<=y∧y<=2*H∧ae h h'∧σ 1=.agg #[I W,I H,s]∧σ 4=I y∧∃l,Zg W H l∧l.length=jW W y∧bP h h' (σ 3) 2 (tE l)) (λy=>2*H-y) 1 ?_ ?_
 ·exact⟨by omega,by omega,ae.refl _,by simp,by simp,[],λk q=>by simp at q,by simp[jW],by simp[tE];exact bP.nil⟩
 ·rintro y σ h'⟨w,E,p,q1,u,l,hl,d,c⟩;simp(disch:=omega)[q1,u,wrap64];refine aG (λJ=>?_) (λK=>?_)
  ·have hy:y<2*H:=by omega
   have t:=F2 (W:=W) w;have D:=Ei F (y:=y+1) (by omega);simp(disch:=omega)[q1,u,wrap64,tI];refine aU (λ(j:Nat) a o=>j<=W-y%2∧ae h o∧a 1=.agg #[I W,I H,s]∧a 4=I y∧a 5=I ((1+y%2+2*j:Nat):Int)∧∃l,Zg W H l∧l.length=jW W y+j∧bP h o (a 3) 2 (tE l)) (λj=>W-y%2-j) 0 ?_ ?_
   ·refine⟨by omega,p,by simp[q1],by simp[u],by simp,l,hl,d,by simpa using c⟩
   ·rintro j a o⟨O,z,i,v,m,l,hl,d,c⟩;simp(disch:=omega)[i,m,wrap64];refine aG (λB=>?_) (λA=>?_)
    ·have G:j<W-y%2:=by omega
     obtain⟨x,hx⟩:=aC (1+y%2+2*j);rw[<-hx]at m;simp(disch:=omega)[i,v,m];refine WR (x:=x) (y:=y) hp (by omega) z c λP M C b3=>?_;simp(disch:=omega)[i,v,m,wrap64];refine⟨j+1,⟨by omega,C,by omega,l++[(x,y)],?_,by simp[d];omega,b3⟩,by omega⟩;intro k q;simp at q;by_cases e:k<l.length
     ·rw[dY e];exact hl k e
     ·have:k=l.length:=by omega
      subst this;simp;refine⟨w,hy,by omega,?_,by omega⟩;rw[t];omega
    ·have:j=W-y%2:=by omega
     simp(disch:=omega)[i,v,wrap64];exact⟨y+1,⟨by omega,by omega,z,by omega,l,hl,by omega,c⟩,by omega⟩
  ·have:y=2*H:=by omega
   subst this;have g:=c;rcases c with⟨L,f⟩|⟨b,n,f,_⟩
   ·simp(disch:=omega)[f];rw[f]at g;exact⟨p,l,hl,d,g⟩
   ·simp(disch:=omega)[f];rw[f]at g;exact⟨p,l,hl,d,g⟩
theorem XB(a:∀x∈br,0<=x∧x<=2)(i:Nat):0<=fi br i∧fi br i<=2:=by
 unfold fi;rw[aA];by_cases h:i<br.length
 ·simp_all
 ·grind
theorem zd.num{W H k x:Nat}(a:zd W H k x y):jd W x y=k:=by have h1:=a.x;have b:=a.lo;have c:=a.hi;have d:=a.y1;unfold jd;omega
theorem zd.ex{W H k:Nat}(w1:1<=W)(h1:1<=H)(e:k<jW W (2*H)):∃x y,zd W H k x y:=by
 have key:∀m,k<jW W (m+1)->∃y,1<=y∧y<=m∧jW W y<=k∧k<jW W (y+1):=by
  intro m
  induction m with
  |zero=>intro h;simp[jW]at h
  |succ m ih=>
   grind
 obtain⟨y,a,b,c,d⟩:=key (2*H-1) (by rw[show 2*H-1+1=2*H by omega];exact e);exact⟨_,y,⟨a,by omega,c,d,rfl⟩⟩
def vx(n:Nat):List UInt8:=if h:n=0 then[]else vx (n/10)++[UInt8.ofNat (48+n%10)]
termination_by n
decreasing_by omega
theorem Az:vx 0=[]:=by unfold vx;simp
theorem HS{n:Nat}(h:n≠0):vx n=vx (n/10)++[UInt8.ofNat (48+n%10)]:=by rw[vx];rw[dif_neg h]
theorem ah9 (k : Nat) : ∀ n, n < 10 ^ k → (vx n).length ≤ k := by
  induction k with
  | zero => intro n hn; have : n = 0 := by simpa using hn
            subst this; simp [Az]
  | succ k ih =>
    intro n hn
    by_cases h0 : n = 0
    · grind
    · rw [HS h0]
      grind
theorem A5{n:Nat}(h:n≠0):0<(vx n).length:=by rw[HS h];simp
def bE(n:Int):List UInt8:=if n=0 then[48]else if n<0 then 45::vx n.natAbs else vx n.natAbs
theorem HQ{n:Int}(hn:bK n):(vx n.natAbs).length<=19:=by
 unfold bK at hn;have e:10^19=10000000000000000000:=by decide
 exact ah9 19 _ (by omega)
theorem dW{n:Int}(hn:bK n):1<=(bE n).length∧(bE n).length<=20:=by
 have:=HQ hn;unfold bE;split
 ·simp
 ·have h0:=A5 (n:=n.natAbs) (by omega)
  grind
theorem aef{n:Int}(a:0<=n)(b:n<18446744073709551616):IntKind.u64.wrap n=n:=DG (M:=18446744073709551616) rfl (by decide) a b
theorem aht{n:Int}(a:-9223372036854775808<=n)(b:n<0):IntKind.u64.wrap n=n+18446744073709551616:=by
 unfold IntKind.wrap;have d:IntKind.u64.signed=false:=rfl;have c:(2:Int)^IntKind.u64.bits=18446744073709551616:=by decide
 grind
theorem ahu{n:Int}(a:-9223372036854775808<=n)(b:n<0):IntKind.u64.wrap (0-IntKind.u64.wrap n)=-n:=by
 rw[aht a b];unfold IntKind.wrap;have d:IntKind.u64.signed=false:=rfl;have c:(2:Int)^IntKind.u64.bits=18446744073709551616:=by decide
 grind
theorem Pk{v:Value}{c:UInt8}(hp:0<h.length)(hl:l.length<=1048576)(f:ae h h')(k:bP h h' v 1 (cD l))(hx:x=c.toNat)
  (g:∀d a,ae h a->bP h a d 1 (cD (c::l))->K d a):
  gE (aW 1 1 h' [(0,Value.agg #[U 0]),(1,U x)]) λy a=>gE (cu 1 a v y) K:=by
 subst hx;have e:aW 1 1 h' [(0,Value.agg #[U 0]),(1,U (c.toNat:Int))]=some (sl h'.length 0 1 1,h'++[⟨cD [c],true⟩]):=by simp[aW,cD]
 rw[e];simp only[bI];have i:bP h (h'++[⟨cD [c],true⟩]) (sl h'.length 0 1 1) 1 (cD [c]):=.inr ⟨h'.length,1,rfl,by simp[cD],f.le,by simp⟩;have hn:cR 1 (h'++[⟨cD [c],true⟩]) v=some (cD l):=by
  obtain⟨b,o,n,rfl,hn,j⟩:=(k.grow (⟨_,rfl⟩:ae h' (h'++[⟨cD [c],true⟩]))).reads;by_cases h0:n=0
  ·subst h0;have:l=[]:=by simp[cD]at hn;simpa using hn.symm
   subst this;simp[cR,cD]
  ·have:=j.resolve_left h0;simp only[cR,h0,if_false];exact this
 by_cases h0:l=[]
 ·subst h0;have:cu 1 (h'++[⟨cD [c],true⟩]) v (sl h'.length 0 1 1)=some (sl h'.length 0 1 1,h'++[⟨cD [c],true⟩]):=by simp only[cu,hn];simp[cD]
  rw[this];exact g _ _ (f.push _) i
 ·refine pH hp (f.push _) i hn (by omega) (by simpa [cD]using h0) (by simp) (by simp[cD,maxSize];omega) ?_;intro d a g1 b1 _;exact g d a g1 (by simpa [cD]using b1)
theorem apq{r:Int}(h:bK r):(0<=r->IntKind.u8.wrap (IntKind.i64.wrap (48+r.tmod 10))=((UInt8.ofNat (48+r.natAbs%10)).toNat:Int))∧(r<0->IntKind.u8.wrap (IntKind.i64.wrap (48+(0-r.tmod 10)))=((UInt8.ofNat (48+r.natAbs%10)).toNat:Int)):=by
 unfold bK at h;have e:((UInt8.ofNat (48+r.natAbs%10)).toNat:Int)=48+(r.natAbs:Int)%10:=by rw[ou];omega
 rw[e];constructor
 ·intro h0;rw[tI h0,wrap64 (by omega) (by omega),Ln (by omega) (by omega)];omega
 ·intro h0;have:r.tmod 10=-((r.natAbs:Int)%10):=by
   grind
  rw[this,wrap64 (by omega) (by omega),Ln (by omega) (by omega)];omega
theorem av6{r:Int}:(r.tdiv 10).natAbs=r.natAbs/10:=by
 grind
theorem Uk(h:vx m++acc=l)(h0:m≠0):vx (m/10)++(UInt8.ofNat (48+m%10)::acc)=l:=by rw[<-h,HS h0];simp
theorem pJ(n:Int)(hn:bK n)(h:a9)(hp:0<h.length):aN aE 437 [I n] h λr h'=>r=S (bE n)∧ae h h':=by
 have hl:=HQ hn;have H:=hn;unfold bK at H;refine akV ?_;refine aU (λ(r:Int) σ h'=>bK r∧ae h h'∧σ 0=I n∧σ 4=I r∧∃acc,vx r.natAbs++acc=vx n.natAbs∧bP h h' (σ 3) 1 (cD acc)) (λr=>r.natAbs) n ?_ ?_
 ·exact⟨hn,ae.refl _,by simp,by simp,[],by simp,by simpa [cD]using bP.nil⟩
 ·rintro r σ h'⟨v,f,p0,d,acc,he,j⟩;have C:(vx r.natAbs).length+acc.length<=19:=by have:=congrArg List.length he;rw[af]at this;omega
  simp(disch:=omega)[d];refine aG (λh0=>?_) (λJ=>?_)
  ·subst h0;simp only[Int.natAbs_zero,Az,df]at he;subst he;have a:=Ng j;obtain⟨b,o,k,g,F,D⟩:=j.reads;have l:k=(vx n.natAbs).length:=by simpa [cD]using F
   simp(disch:=omega)[g,p0];refine aG (λi=>?_) (λi=>?_)
   ·have:n=0:=by
     false_or_by_contra
     have:=A5 (n:=n.natAbs) (by omega);omega
    subst this;simp(disch:=omega)[bE,f]
   ·have p:n≠0:=by intro e;subst e;simp[Az]at l;omega
    simp(disch:=omega)[g,p0];rw[g]at a;refine aG (λi=>?_) (λi=>?_)
    ·simp(disch:=omega)[g,p0,a];rw[if_pos (by omega)];simp[bE,p,i,f]
    ·simp(disch:=omega)[g,p0,a,bE,p,i,f]
  ·have E:=v;unfold bK at E;have hm:r.natAbs≠0:=by omega
   have q:=Uk he hm;have u:=av6 (r:=r);obtain⟨s,t⟩:=apq v;have w:(r.tdiv 10).natAbs<r.natAbs:=by omega
   have hi:bK (r.tdiv 10):=by unfold bK;omega
   have hw:IntKind.i64.wrap (r.tdiv 10)=r.tdiv 10:=wrap64 (by unfold bK at hi;omega) (by unfold bK at hi;omega);simp(disch:=omega)[d];refine aG (λx=>?_) (λy=>?_)
   ·simp(disch:=omega)[d];have m:r<0:=by
     false_or_by_contra
     rw[tI (by omega)]at x;omega
    have A:(r.tmod 10).natAbs=r.natAbs%10:=Int.natAbs_tmod r 10;refine Pk (c:=UInt8.ofNat (48+r.natAbs%10)) hp (by omega) f j (by rw[<-t m,Int.zero_sub,wrap64 (n:=-r.tmod 10) (by omega) (by omega)]) ?_;intro G z g1 b1;simp(disch:=omega)[d,hw];exact⟨_,⟨hi,g1,p0,rfl,_,by rw[u];exact q,b1⟩,by omega⟩
   ·simp(disch:=omega)[d];have A:(r.tmod 10).natAbs=r.natAbs%10:=Int.natAbs_tmod r 10;have B:0<=r∨r.tmod 10=0:=by
     by_cases h0:0<=r
     ·exact .inl h0
     ·right;have e:r=-(r.natAbs:Int):=by omega
      rw[e,Int.neg_tmod,tI (by omega)]at y ⊢;omega
    refine Pk (c:=UInt8.ofNat (48+r.natAbs%10)) hp (by omega) f j (by
     rcases B with h0|h0
     ·exact s h0
     ·by_cases h1:0<=r
      ·exact s h1
      ·rw[<-t (by omega),h0];rfl) ?_
    intro G z g1 b1;simp(disch:=omega)[d,hw];exact⟨_,⟨hi,g1,p0,rfl,_,by rw[u];exact q,b1⟩,by omega⟩
theorem drop_set(l:List UInt8)(k:Nat)(c:UInt8)(a:k<l.length):(l.set k c).drop k=c::l.drop (k+1):=by rw[iI,if_pos a,gX (by simp;omega),dQ (by simp;omega)];simp
theorem NI(l:List UInt8)(k:Nat)(c:UInt8):(cD l).set k (U c.toNat)=cD (l.set k c):=by simp[cD,jS]
theorem zC(n:Int)(hn:bK n)(h:a9)(hp:0<h.length):aN aE 75 [I n] h λr h'=>r=S (bE n)∧ae h h':=by
 have hl:=HQ hn;have C:=hn;unfold bK at C;refine akV ?_;refine aG (λh0=>?_) (λh0=>?_)
 ·subst h0;simp[bE,ae.refl]
 have v:storeAt (h++[⟨[U 0,U 0,U 0,U 0,U 0,U 0,U 0,U 0,U 0,U 0,U 0,U 0,U 0,U 0,U 0,U 0,U 0,U 0,U 0,U 0],true⟩]) h.length 0 [U 0,U 0,U 0,U 0,U 0,U 0,U 0,U 0,U 0,U 0,U 0,U 0,U 0,U 0,U 0,U 0,U 0,U 0,U 0,U 0]=some (h++[⟨cD (List.replicate 20 0),true⟩]):=by simp[storeAt,iK,cD]
 simp(disch:=omega)[v];obtain⟨h1,i⟩:=aC (h++[⟨cD (List.replicate 20 0),true⟩]);have s:(List.replicate 20 (0:UInt8))=[0,0,0,0,0,0,0,0,0,0,0,0,0,0,0,0,0,0,0,0]:=rfl;rw[s]at i;rw[<-i];have g1:ae h h1:=⟨_,i⟩;have B:h1[h.length]?=some ⟨cD (List.replicate 20 0),true⟩:=by rw[i,s];simp
 generalize w:aP aE _ (zn _ _)=K;have main:∀σ,σ 0=I n->σ 3=pt h.length 0->σ 4=I 20->σ 5=.int .u64 n.natAbs->K 0 σ h1:=by
  intro σ p0 f g j;subst w;simp only[aq];simp(disch:=omega);refine aU (λ(r:Nat) σ h'=>ae h h'∧r<=9223372036854775808∧σ 0=I n∧σ 3=pt h.length 0∧σ 5=.int .u64 r∧∃(arr:List UInt8) (a:Nat),σ 4=I a∧arr.length=20∧h'[h.length]?=some ⟨cD arr,true⟩∧vx r++arr.drop a=vx n.natAbs∧a<=20) (λr=>r) n.natAbs ?_ ?_
  ·exact⟨g1,by omega,p0,f,j,_,20,g,by simp,B,by simp,by omega⟩
  ·rintro r σ h'⟨l,E,p0,f,j,arr,a,g,c,b,he,u⟩;have z:(vx r).length+(20-a)<=19:=by have:=congrArg List.length he;rw[af,gA,c]at this;omega
   simp(disch:=omega)[j];refine aG (λD=>?_) (λhle=>?_)
   ·have hm:r≠0:=by omega
    have:=A5 hm;have p:=Uk he hm;obtain⟨a,rfl⟩:∃a',a=a'+1:=⟨a-1,by omega⟩;have hw:IntKind.u8.wrap (IntKind.u64.wrap (48+(r:Int)%10))=((UInt8.ofNat (48+r%10)).toNat:Int):=by rw[aef (by omega) (by omega),Ln (by omega) (by omega),ou];omega
    obtain⟨d,y⟩:∃d:UInt8,d=UInt8.ofNat (48+r%10):=⟨_,rfl⟩;rw[<-y]at hw p;have A:IntKind.u64.wrap ((r:Int)/10)=((r/10:Nat):Int):=by rw[aef (by omega) (by omega)];omega
    have m:storeAt h' h.length a [U (d.toNat:Int)]=some (h'.set h.length ⟨cD (arr.set a d),true⟩):=by rw[ld b (by simp[cD];omega),NI]
    have k:(a:Int)+1-1=a:=by omega
    have e:(a:Int)<20:=by omega
    simp(disch:=omega)[f,g,j,k,wrap64,tI,Fq,hw,e,m,A];exact⟨r/10,⟨l.put (aa _) _,by omega,p0,by omega,arr.set a d,a,rfl,by simpa using c,by simp[bZ b],by rw[drop_set _ _ _ (by omega)];exact p,by omega⟩,by omega⟩
   ·have:r=0:=by omega
    subst this;rw[Az,df]at he;simp(disch:=omega)[p0];have fin:∀(h':a9) (arr:List UInt8) (a:Nat) (σ:Nat->Value),arr.length=20->a<20->h'[h.length]?=some ⟨cD arr,true⟩->arr.drop a=bE n->gS 1020001 h' (pt h.length 0) (some (I a)) none none=some (sl h.length a (20-a) 1,h')∧kr 21 (sl h.length a (20-a) 1) h'=some (S (bE n),h'):=by
     intro h' arr a σ l1 l2 b he;constructor
     ·simp[gS,bound,Zl,b,cD,l1,l2,show h.length≠0 by omega]
     ·have x:aZ h' h.length a (20-a)=some (cD (bE n)):=by rw[fB b (by simp[cD];omega),<-he];simp[cD,sy,aY,l1]
      simp[kr,x,Er,show ¬20-a=0 by omega]
    have F:=A5 (n:=n.natAbs) (by omega);refine aG (λq=>?_) (λt=>?_)
    ·obtain⟨a,rfl⟩:∃a',a=a'+1:=⟨a-1,by omega⟩;have m:storeAt h' h.length a [U 45]=some (h'.set h.length ⟨cD (arr.set a 45),true⟩):=by rw[<-NI,<-ld b (by simp[cD];omega)];rfl
     have k:(a:Int)+1-1=a:=by omega
     have e:a<20:=by have:=congrArg List.length he;rw[gA,c]at this;omega
     obtain⟨f1,f2⟩:=fin (h'.set h.length ⟨cD (arr.set a 45),true⟩) (arr.set a 45) a σ (by simpa using c) e (by simp[bZ b]) (by rw[drop_set _ _ _ (by omega),he];simp[bE,h0,q]);have o:(a:Int)<20:=by omega
     simp(disch:=omega)[p0,f,g,k,wrap64,o,m,f1,f2];exact l.put (aa _) _
    ·have e:a<20:=by have:=congrArg List.length he;rw[gA,c]at this;omega
     obtain⟨f1,f2⟩:=fin h' arr a σ c e b (by rw[he];simp[bE,h0,t]);simp(disch:=omega)[p0,f,g,f1,f2];exact l
 refine aG (λq=>?_) (λt=>?_)
 ·simp(disch:=omega);refine main _ (by simp) (by simp) (by simp) ?_;rw[<-Int.zero_sub,ahu (by omega) (by omega)];have:((n.natAbs:Nat):Int)=-n:=by omega
  simp[this]
 ·simp(disch:=omega);refine main _ (by simp) (by simp) (by simp) ?_;rw[aef (by omega) (by omega)];have:((n.natAbs:Nat):Int)=n:=by omega
  simp[this]
def du(sep:List UInt8):List (List UInt8)->List UInt8
 |[]=>[]
 |a::r=>a++r.flatMap λx=>sep++x
theorem oI(sep:List UInt8)(l:List (List UInt8))(x:List UInt8):du sep (l++[x])=if l=[]then x else du sep l++sep++x:=by
 cases l with
 |nil=>simp[du]
 |cons a r=>simp[du]
theorem OJ(sep:List UInt8)(l:List (List UInt8))(k:Nat)(a:k<l.length):du sep (l.take (k+1))=du sep (l.take k)++(if 0<k then sep else[])++l[k]:=by
 rw[aj a,oI];by_cases h0:k=0
 ·subst h0;simp[du]
 ·have h1:l.take k≠[]:=by intro e;have:=congrArg List.length e;rw[bu,aF]at this;omega
  grind
theorem adE(sep:List UInt8)(l:List (List UInt8))(k:Nat):(du sep (l.take k)).length<=(du sep l).length:=by
 by_cases b:k<l.length
 ·suffices h:∀j,k+j<=l.length->(du sep (l.take k)).length<=(du sep (l.take (k+j))).length by
   have:=h (l.length-k) (by omega)
   rwa [show k+(l.length-k)=l.length by omega,aK]at this
  intro j
  induction j with
  |zero=>intro _;exact aa _
  |succ j ih=>
   intro a;have:=OJ sep l (k+j) (by omega)
   grind
 ·rw[aY (by omega)];exact aa _
theorem TZ(v:Value)(l:List (List UInt8))(sep:List UInt8)(h:a9)(q:Reads h v 1 (texts l))(hl:(du sep l).length<=1048576)(hm:l.length<=1048576):aN aE 167 [v,S sep] h λr h'=>r=S (du sep l)∧h'=h:=by
 obtain⟨b,o,n,rfl,hn,p⟩:=q;have j:n=l.length:=by simpa [texts]using hn
 subst j;refine akV ?_;refine aU (λk σ h'=>k<=l.length∧h'=h∧σ 1=S sep∧σ 5=S (du sep (l.take k))∧σ 8=sl b o l.length 1∧σ 9=I l.length∧σ 10=I k) (λk=>l.length-k) 0 ?_ ?_
 ·simp[du]
 ·rintro k σ h'⟨u,rfl,g,d,e,c,a⟩;simp(disch:=omega)[c,a];refine aG (λs=>?_) (λt=>?_)
  ·have i:k<l.length:=by omega
   have f:=OJ sep l k i;have m:=adE sep l (k+1);have hle:=congrArg List.length f;simp only[af]at hle;simp(disch:=omega)[e,c,a,i,BL p hn i];refine aG (λh0=>?_) (λh0=>?_)
   ·rw[if_pos (by omega)]at f hle;simp(disch:=omega)[g,d,e,c,a];rw[if_pos (by omega)];simp(disch:=omega)[g,d,e,c,a];rw[if_pos (by omega)];simp(disch:=omega)[g,d,e,c,a,wrap64];exact⟨k+1,⟨by omega,by rw[f];simp,by omega⟩,by omega⟩
   ·rw[if_neg (by omega)]at f hle;simp(disch:=omega)[g,d,e,c,a];simp only[aF]at hle;rw[if_pos (by omega)];simp(disch:=omega)[g,d,e,c,a,wrap64];exact⟨k+1,⟨by omega,by rw[f];simp,by omega⟩,by omega⟩
  ·have:k=l.length:=by omega
   subst this;simp(disch:=omega)[d]
def mW(b:Int):UInt8:=if b=1 then 124 else if b=2 then 45 else 43
theorem aoR(b:Int)(h:a9):aN aE 470 [I b] h λr h'=>r=U (mW b).toNat∧h'=h:=by
 refine akV ?_;refine aG (λh1=>?_) (λh1=>?_)
 ·simp[mW,h1]
 ·simp(disch:=omega);refine aG (λa=>?_) (λa=>?_)
  ·simp[mW,h1,a]
  ·simp[mW,h1,a]
end Am

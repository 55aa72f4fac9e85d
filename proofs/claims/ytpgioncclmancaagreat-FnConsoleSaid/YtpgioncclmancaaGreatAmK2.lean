/- Contracts: AmP3, AmT4, AmT5, AmP4, AmP7, AmP8, AmP2, AmP5, AmP6, AmP9, AmP10, AmP11, AmP12, AmP13, AmP14, AmP16, AmD1, AmD2, AmD3, AmJ1. -/
import Derived.Test.YtpgioncclmancaaGreatAmK1
set_option linter.unusedVariables false
set_option linter.unusedSimpArgs false
set_option maxHeartbeats 4000000
set_option maxRecDepth 40000
namespace Am
open Go
/-- A slice of numbers appended to an empty one: its own copy. -/
theorem own_ints{h:Heap}{v:Value}{X:List Int}{K:Value->Heap->Prop}(hp:0<h.length)(hv:Vr h shInts v X)(hs:X.length<=1048576)(hK:∀v' h',Grows h h'->Vo h' h.length h'.length shInts v' X->K v' h'):
  bindW (aAppend 1 h v (sl 0 0 0 1)) K:=by
 obtain⟨b,o,z,rfl,hz,hm,hx,hc⟩:=hv.ints
 by_cases hX:X=[]
 ·subst hX
  have e:aAppend 1 h (sl b o (List.length ([]:List Int)) z) (sl 0 0 0 1)=some (sl 0 0 0 1,h):=by simp[aAppend,newCells]
  rw[e]
  exact hK _ _ (Grows.refl _) (Vo.of_ints (X:=[]) (.inl rfl) (by simp) (by simp) (.inl rfl))
 ·have hc:=hc.resolve_left hX
  have hne:X.length≠0:=by simpa using hX
  refine append_buf hp (Grows.refl h) Buf.nil (new:=ints X) ?_ (by omega) (by simpa [ints]using hX) (by simp[ints]) (by simp[ints,maxSize];omega) ?_
  ·simp[newCells,hX,hc]
  ·intro v' h' g b1 _
   refine hK v' h' g ?_
   obtain⟨b2,z2,rfl,hz2,_,_,hc2⟩:=(Buf.ints (by simpa using b1) hm hx).ints
   exact Vo.of_ints hz2 hm hx (hc2.imp id λq=>⟨q.1,q.2.1,at_lt q.1⟩)
theorem c435(h:Heap)(v:Value)(X:List Int)(hp:0<h.length)(hv:Vr h shInts v X)(hs:X.length<=1048576):ACall Gam 435 [v] h λr h'=>Grows h h'∧Vo h' h.length h'.length shInts r X:=by
 refine ACall_intro g435 rfl ?_
 unfold fn435
 simp(disch:=omega)
 refine own_ints hp hv hs λv' h' g o=>?_
 obtain⟨b,z,e,_⟩:=o.ints
 subst e
 exact⟨g,o⟩
theorem c308(h:Heap)(v:Value)(X:List Int)(hp:0<h.length)(hv:Vr h shInts v X)(hs:X.length<=1048576):ACall Gam 308 [v] h λr h'=>Grows h h'∧Vo h' h.length h'.length shInts r X:=by
 have hv0:=hv
 obtain⟨b,o,z,rfl,hz,hm,hx,hc⟩:=hv.ints
 refine ACall_intro g308 rfl ?_
 unfold fn308
 simp(disch:=omega)
 refine fork_intro (λhn=>?_) (λhn=>?_)
 ·simp at hn
  rcases hz with hz|⟨_,rfl⟩
  ·omega
  ·simp
   exact⟨Grows.refl _,Vo.of_ints (X:=[]) (.inr ⟨rfl,rfl⟩) (by simp) (by simp) (.inl rfl)⟩
 ·simp(disch:=omega)
  refine own_ints hp hv0 hs λv' h' g o=>?_
  obtain⟨b,z,e,_⟩:=o.ints
  subst e
  exact⟨g,o⟩
theorem c453(h:Heap)(v:Value)(X:Pan)(hp:0<h.length)(hv:PtP h v X)(hs:X.2.2.length<=1048576):ACall Gam 453 [v] h λr h'=>Grows h h'∧Vo h' h.length h'.length shPanel r X:=by
 obtain⟨b,o,s,rfl,h1,h2,h3,hvs,hW,hH⟩:=hv
 obtain⟨W,H,br⟩:=X
 refine ACall_intro g453 rfl ?_
 unfold fn453
 simp(disch:=omega)[h1,h2,h3]
 refine callW_of (c435 _ _ br hp hvs hs) ?_
 rintro v' h'⟨g,ov⟩
 refine⟨λ_=>g,?_⟩
 obtain⟨b,z,e,_⟩:=ov.ints
 subst e
 simp(disch:=omega)[resOf_box,aField]
 exact⟨g,Vo.of_panel hW hH ov⟩
theorem c150(h:Heap)(v:Value)(X:Pan)(hp:0<h.length)(hv:Vr h shPanel v X)(hs:X.2.2.length<=1048576):ACall Gam 150 [v] h λr h'=>Grows h h'∧Vo h' h.length h'.length shPanel r X:=by
 obtain⟨W,H,br⟩:=X
 obtain⟨s,rfl,hW,hH,hvs⟩:=hv.panel
 refine ACall_intro g150 rfl ?_
 unfold fn150
 simp(disch:=omega)
 refine callW_of (c308 _ _ br hp hvs hs) ?_
 rintro v' h'⟨g,ov⟩
 obtain⟨b,z,e,_⟩:=ov.ints
 subst e
 simp(disch:=omega)[resOf_box,aField]
 exact⟨g,Vo.of_panel hW hH ov⟩
def newP(W H:Int):Pan:=(W,H,List.replicate (inner W H).toNat 0)
theorem newP_ok{W H:Int}(hW:1<=W∧W<=8)(hH:1<=H∧H<=8):OkP (newP W H):=by
 have:=inner_bd hW hH
 refine⟨hW,hH,?_,?_⟩
 ·simp[newP];omega
 ·intro x hx
  simp[newP]at hx
  omega
theorem reps_ints(n:Nat):reps n [I 0]=ints (List.replicate n 0):=by
 induction n with
 |zero=>rfl
 |succ n ih=>rw[reps_succ,ih,List.replicate_succ];rfl
theorem new_ints{h:Heap}{n:Nat}(hp:0<h.length)(hn:n<=1048576):Vo (h++[⟨reps n [I 0],true⟩]) h.length (h.length+1) shInts (sl h.length 0 n 1) (List.replicate n 0):=by
 have:=Vo.of_ints (h:=h++[⟨reps n [I 0],true⟩]) (b:=h.length) (lo:=h.length) (hi:=h.length+1) (z:=1) (X:=List.replicate n 0) (.inl rfl) (by simp[maxLen_eq];omega) (by intro x hx;simp at hx;unfold I64;omega) (.inr ⟨by simp[reps_ints],by omega,by omega⟩)
 simpa using this
theorem c177(h:Heap)(W H:Int)(hW:1<=W∧W<=8)(hH:1<=H∧H<=8)(hp:0<h.length):ACall Gam 177 [I W,I H] h λr h'=>Grows h h'∧Vo h' h.length h'.length shPanel r (newP W H):=by
 have hi:=inner_bd hW hH
 refine ACall_intro g177 rfl ?_
 unfold fn177
 simp(disch:=omega)
 refine callW_of (c166 W H hW hH h) ?_
 rintro v' h'⟨rfl,rfl⟩
 simp(disch:=omega)[aMake,maxSize]
 rw[if_pos (by omega)]
 simp(disch:=omega)[resOf_box,aField]
 refine⟨⟨_,rfl⟩,?_⟩
 have:=new_ints (h:=h') (n:=(inner W H).toNat) hp (by omega)
 exact Vo.of_panel (by unfold I64;omega) (by unfold I64;omega) this
abbrev Pan3:=Int×Int×List Int
abbrev Jrn:=Pan3×List Trip×List Trip
theorem Rd.one{h:Heap}{a:Shp}{cs:List Value}{X:List a.T}(r:Rd h (.slice a) cs X):∃s,cs=[s]:=by
 have:=r.len
 match cs,this with
 |[s],_=>exact⟨s,rfl⟩
theorem Vr.journal{h:Heap}{v:Value}{W H:Int}{br:List Int}{p f:List Trip}(x:Vr h shJournal v ((W,H,br),p,f)):∃s sp sf,v=.agg #[I W,I H,s,sp,sf]∧I64 W∧I64 H∧Vr h shInts s br∧Vr h shTrips sp p∧Vr h shTrips sf f:=by
 obtain⟨cs,⟨c1,c2,rfl,⟨c3,c4,rfl,⟨rfl,w1⟩,c5,c6,rfl,⟨rfl,w2⟩,r1⟩,c7,c8,rfl,r2,r3⟩,rfl⟩:=x
 obtain⟨s,rfl⟩:=Rd.one r1
 obtain⟨sp,rfl⟩:=Rd.one r2
 obtain⟨sf,rfl⟩:=Rd.one r3
 exact⟨s,sp,sf,rfl,wf_i64.1 w1,wf_i64.1 w2,⟨_,r1,rfl⟩,⟨_,r2,rfl⟩,⟨_,r3,rfl⟩⟩
theorem Vr.of_journal{h:Heap}{W H:Int}{br:List Int}{p f:List Trip}{s sp sf:Value}(h1:I64 W)(h2:I64 H)(r1:Vr h shInts s br)(r2:Vr h shTrips sp p)(r3:Vr h shTrips sf f):Vr h shJournal (.agg #[I W,I H,s,sp,sf]) ((W,H,br),p,f):=by
 obtain⟨_,r1,rfl⟩:=r1
 obtain⟨_,r2,rfl⟩:=r2
 obtain⟨_,r3,rfl⟩:=r3
 obtain⟨s,rfl⟩:=Rd.one r1
 obtain⟨sp,rfl⟩:=Rd.one r2
 obtain⟨sf,rfl⟩:=Rd.one r3
 exact⟨[I W,I H,s,sp,sf],⟨[I W,I H,s],[sp,sf],rfl,⟨[I W],[I H,s],rfl,⟨rfl,wf_i64.2 h1⟩,[I H],[s],rfl,⟨rfl,wf_i64.2 h2⟩,r1⟩,[sp],[sf],rfl,r2,r3⟩,rfl⟩
/-- The blocks from l on, before u: none, or within these bounds. -/
def Sub2(lo hi l u:Nat):Prop:=l=u∨lo<=l∧u<=hi
/-- Apart. -/
def Dis(l u l' u':Nat):Prop:=u<=l'∨u'<=l
theorem Vo.of_journal{h:Heap}{lo hi l1 u1 l2 u2 l3 u3:Nat}{W H:Int}{br:List Int}{p f:List Trip}{s sp sf:Value}(h1:I64 W)(h2:I64 H)(r1:Vo h l1 u1 shInts s br)(r2:Vo h l2 u2 shTrips sp p)(r3:Vo h l3 u3 shTrips sf f)
  (s1:Sub2 lo hi l1 u1) (s2:Sub2 lo hi l2 u2) (s3:Sub2 lo hi l3 u3) (d1:Dis l1 u1 l2 u2) (d2:Dis l1 u1 l3 u3) (d3:Dis l2 u2 l3 u3):Vo h lo hi shJournal (.agg #[I W,I H,s,sp,sf]) ((W,H,br),p,f):=by
 obtain⟨_,b1,r1,rfl,n1,k1⟩:=r1
 obtain⟨_,b2,r2,rfl,n2,k2⟩:=r2
 obtain⟨_,b3,r3,rfl,n3,k3⟩:=r3
 obtain⟨s,rfl⟩:=Rd.one r1.rd
 obtain⟨sp,rfl⟩:=Rd.one r2.rd
 obtain⟨sf,rfl⟩:=Rd.one r3.rd
 refine⟨[I W,I H,s,sp,sf],b1++(b2++b3),⟨[I W,I H,s],[sp,sf],b1,b2++b3,rfl,rfl,⟨[I W],[I H,s],[],b1,rfl,rfl,⟨rfl,wf_i64.2 h1,rfl⟩,[I H],[s],[],b1,rfl,rfl,⟨rfl,wf_i64.2 h2,rfl⟩,r1⟩,[sp],[sf],b2,b3,rfl,rfl,r2,r3⟩,rfl,?_,?_⟩
 ·rw[List.nodup_append,List.nodup_append]
  refine⟨n1,⟨n2,n3,λa ha b hb e=>?_⟩,λa ha b hb e=>?_⟩
  ·subst e
   have:=k2 a ha;have:=k3 a hb
   unfold Dis at d3;omega
  ·subst e
   have:=k1 a ha
   unfold Dis at d1 d2
   rcases List.mem_append.1 hb with hb|hb
   ·have:=k2 a hb;omega
   ·have:=k3 a hb;omega
 ·intro b hb
  unfold Sub2 at s1 s2 s3
  rcases List.mem_append.1 hb with hb|hb
  ·have:=k1 b hb;omega
  ·rcases List.mem_append.1 hb with hb|hb
   ·have:=k2 b hb;omega
   ·have:=k3 b hb;omega
theorem siz_journal(W H:Int)(br:List Int)(p f:List Trip):siz shJournal ((W,H,br),p,f)=br.length+(p.length+f.length):=by
 show siz shPanel (W,H,br)+(siz shTrips p+siz shTrips f)=_
 rw[siz_panel,siz_trips,siz_trips]
def dpre(a b:List Int)(n:Nat):List Trip:=(List.range n).flatMap λi=>if at0 a i=at0 b i then[]else[((i:Int),at0 a i,at0 b i)]
theorem dpre_succ(a b:List Int)(n:Nat):dpre a b (n+1)=dpre a b n++if at0 a n=at0 b n then[]else[((n:Int),at0 a n,at0 b n)]:=by simp[dpre,List.range_succ]
theorem dpre_len(a b:List Int)(n:Nat):(dpre a b n).length<=n:=by
 induction n with
 |zero=>simp[dpre]
 |succ n ih=>rw[dpre_succ];simp;split<;>simp<;>omega
theorem at0wide{a:List Int}(h:∀x∈a,I64 x)(i:Nat):I64 (at0 a i):=by
 unfold at0
 rw[List.getD_eq_getElem?_getD]
 by_cases hi:i<a.length
 ·rw[List.getElem?_eq_getElem hi];exact h _ (List.getElem_mem hi)
 ·rw[List.getElem?_eq_none (by omega)];simp[I64]
theorem dpre_64{a b:List Int}(ha:∀x∈a,I64 x)(hb:∀x∈b,I64 x){n:Nat}(hn:n<=1048576):∀x∈dpre a b n,T64 x:=by
 intro x hx
 obtain⟨i,hi,hx⟩:=List.mem_flatMap.1 hx
 have:=List.mem_range.1 hi
 split at hx
 ·simp at hx
 ·simp at hx;subst hx
  exact⟨by unfold I64;simp;omega,at0wide ha i,at0wide hb i⟩
theorem Vo.no_ints{h:Heap}{lo hi:Nat}:Vo h lo hi shInts (sl 0 0 0 0) ([]:List Int):=Vo.of_ints (X:=[]) (.inr ⟨rfl,rfl⟩) (by simp) (by simp) (.inl rfl)
def newDesk:Jrn:=(newP 3 2,[],[])
theorem inner32:inner 3 2=7:=by decide
theorem newDesk_siz:siz shJournal newDesk<=16777216:=by
 unfold newDesk newP
 rw[siz_journal];simp[inner32]
theorem Vo.no_steps{h:Heap}{lo hi:Nat}:Vo h lo hi shTrips (sl 0 0 0 0) ([]:List Trip):=Vo.of_trips (X:=[]) (.inr ⟨rfl,rfl⟩) (by simp) (by simp) (.inl rfl)
theorem c100(h:Heap)(hp:0<h.length):ACall Gam 100 [] h λr h'=>Grows h h'∧Vo h' h.length h'.length shJournal r newDesk∧siz shJournal newDesk<=16777216:=by
 refine ACall_intro g100 rfl ?_
 unfold fn100
 simp(disch:=omega)
 refine callW_of (c177 h 3 2 (by omega) (by omega) hp) ?_
 rintro _ h1⟨g,o⟩
 obtain⟨s,rfl,w,x,o⟩:=o.panel
 obtain⟨b,z,e,_⟩:=o.ints
 subst e
 simp(disch:=omega)[resOf_box,aField]
 refine⟨g,Vo.of_journal (l1:=h.length) (u1:=h1.length) (l2:=0) (u2:=0) (l3:=0) (u3:=0) w x o Vo.no_steps Vo.no_steps ?_ ?_ ?_ ?_ ?_ ?_,newDesk_siz⟩<;>((first|unfold Sub2|unfold Dis)<;>omega)
theorem trips_at{h:Heap}{v:Value}{X:List Trip}(x:Vr h shTrips v X):∃b o z,v=sl b o X.length z∧X.length<=maxLen∧∀i (hi:i<X.length),cellsAt h b (o+i*3) 3=some (trip X[i]):=by
 obtain⟨b,o,z,rfl,_,hm,hel⟩:=x.slice
 refine⟨b,o,z,rfl,hm,λi hi=>?_⟩
 obtain⟨c,hc,r⟩:=hel i hi
 obtain⟨rfl,_⟩:=rd_trip.1 r
 exact hc
theorem append_bytes{h h':Heap}{v:Value}{l xs:List UInt8}{n:Nat}{bs:Option (Value×Heap)}{K:Value->Heap->Prop}(hp:0<h.length)(hl:l.length+xs.length<=1048576)(hg:Grows h h')(hv:Buf h h' v 1 (bytesV l))(hne:xs≠[])(hn:n=xs.length)
  (e:bs=some (sl h'.length 0 n 1,h'++[⟨bytesV xs,true⟩]))
  (hK:∀v' h'',Grows h h''->Buf h h'' v' 1 (bytesV (l++xs))->K v' h''):bindW bs λy h''=>bindW (aAppend 1 h'' y v) K:=by
 subst hn
 rw[e]
 simp only[bindW_some]
 have hne':xs.length≠0:=by simpa using hne
 refine append_buf hp (hg.push _) (hv.grow ⟨_,rfl⟩) (new:=bytesV xs) ?_ (by omega) (by simpa [bytesV]using hne) (by simp[bytesV]) (by simp[bytesV,maxSize];omega) ?_
 ·simp[newCells,hne]
  rw[cellsAt_of (k:=⟨bytesV xs,true⟩) (by simp) (by simp[bytesV])]
  simp[bytesV,List.take_of_length_le]
 ·intro v' h'' g1 b1 _
  exact hK v' h'' g1 (by simpa [bytesV]using b1)
theorem Vo.no_panel{h:Heap}{lo hi:Nat}:Vo h lo hi shPanel (.agg #[I 0,I 0,sl 0 0 0 0]) ((0,0,[]):Pan):=Vo.of_panel (by unfold I64;omega) (by unfold I64;omega) Vo.no_ints
theorem Vo.zero_panel{h:Heap}{lo hi:Nat}:Vo h lo hi shPanel (.agg #[I 0,I 0,sl 0 0 0 0]) ((0,0,[]):Pan):=Vo.of_panel (by unfold I64;omega) (by unfold I64;omega) (Vo.of_ints (X:=[]) (.inr ⟨rfl,rfl⟩) (by simp) (by simp) (.inl rfl))
theorem store_box{h:Heap}{cs xs:List Value}(hl:xs.length=cs.length):storeAt (h++[⟨cs,true⟩]) h.length 0 xs=some (h++[⟨xs,true⟩]):=by
 unfold storeAt
 simp[hl]
/-- How many inner points lie above row y. -/
def rowN(W:Nat):Nat->Nat
 |0=>0
 |y+1=>rowN W y+if y=0 then 0 else W-y%2
theorem rowN_succ{W y:Nat}(h:1<=y):rowN W (y+1)=rowN W y+(W-y%2):=by
 simp only[rowN];rw[if_neg (by omega)]
theorem rowN_mono {W : Nat} : ∀ {y z : Nat}, y ≤ z → rowN W y ≤ rowN W z := by
  intro y z h
  induction z with
  | zero => have : y = 0 := by omega
            subst this; exact Nat.le_refl _
  | succ z ih =>
    by_cases e : y = z + 1
    · subst e; exact Nat.le_refl _
    · have := ih (by omega)
      simp only [rowN]; omega
theorem rowN_le:∀{W:Nat},W<9->∀{y:Nat},y<17->rowN W y<=128:=by decide+kernel
theorem rowN_end:∀{W:Nat},W<9->∀{H:Nat},H<9->1<=W->1<=H->(rowN W (2*H):Int)=(W:Int)*(H-1)+H*(W-1):=by decide+kernel
theorem rowN_form:∀{W:Nat},W<9->∀{y:Nat},y<17->1<=W->1<=y->((y/2:Nat):Int)*((W:Int)-1)+((y-1)/2:Nat)*(W:Int)=rowN W y:=by decide+kernel
/-- The number of a point. -/
def numP(W x y:Nat):Nat:=rowN W y+(x-1)/2
structure IsPt (W H k x y:Nat):Prop where
 y1:1<=y
 y2:y<2*H
 lo:rowN W y<=k
 hi:k<rowN W (y+1)
 x:x=2*(k-rowN W y)+1+y%2
theorem IsPt.uniq{W H k x y x' y':Nat}(a:IsPt W H k x y)(b:IsPt W H k x' y'):x=x'∧y=y':=by
 have e:y=y':=by
  rcases Nat.lt_trichotomy y y' with h|h|h
  ·have:=rowN_mono (W:=W) (show y+1<=y' by omega)
   have:=a.hi;have:=b.lo;omega
  ·exact h
  ·have:=rowN_mono (W:=W) (show y'+1<=y by omega)
   have:=b.hi;have:=a.lo;omega
 subst e
 exact⟨by rw[a.x,b.x],rfl⟩
theorem IsPt.bd{W H k x y:Nat}(a:IsPt W H k x y):1<=x∧x<2*W∧(x+y)%2=1:=by
 have h1:=a.x;have h2:=a.lo;have h3:=a.hi;have h4:=a.y1
 rw[rowN_succ h4]at h3
 omega
theorem numP_lt{W H x y:Nat}(hx:1<=x∧x<2*W)(hy:1<=y∧y<2*H)(hp:(x+y)%2=1):numP W x y<rowN W (2*H):=by
 have h1:=rowN_mono (W:=W) (show y+1<=2*H by omega)
 rw[rowN_succ hy.1]at h1
 unfold numP;omega
theorem c40v(h:Heap)(W H x y a W1 p y1 b q r c d e:Int)(s:Value)(h1:IntKind.i64.wrap (y.tdiv 2)=a)(h2:IntKind.i64.wrap (W-1)=W1)(h3:IntKind.i64.wrap (a*W1)=p)(h4:IntKind.i64.wrap (y-1)=y1)(h5:IntKind.i64.wrap (y1.tdiv 2)=b)(h6:IntKind.i64.wrap (b*W)=q)
  (h7:IntKind.i64.wrap (p+q)=r) (h8:IntKind.i64.wrap (x.tdiv 2)=c) (h9:IntKind.i64.wrap (r+c)=d) (h10:IntKind.i64.wrap (d-1)=e):ACall Gam 40 [.agg #[I W,I H,s],.agg #[I x,I y]] h λv h'=>v=I (if y.tmod 2=1 then e else d)∧h'=h:=by
 refine ACall_intro g40 rfl ?_
 unfold fn40
 simp only[]
 rw[awp_seq,awp_reg]
 generalize hK:seqQ Gam _ _ 0=K
 simp
 subst hK
 simp only[seqQ_zero]
 rw[awp_seq,awp_reg]
 generalize hK:seqQ Gam _ _ 0=K
 simp[h1,h2,h3,h4,h5,h6,h7]
 subst hK
 simp
 refine fork_dec (λho=>?_) (λho=>?_)
 ·simp[h8,h9,h10,ho]
 ·simp[h8,h9,h10,ho]
theorem c40(h:Heap)(W H x y:Nat)(s:Value)(w1:1<=W)(w8:W<9)(hx:1<=x∧x<17)(hy:1<=y∧y<17)(hp:(x+y)%2=1):ACall Gam 40 [.agg #[I W,I H,s],.agg #[I x,I y]] h λr h'=>r=I (numP W x y)∧h'=h:=by
 have hb:=rowN_le w8 (y:=y) (by omega)
 have hf:=rowN_form w8 (y:=y) (by omega) w1 hy.1
 have e1:(y:Int)/2=((y/2:Nat):Int):=by omega
 have e2:((y:Int)-1)/2=(((y-1)/2:Nat):Int):=by omega
 have hf':(y:Int)/2*((W:Int)-1)+((y:Int)-1)/2*(W:Int)=rowN W y:=by rw[e1,e2];exact hf
 have b1:0<=(y:Int)/2*((W:Int)-1):=Int.mul_nonneg (by omega) (by omega)
 have b2:0<=((y:Int)-1)/2*(W:Int):=Int.mul_nonneg (by omega) (by omega)
 have hrow:(rowN W y:Int)<=128:=by omega
 have u0:IntKind.i64.wrap ((W:Int)-1)=(W:Int)-1:=wrap64 (by omega) (by omega)
 have u1:IntKind.i64.wrap ((y:Int)-1)=(y:Int)-1:=wrap64 (by omega) (by omega)
 have u2:IntKind.i64.wrap ((y:Int)/2)=(y:Int)/2:=wrap64 (by omega) (by omega)
 have u3:IntKind.i64.wrap (((y:Int)-1)/2)=((y:Int)-1)/2:=wrap64 (by omega) (by omega)
 have u4:IntKind.i64.wrap ((x:Int)/2)=(x:Int)/2:=wrap64 (by omega) (by omega)
 have u5:IntKind.i64.wrap (IntKind.i64.wrap ((y:Int)/2*((W:Int)-1))+IntKind.i64.wrap (((y:Int)-1)/2*(W:Int)))=rowN W y:=by
  rw[wrap64 (n:=(y:Int)/2*((W:Int)-1)) (by omega) (by omega),wrap64 (n:=((y:Int)-1)/2*(W:Int)) (by omega) (by omega),hf',wrap64 (by omega) (by omega)]
 have t1:(y:Int).tdiv 2=(y:Int)/2:=tdiv_pos (by omega)
 have t2:((y:Int)-1).tdiv 2=((y:Int)-1)/2:=tdiv_pos (by omega)
 have t3:(x:Int).tdiv 2=(x:Int)/2:=tdiv_pos (by omega)
 have t4:(y:Int).tmod 2=(y:Int)%2:=tmod_pos (by omega)
 refine(c40v h W H x y _ _ _ _ _ _ _ _ _ _ s rfl rfl rfl rfl rfl rfl rfl rfl rfl rfl).mono ?_
 rintro r h'⟨rfl,rfl⟩
 rw[t1,t3,t4,u2,u0,u1,t2,u3,u5,u4]
 refine⟨?_,rfl⟩
 split
 ·rw[wrap64 (n:=(rowN W y:Int)+(x:Int)/2) (by omega) (by omega),wrap64 (by omega) (by omega)]
  simp[numP];omega
 ·rw[wrap64 (by omega) (by omega)]
  simp[numP];omega
def pairV(p:Nat×Nat):List Value:=[I p.1,I p.2]
def pairsV(l:List (Nat×Nat)):List Value:=(l.map pairV).flatten
theorem pairsV_append(a b:List (Nat×Nat)):pairsV (a++b)=pairsV a++pairsV b:=by simp[pairsV]
theorem pairsV_len:∀l:List (Nat×Nat),(pairsV l).length=2*l.length
 |[]=>rfl
 |a::l=>by
  have:=pairsV_len l
  simp only[pairsV,List.map_cons,List.flatten_cons,List.length_append,List.length_cons]at this ⊢
  simp only[pairV,List.length_cons,List.length_nil]at this ⊢
  omega
theorem append_pair{h h':Heap}{v:Value}{l:List (Nat×Nat)}{x y:Nat}{K:Value->Heap->Prop}(hp:0<h.length)(hl:l.length<=1048576)(hg:Grows h h')(hv:Buf h h' v 2 (pairsV l))
  (hK:∀v' h'',Grows h h''->Buf h h'' v' 2 (pairsV (l++[(x,y)]))->K v' h''):
  bindW (aBuildSlice 2 1 h' [(0,.agg #[I 0,I 0]),(2,.agg #[I x,I y])]) λy h''=>bindW (aAppend 2 h'' y v) K:=by
 have e:aBuildSlice 2 1 h' [(0,.agg #[I 0,I 0]),(2,.agg #[I x,I y])]=some (sl h'.length 0 1 2,h'++[⟨[I x,I y],true⟩]):=by simp[aBuildSlice]
 rw[e]
 simp only[bindW_some]
 refine append_buf hp (hg.push _) (hv.grow ⟨_,rfl⟩) (new:=[I x,I y]) ?_ (by omega) (by simp) (by simp) (by rw[pairsV_len];simp[maxSize];omega) ?_
 ·simp[newCells]
  rw[cellsAt_of (k:=⟨[I x,I y],true⟩) (by simp) (by simp)]
  simp
 ·intro v' h'' g1 b1 k1
  refine hK v' h'' g1 (by rw[pairsV_append];exact b1)
/-- The first m points, in order. -/
def PtsOk(W H:Nat)(l:List (Nat×Nat)):Prop:=∀k (hk:k<l.length),IsPt W H k l[k].1 l[k].2
theorem c49(h:Heap)(W H:Nat)(s:Value)(hp:0<h.length)(w1:1<=W)(w8:W<9)(h1:1<=H)(h8:H<9):ACall Gam 49 [.agg #[I W,I H,s]] h λr h'=>Grows h h'∧∃l,PtsOk W H l∧l.length=rowN W (2*H)∧Buf h h' r 2 (pairsV l):=by
 refine ACall_intro g49 rfl ?_
 unfold fn49
 simp(disch:=omega)
 refine awp_loop (λ(y:Nat) σ h'=>1<=y∧y<=2*H∧Grows h h'∧σ 1=.agg #[I W,I H,s]∧σ 4=I y∧∃l,PtsOk W H l∧l.length=rowN W y∧Buf h h' (σ 3) 2 (pairsV l)) (λy=>2*H-y) 1 ?_ ?_
 ·exact⟨by omega,by omega,Grows.refl _,by simp,by simp,[],λk hk=>by simp at hk,by simp[rowN],by simp[pairsV];exact Buf.nil⟩
 ·rintro y σ h'⟨hy1,hy2,hg,q1,q4,l,hl,hll,hb⟩
  simp(disch:=omega)[q1,q4,wrap64]
  refine fork_dec (λhlt=>?_) (λhge=>?_)
  ·have hy:y<2*H:=by omega
   have hrs:=rowN_succ (W:=W) hy1
   have hrb:=rowN_le w8 (y:=y+1) (by omega)
   simp(disch:=omega)[q1,q4,wrap64,tmod_pos]
   refine awp_loop (λ(j:Nat) σ' h''=>j<=W-y%2∧Grows h h''∧σ' 1=.agg #[I W,I H,s]∧σ' 4=I y∧σ' 5=I ((1+y%2+2*j:Nat):Int)∧∃l,PtsOk W H l∧l.length=rowN W y+j∧Buf h h'' (σ' 3) 2 (pairsV l)) (λj=>W-y%2-j) 0 ?_ ?_
   ·refine⟨by omega,hg,by simp[q1],by simp[q4],by simp,l,hl,hll,by simpa using hb⟩
   ·rintro j σ' h''⟨hj,hg',r1,r4,r5,l,hl,hll,hb⟩
    simp(disch:=omega)[r1,r5,wrap64]
    refine fork_dec (λhlt2=>?_) (λhge2=>?_)
    ·have hj2:j<W-y%2:=by omega
     obtain⟨x,hx⟩:∃x,x=1+y%2+2*j:=⟨_,rfl⟩
     rw[<-hx]at r5
     simp(disch:=omega)[r1,r4,r5]
     refine append_pair (x:=x) (y:=y) hp (by omega) hg' hb λv' h3 g3 b3=>?_
     simp(disch:=omega)[r1,r4,r5,wrap64]
     refine⟨j+1,⟨by omega,g3,by omega,l++[(x,y)],?_,by simp[hll];omega,b3⟩,by omega⟩
     intro k hk
     simp at hk
     by_cases e:k<l.length
     ·rw[List.getElem_append_left e];exact hl k e
     ·have:k=l.length:=by omega
      subst this
      simp
      refine⟨hy1,hy,by omega,?_,by omega⟩
      rw[hrs];omega
    ·have:j=W-y%2:=by omega
     simp(disch:=omega)[r1,r4,wrap64]
     exact⟨y+1,⟨by omega,by omega,hg',by omega,l,hl,by omega,hb⟩,by omega⟩
  ·have:y=2*H:=by omega
   subst this
   have hb':=hb
   rcases hb with⟨e1,e2⟩|⟨b,n,e2,_⟩
   ·simp(disch:=omega)[e2]
    rw[e2]at hb'
    exact⟨hg,l,hl,hll,hb'⟩
   ·simp(disch:=omega)[e2]
    rw[e2]at hb'
    exact⟨hg,l,hl,hll,hb'⟩
theorem at0_rng{br:List Int}(hb:∀x∈br,0<=x∧x<=2)(i:Nat):0<=at0 br i∧at0 br i<=2:=by
 unfold at0
 rw[List.getD_eq_getElem?_getD]
 by_cases h:i<br.length
 ·rw[List.getElem?_eq_getElem h]
  exact hb _ (List.getElem_mem h)
 ·rw[List.getElem?_eq_none (by omega)];simp
theorem IsPt.num{W H k x y:Nat}(a:IsPt W H k x y):numP W x y=k:=by
 have h1:=a.x;have h2:=a.lo;have h3:=a.hi;have h4:=a.y1
 unfold numP;omega
theorem IsPt.ex{W H k:Nat}(w1:1<=W)(h1:1<=H)(hk:k<rowN W (2*H)):∃x y,IsPt W H k x y:=by
 have key:∀m,k<rowN W (m+1)->∃y,1<=y∧y<=m∧rowN W y<=k∧k<rowN W (y+1):=by
  intro m
  induction m with
  |zero=>intro h;simp[rowN]at h
  |succ m ih=>
   intro h
   by_cases e:k<rowN W (m+1)
   ·obtain⟨y,a,b,c,d⟩:=ih e
    exact⟨y,a,by omega,c,d⟩
   ·exact⟨m+1,by omega,by omega,by omega,h⟩
 obtain⟨y,a,b,c,d⟩:=key (2*H-1) (by rw[show 2*H-1+1=2*H by omega];exact hk)
 exact⟨_,y,⟨a,by omega,c,d,rfl⟩⟩
/-- The digits of a number; none for 0. -/
def decN(n:Nat):List UInt8:=if h:n=0 then[]else decN (n/10)++[UInt8.ofNat (48+n%10)]
termination_by n
decreasing_by omega
theorem decN_zero:decN 0=[]:=by unfold decN;simp
theorem decN_pos{n:Nat}(h:n≠0):decN n=decN (n/10)++[UInt8.ofNat (48+n%10)]:=by
 rw[decN];rw[dif_neg h]
theorem decN_len (k : Nat) : ∀ n, n < 10 ^ k → (decN n).length ≤ k := by
  induction k with
  | zero => intro n hn; have : n = 0 := by simpa using hn
            subst this; simp [decN_zero]
  | succ k ih =>
    intro n hn
    by_cases h0 : n = 0
    · subst h0; simp [decN_zero]
    · rw [decN_pos h0]
      have := ih (n / 10) (by rw [Nat.pow_succ] at hn; omega)
      simp; omega
theorem decN_pos_len{n:Nat}(h:n≠0):0<(decN n).length:=by rw[decN_pos h];simp
def decS(n:Int):List UInt8:=if n=0 then[48]else if n<0 then 45::decN n.natAbs else decN n.natAbs
theorem decN_len64{n:Int}(hn:I64 n):(decN n.natAbs).length<=19:=by
 unfold I64 at hn
 have e:10^19=10000000000000000000:=by decide
 exact decN_len 19 _ (by omega)
theorem decS_len{n:Int}(hn:I64 n):1<=(decS n).length∧(decS n).length<=20:=by
 have:=decN_len64 hn
 unfold decS
 split
 ·simp
 ·have h0:=decN_pos_len (n:=n.natAbs) (by omega)
  split
  ·simp;omega
  ·omega
theorem wrapU{n:Int}(a:0<=n)(b:n<18446744073709551616):IntKind.u64.wrap n=n:=wrap_unsigned (M:=18446744073709551616) rfl (by decide) a b
theorem wrapU_neg{n:Int}(a:-9223372036854775808<=n)(b:n<0):IntKind.u64.wrap n=n+18446744073709551616:=by
 unfold IntKind.wrap
 have hs:IntKind.u64.signed=false:=rfl
 have hM:(2:Int)^IntKind.u64.bits=18446744073709551616:=by decide
 simp only[hs,hM,Bool.false_and,Bool.false_eq_true,if_false]
 rw[<-Int.add_emod_right]
 exact Int.emod_eq_of_lt (by omega) (by omega)
theorem wrapU_sub{n:Int}(a:-9223372036854775808<=n)(b:n<0):IntKind.u64.wrap (0-IntKind.u64.wrap n)=-n:=by
 rw[wrapU_neg a b]
 unfold IntKind.wrap
 have hs:IntKind.u64.signed=false:=rfl
 have hM:(2:Int)^IntKind.u64.bits=18446744073709551616:=by decide
 simp only[hs,hM,Bool.false_and,Bool.false_eq_true,if_false]
 have:0-(n+18446744073709551616)=-n-18446744073709551616:=by omega
 rw[this,<-Int.add_emod_right,Int.sub_add_cancel]
 exact Int.emod_eq_of_lt (by omega) (by omega)
theorem dec_next{m:Nat}{l acc:List UInt8}(h:decN m++acc=l)(h0:m≠0):decN (m/10)++(UInt8.ofNat (48+m%10)::acc)=l:=by
 rw[<-h,decN_pos h0];simp
theorem drop_set(l:List UInt8)(k:Nat)(c:UInt8)(hk:k<l.length):(l.set k c).drop k=c::l.drop (k+1):=by
 rw[List.set_eq_take_append_cons_drop,if_pos hk,List.drop_append_of_le_length (by simp;omega),List.drop_of_length_le (by simp;omega)]
 simp
theorem bytesV_set(l:List UInt8)(k:Nat)(c:UInt8):(bytesV l).set k (U c.toNat)=bytesV (l.set k c):=by simp[bytesV,List.map_set]
theorem c75(n:Int)(hn:I64 n)(h:Heap)(hp:0<h.length):ACall Gam 75 [I n] h λr h'=>r=S (decS n)∧Grows h h':=by
 have hl:=decN_len64 hn
 have hn':=hn
 unfold I64 at hn'
 refine ACall_intro g75 rfl ?_
 unfold fn75
 simp(disch:=omega)
 refine fork_dec (λh0=>?_) (λh0=>?_)
 ·subst h0
  simp[decS,Grows.refl]
 have hst:storeAt (h++[⟨[U 0,U 0,U 0,U 0,U 0,U 0,U 0,U 0,U 0,U 0,U 0,U 0,U 0,U 0,U 0,U 0,U 0,U 0,U 0,U 0],true⟩]) h.length 0 [U 0,U 0,U 0,U 0,U 0,U 0,U 0,U 0,U 0,U 0,U 0,U 0,U 0,U 0,U 0,U 0,U 0,U 0,U 0,U 0]=some (h++[⟨bytesV (List.replicate 20 0),true⟩]):=by
  simp[storeAt,splice,bytesV]
 simp(disch:=omega)[hst]
 obtain⟨h1,e1⟩:∃h1,h1=h++[⟨bytesV (List.replicate 20 0),true⟩]:=⟨_,rfl⟩
 have er:(List.replicate 20 (0:UInt8))=[0,0,0,0,0,0,0,0,0,0,0,0,0,0,0,0,0,0,0,0]:=rfl
 rw[er]at e1
 rw[<-e1]
 have g1:Grows h h1:=⟨_,e1⟩
 have k1:h1[h.length]?=some ⟨bytesV (List.replicate 20 0),true⟩:=by rw[e1,er];simp
 generalize hK:seqQ Gam _ (retQ _ _)=K
 have main:∀σ,σ 0=I n->σ 3=pt h.length 0->σ 4=I 20->σ 5=.int .u64 n.natAbs->K 0 σ h1:=by
  intro σ p0 p3 p4 p5
  subst hK
  simp only[seqQ_zero]
  simp(disch:=omega)
  refine awp_loop (λ(r:Nat) σ h'=>Grows h h'∧r<=9223372036854775808∧σ 0=I n∧σ 3=pt h.length 0∧σ 5=.int .u64 r∧∃(arr:List UInt8) (a:Nat),σ 4=I a∧arr.length=20∧h'[h.length]?=some ⟨bytesV arr,true⟩∧decN r++arr.drop a=decN n.natAbs∧a<=20) (λr=>r) n.natAbs ?_ ?_
  ·exact⟨g1,by omega,p0,p3,p5,_,20,p4,by simp,k1,by simp,by omega⟩
  ·rintro r σ h'⟨hg,hr,p0,p3,p5,arr,a,p4,ha,hb,he,ha20⟩
   have hla:(decN r).length+(20-a)<=19:=by
    have:=congrArg List.length he
    rw[List.length_append,List.length_drop,ha]at this;omega
   simp(disch:=omega)[p5]
   refine fork_dec (λhgt=>?_) (λhle=>?_)
   ·have hm:r≠0:=by omega
    have:=decN_pos_len hm
    have hnx:=dec_next he hm
    obtain⟨a,rfl⟩:∃a',a=a'+1:=⟨a-1,by omega⟩
    have hw:IntKind.u8.wrap (IntKind.u64.wrap (48+(r:Int)%10))=((UInt8.ofNat (48+r%10)).toNat:Int):=by
     rw[wrapU (by omega) (by omega),wrap8 (by omega) (by omega),UInt8.toNat_ofNat']
     omega
    obtain⟨d,hd⟩:∃d:UInt8,d=UInt8.ofNat (48+r%10):=⟨_,rfl⟩
    rw[<-hd]at hw hnx
    have hq:IntKind.u64.wrap ((r:Int)/10)=((r/10:Nat):Int):=by
     rw[wrapU (by omega) (by omega)];omega
    have hs:storeAt h' h.length a [U (d.toNat:Int)]=some (h'.set h.length ⟨bytesV (arr.set a d),true⟩):=by
     rw[store_one hb (by simp[bytesV];omega),bytesV_set]
    have ea:(a:Int)+1-1=a:=by omega
    have la:(a:Int)<20:=by omega
    simp(disch:=omega)[p3,p4,p5,ea,wrap64,tmod_pos,tdiv_pos,hw,la,hs,hq]
    exact⟨r/10,⟨hg.put (Nat.le_refl _) _,by omega,p0,by omega,arr.set a d,a,rfl,by simpa using ha,by simp[at_lt hb],by rw[drop_set _ _ _ (by omega)];exact hnx,by omega⟩,by omega⟩
   ·have:r=0:=by omega
    subst this
    rw[decN_zero,List.nil_append]at he
    simp(disch:=omega)[p0]
    have fin:∀(h':Heap) (arr:List UInt8) (a:Nat) (σ:Nat->Value),arr.length=20->a<20->h'[h.length]?=some ⟨bytesV arr,true⟩->arr.drop a=decS n->aSlice 1020001 h' (pt h.length 0) (some (I a)) none none=some (sl h.length a (20-a) 1,h')∧aConv 21 (sl h.length a (20-a) 1) h'=some (S (decS n),h'):=by
     intro h' arr a σ l1 l2 hb he
     constructor
     ·simp[aSlice,bound,arrOk,hb,bytesV,l1,l2,show h.length≠0 by omega]
     ·have hc:cellsAt h' h.length a (20-a)=some (bytesV (decS n)):=by
       rw[cellsAt_of hb (by simp[bytesV];omega),<-he]
       simp[bytesV,List.map_drop,List.take_of_length_le,l1]
      simp[aConv,hc,asInts_bytes,show ¬20-a=0 by omega]
    have hdl:=decN_pos_len (n:=n.natAbs) (by omega)
    refine fork_dec (λhneg=>?_) (λhpos=>?_)
    ·obtain⟨a,rfl⟩:∃a',a=a'+1:=⟨a-1,by omega⟩
     have hs:storeAt h' h.length a [U 45]=some (h'.set h.length ⟨bytesV (arr.set a 45),true⟩):=by
      rw[<-bytesV_set,<-store_one hb (by simp[bytesV];omega)];rfl
     have ea:(a:Int)+1-1=a:=by omega
     have la:a<20:=by
      have:=congrArg List.length he
      rw[List.length_drop,ha]at this;omega
     obtain⟨f1,f2⟩:=fin (h'.set h.length ⟨bytesV (arr.set a 45),true⟩) (arr.set a 45) a σ (by simpa using ha) la (by simp[at_lt hb]) (by rw[drop_set _ _ _ (by omega),he];simp[decS,h0,hneg])
     have la':(a:Int)<20:=by omega
     simp(disch:=omega)[p0,p3,p4,ea,wrap64,la',hs,f1,f2]
     exact hg.put (Nat.le_refl _) _
    ·have la:a<20:=by
      have:=congrArg List.length he
      rw[List.length_drop,ha]at this;omega
     obtain⟨f1,f2⟩:=fin h' arr a σ ha la hb (by rw[he];simp[decS,h0,hpos])
     simp(disch:=omega)[p0,p3,p4,f1,f2]
     exact hg
 refine fork_dec (λhneg=>?_) (λhpos=>?_)
 ·simp(disch:=omega)
  refine main _ (by simp) (by simp) (by simp) ?_
  rw[<-Int.zero_sub,wrapU_sub (by omega) (by omega)]
  have:((n.natAbs:Nat):Int)=-n:=by omega
  simp[this]
 ·simp(disch:=omega)
  refine main _ (by simp) (by simp) (by simp) ?_
  rw[wrapU (by omega) (by omega)]
  have:((n.natAbs:Nat):Int)=n:=by omega
  simp[this]
/-- Texts with a text between them. -/
def joinS(sep:List UInt8):List (List UInt8)->List UInt8
 |[]=>[]
 |a::r=>a++r.flatMap λx=>sep++x
theorem joinS_snoc(sep:List UInt8)(l:List (List UInt8))(x:List UInt8):joinS sep (l++[x])=if l=[]then x else joinS sep l++sep++x:=by
 cases l with
 |nil=>simp[joinS]
 |cons a r=>simp[joinS]
theorem joinS_take(sep:List UInt8)(l:List (List UInt8))(k:Nat)(hk:k<l.length):joinS sep (l.take (k+1))=joinS sep (l.take k)++(if 0<k then sep else[])++l[k]:=by
 rw[List.take_succ_eq_append_getElem hk,joinS_snoc]
 by_cases h0:k=0
 ·subst h0;simp[joinS]
 ·have h1:l.take k≠[]:=by
   intro e;have:=congrArg List.length e;rw[List.length_take,List.length_nil]at this;omega
  rw[if_neg h1,if_pos (by omega)]
theorem joinS_mono(sep:List UInt8)(l:List (List UInt8))(k:Nat):(joinS sep (l.take k)).length<=(joinS sep l).length:=by
 by_cases hk:k<l.length
 ·suffices h:∀j,k+j<=l.length->(joinS sep (l.take k)).length<=(joinS sep (l.take (k+j))).length by
   have:=h (l.length-k) (by omega)
   rwa [show k+(l.length-k)=l.length by omega,List.take_length]at this
  intro j
  induction j with
  |zero=>intro _;exact Nat.le_refl _
  |succ j ih=>
   intro hj
   have:=joinS_take sep l (k+j) (by omega)
   rw[show k+(j+1)=k+j+1 by omega,this]
   have:=ih (by omega)
   simp;omega
 ·rw[List.take_of_length_le (by omega)];exact Nat.le_refl _
theorem c167(v:Value)(l:List (List UInt8))(sep:List UInt8)(h:Heap)(hv:Reads h v 1 (texts l))(hl:(joinS sep l).length<=1048576)(hm:l.length<=1048576):ACall Gam 167 [v,S sep] h λr h'=>r=S (joinS sep l)∧h'=h:=by
 obtain⟨b,o,n,rfl,hn,hr⟩:=hv
 have e1:n=l.length:=by simpa [texts]using hn
 subst e1
 refine ACall_intro g167 rfl ?_
 unfold fn167
 simp(disch:=omega)
 refine awp_loop (λk σ h'=>k<=l.length∧h'=h∧σ 1=S sep∧σ 5=S (joinS sep (l.take k))∧σ 8=sl b o l.length 1∧σ 9=I l.length∧σ 10=I k) (λk=>l.length-k) 0 ?_ ?_
 ·simp[joinS]
 ·rintro k σ h'⟨hk,rfl,p1,p5,p8,p9,p10⟩
  simp(disch:=omega)[p9,p10]
  refine fork_dec (λhlt=>?_) (λhge=>?_)
  ·have k1:k<l.length:=by omega
   have hst:=joinS_take sep l k k1
   have hmo:=joinS_mono sep l (k+1)
   have hle:=congrArg List.length hst
   simp only[List.length_append]at hle
   simp(disch:=omega)[p8,p9,p10,k1,texts_cell hr hn k1]
   refine fork_dec (λh0=>?_) (λh0=>?_)
   ·rw[if_pos (by omega)]at hst hle
    simp(disch:=omega)[p1,p5,p8,p9,p10]
    rw[if_pos (by omega)]
    simp(disch:=omega)[p1,p5,p8,p9,p10]
    rw[if_pos (by omega)]
    simp(disch:=omega)[p1,p5,p8,p9,p10,wrap64]
    exact⟨k+1,⟨by omega,by rw[hst];simp,by omega⟩,by omega⟩
   ·rw[if_neg (by omega)]at hst hle
    simp(disch:=omega)[p1,p5,p8,p9,p10]
    simp only[List.length_nil]at hle
    rw[if_pos (by omega)]
    simp(disch:=omega)[p1,p5,p8,p9,p10,wrap64]
    exact⟨k+1,⟨by omega,by rw[hst];simp,by omega⟩,by omega⟩
  ·have:k=l.length:=by omega
   subst this
   simp(disch:=omega)[p5]
def signB(b:Int):UInt8:=if b=1 then 124 else if b=2 then 45 else 43
/-- A text is appended to texts. -/
theorem append_word{h h':Heap}{v:Value}{l:List (List UInt8)}{x:List UInt8}{K:Value->Heap->Prop}(hp:0<h.length)(hl:l.length<=1048576)(hg:Grows h h')(hv:Buf h h' v 1 (texts l))
  (hK:∀v' h'',Grows h h''->Buf h h'' v' 1 (texts (l++[x]))->K v' h''):
  bindW (aBuildSlice 1 1 h' [(0,.agg #[S []]),(1,S x)]) λy h''=>bindW (aAppend 1 h'' y v) K:=by
 have e:aBuildSlice 1 1 h' [(0,.agg #[S []]),(1,S x)]=some (sl h'.length 0 1 1,h'++[⟨[S x],true⟩]):=by simp[aBuildSlice]
 rw[e]
 simp only[bindW_some]
 refine append_buf hp (hg.push _) (hv.grow ⟨_,rfl⟩) (new:=[S x]) ?_ (by omega) (by simp) (by simp) (by simp[texts,maxSize];omega) ?_
 ·simp[newCells]
  rw[cellsAt_of (k:=⟨[S x],true⟩) (by simp) (by simp)]
  simp
 ·intro v' h'' g1 b1 _
  exact hK v' h'' g1 (by rw[texts_append];exact b1)
theorem mark_slice{h:Heap}{a:Int}(ha:okBr a=true):aSlice 0 h (S [43,124,45]) (some (I a)) (some (I (a+1))) none=some (S [signB a],h):=by
 have hr:a=0∨a=1∨a=2:=by unfold okBr inR at ha;simp at ha;omega
 rcases hr with e|e|e<;>subst e<;>simp[aSlice,bound,signB,ByteArray.size]
/-- A step fits a panel with n points. -/
def okStep(n:Nat)(s:Trip):Bool:=inR s.1 0 ((n:Int)-1)&&(okBr s.2.1&&(okBr s.2.2&&!decide (s.2.1=s.2.2)))
theorem okStep_iff{n:Nat}{s:Trip}:okStep n s=true↔(0<=s.1∧s.1<n)∧(0<=s.2.1∧s.2.1<=2)∧(0<=s.2.2∧s.2.2<=2)∧s.2.1≠s.2.2:=by
 simp only[okStep,okBr,Bool.and_eq_true,inR_iff,Bool.not_eq_true',decide_eq_false_iff_not]
 omega
/-- Steps undone, the last one first: none if one does not fit. -/
def runB:List Trip->List Int->Option (List Int)
 |[],br=>some br
 |s::l,br=>if okStep br.length s&&decide (at0 br s.1.toNat=s.2.2)then runB l (br.set s.1.toNat s.2.1)else none
/-- Steps made. -/
def runF:List Trip->List Int->Option (List Int)
 |[],br=>some br
 |s::l,br=>if okStep br.length s&&decide (at0 br s.1.toNat=s.2.1)then runF l (br.set s.1.toNat s.2.2)else none
def okJ(X:Jrn):Bool:=okP X.1&&(decide (X.2.1.length+X.2.2.length<=50)&&((runB X.2.1.reverse X.1.2.2).isSome&&(runF X.2.2 X.1.2.2).isSome))
theorem c163(a:Int)(n:Nat)(hn:n<=maxLen)(h:Heap):ACall Gam 163 [I a,I n] h λv h'=>v=B (inR a 0 ((n:Int)-1))∧h'=h:=by
 rw[maxLen_eq]at hn
 refine ACall_intro g163 rfl ?_
 unfold fn163
 simp(disch:=omega)[wrap64]
 refine callW_of (c164 a 0 ((n:Int)-1) h) ?_
 rintro v h'⟨rfl,rfl⟩
 simp
theorem c199(h:Heap)(W H:Int)(b o n z:Nat)(s:Trip)(hn:n<=maxLen):ACall Gam 199 [.agg #[I W,I H,sl b o n z],.agg #[I s.1,I s.2.1,I s.2.2]] h λr h'=>r=B (okStep n s)∧h'=h:=by
 refine ACall_intro g199 rfl ?_
 unfold fn199
 simp(disch:=omega)
 refine callW_of (c163 s.1 n hn h) ?_
 rintro v h'⟨rfl,rfl⟩
 cases h1:inR s.1 0 ((n:Int)-1)
 ·simp[okStep,h1]
 simp(disch:=omega)
 refine callW_of (c196 s.2.1 h') ?_
 rintro v h'⟨rfl,rfl⟩
 cases h2:okBr s.2.1
 ·simp[okStep,h1,h2]
 simp(disch:=omega)
 refine callW_of (c196 s.2.2 h') ?_
 rintro v h'⟨rfl,rfl⟩
 cases h3:okBr s.2.2
 ·simp[okStep,h1,h2,h3]
 simp(disch:=omega)[okStep,h1,h2,h3]
theorem c562(h:Heap)(pb po:Nat)(b o n z:Nat)(s:Trip)(hn:n<=maxLen)(hc:cell h pb (po+2)=some (sl b o n z)):ACall Gam 562 [pt pb po,.agg #[I s.1,I s.2.1,I s.2.2]] h λr h'=>r=B (okStep n s)∧h'=h:=by
 have hn':=hn
 rw[maxLen_eq]at hn'
 refine ACall_intro g562 rfl ?_
 unfold fn562
 simp(disch:=omega)[hc,wrap64]
 refine callW_of (c432 s.1 0 ((n:Int)-1) h) ?_
 rintro v h'⟨rfl,rfl⟩
 cases h1:inR s.1 0 ((n:Int)-1)
 ·simp[okStep,h1]
 simp(disch:=omega)
 refine callW_of (c449 s.2.1 h') ?_
 rintro v h'⟨rfl,rfl⟩
 cases h2:okBr s.2.1
 ·simp[okStep,h1,h2]
 simp(disch:=omega)
 refine callW_of (c449 s.2.2 h') ?_
 rintro v h'⟨rfl,rfl⟩
 cases h3:okBr s.2.2
 ·simp[okStep,h1,h2,h3]
 simp(disch:=omega)[okStep,h1,h2,h3]
/-- A number written in a block of numbers. -/
theorem ints_set(l:List Int)(k:Nat)(v:Int):(ints l).set k (I v)=ints (l.set k v):=by simp[ints,List.map_set]
theorem store_int{h:Heap}{b k:Nat}{l:List Int}{v:Int}(hb:h[b]?=some ⟨ints l,true⟩)(hk:k<l.length):storeAt h b k [I v]=some (h.set b ⟨ints (l.set k v),true⟩):=by
 rw[store_one hb (by simp[ints];exact hk),ints_set]
theorem cell_int{h:Heap}{b k:Nat}{l:List Int}{r:Bool}(hb:h[b]?=some ⟨ints l,r⟩)(hk:k<l.length):cell h b k=some (I (at0 l k)):=by
 rw[at0_of hk]
 exact cell_of hb (by simp[ints,hk])
theorem ok_len{W H:Int}{br:List Int}(ok:OkP (W,H,br)):br.length<=112:=by
 have:=inner_bd (a:=W) (b:=H) ok.w ok.h
 have:=ok.n
 simp only at this
 omega
theorem storeAt_whole{h:Heap}{b:Nat}{cs ds:List Value}(hb:h[b]?=some ⟨ds,true⟩)(hl:cs.length=ds.length):storeAt h b 0 cs=some (h.set b ⟨cs,true⟩):=by
 unfold storeAt
 simp only[hb]
 rw[if_pos ⟨trivial,by omega⟩]
 simp[hl]
/-- A clone's slice. -/
theorem own_slice{h:Heap}{lo hi:Nat}{v:Value}{X:List Int}(x:Vo h lo hi shInts v X):∃b z,v=sl b 0 X.length z∧(X.length=0∨h[b]?=some ⟨ints X,true⟩∧lo<=b∧b<hi):=by
 obtain⟨b,z,e,_,_,_,hc⟩:=x.ints
 exact⟨b,z,e,hc.imp (λe=>by rw[e];rfl) id⟩
/-- A pointer to a journal. -/
def PtJ(h:Heap)(v:Value)(X:Jrn):Prop:=∃b o s sp sf,v=pt b o∧cellsAt h b o 5=some [I X.1.1,I X.1.2.1,s,sp,sf]∧Vr h shInts s X.1.2.2∧Vr h shTrips sp X.2.1∧Vr h shTrips sf X.2.2∧I64 X.1.1∧I64 X.1.2.1
theorem PtJ.of{h:Heap}{b:Nat}{W H:Int}{s sp sf:Value}{br:List Int}{p f:List Trip}{r:Bool}(hb:h[b]?=some ⟨[I W,I H,s,sp,sf],r⟩)(h1:Vr h shInts s br)(h2:Vr h shTrips sp p)(h3:Vr h shTrips sf f)(w1:I64 W)(w2:I64 H):PtJ h (pt b 0) ((W,H,br),p,f):=
 ⟨b,0,s,sp,sf,rfl,cellsAt_all hb rfl,h1,h2,h3,w1,w2⟩
theorem PtJ.panel{h:Heap}{b o:Nat}{X:Jrn}(x:PtJ h (pt b o) X):PtP h (pt b o) X.1:=by
 obtain⟨b,o,s,sp,sf,e,h1,h2,h3,h4,w1,w2⟩:=x
 injection e with e;injection e with e;injection e with e1 e2;subst e1;subst e2
 have k0:=(cell_in (i:=0) h1 (by omega)).1
 have k1:=(cell_in (i:=1) h1 (by omega)).1
 have k2:=(cell_in (i:=2) h1 (by omega)).1
 exact⟨_,_,s,rfl,by simpa using k0,by simpa using k1,by simpa using k2,h2,w1,w2⟩
theorem c138(h:Heap)(hp:0<h.length)(v0:Value)(X0:Jrn)(hv0:Vr h shJournal v0 X0)(hs0:siz shJournal X0<=1048576):
  ACall Gam 138 [v0] h λr h'=>Grows h h'∧r=B (okJ X0):=by
 obtain⟨⟨W,H,br⟩,p,f⟩:=X0
 rw[siz_journal]at hs0
 obtain⟨s,sp,sf,rfl,w1,w2,r1,r2,r3⟩:=hv0.journal
 have rp:Vr h shPanel (.agg #[I W,I H,s]) (W,H,br):=Vr.of_panel w1 w2 r1
 obtain⟨pb,po,pz,rfl,hpm,hpe⟩:=trips_at r2
 obtain⟨fb,fo,fz,rfl,hfm,hfe⟩:=trips_at r3
 rw[maxLen_eq]at hpm hfm
 refine ACall_intro g138 rfl ?_
 unfold fn138
 simp(disch:=omega)
 refine callW_of (c140 _ _ h rp) ?_
 rintro _ h1⟨rfl,rfl⟩
 cases q:okP (W,H,br)
 ·simp[okJ,q]
  exact Grows.refl _
 have ok:=okP_iff.1 q
 have hbl:=ok_len ok
 simp(disch:=omega)[wrap64]
 refine fork_dec (λhgt=>?_) (λhle=>?_)
 ·have:¬p.length+f.length<=50:=by omega
  simp[okJ,q,this]
  exact Grows.refl _
 have hle:p.length+f.length<=50:=by omega
 have eJ:okJ ((W,H,br),p,f)=((runB p.reverse br).isSome&&(runF f br).isSome):=by simp[okJ,q,hle]
 rw[eJ]
 simp(disch:=omega)
 refine callW_of (c150 h1 _ _ hp rp (by simp only;omega)) ?_
 rintro _ h2⟨g2,o2⟩
 obtain⟨so,rfl,_,_,o2⟩:=o2.panel
 obtain⟨bb,zz,rfl,hb⟩:=own_slice o2
 obtain⟨n,hn⟩:∃n,n=br.length:=⟨_,rfl⟩
 rw[<-hn]at hb ⊢
 simp(disch:=omega)[wrap64]
 refine awp_loop (λ(k:Nat) σ h'=>k<=p.length∧Grows h1 h'∧σ 1=.agg #[I W,I H,s,sl pb po p.length pz,sl fb fo f.length fz]∧σ 3=.agg #[I W,I H,sl bb 0 n zz]∧σ 4=I ((p.length:Int)-1-k)∧
  ∃cur:List Int,cur.length=n∧runB (p.reverse.drop k) cur=runB p.reverse br∧(n=0∨h'[bb]?=some ⟨ints cur,true⟩∧h1.length<=bb)) (λk=>p.length-k) 0 ?_ ?_
 ·refine⟨by omega,g2,by simp,by simp,by simp,br,hn.symm,by simp,hb.imp id λe=>⟨e.1,e.2.1⟩⟩
 rintro k σ h'⟨hk,hg,q1,q3,q4,cur,hcl,hrun,hb⟩
 simp(disch:=omega)[q4]
 refine fork_dec (λhlt=>?_) (λhge=>?_)
 ·have k1:k<p.length:=by omega
  obtain⟨j,hj⟩:∃j,j=p.length-1-k:=⟨_,rfl⟩
  have j1:j<p.length:=by omega
  have ej:(p.length:Int)-1-k=(j:Int):=by omega
  have hd:p.reverse.drop k=p[j]::p.reverse.drop (k+1):=by
   rw[List.drop_eq_getElem_cons (by simpa using k1)]
   congr 1
   rw[List.getElem_reverse]
   congr 1
   omega
  rw[hd]at hrun
  have hcell:=grows_cellsAt hg (hpe j j1)
  rw[ej]at q4
  obtain⟨⟨t1,t2,t3⟩,ht⟩:∃t,t=p[j]:=⟨_,rfl⟩
  rw[<-ht]at hrun hcell
  simp only[runB,hcl]at hrun
  simp(disch:=omega)[q1,q3,q4,j1,hcell,trip]
  refine callW_of (c199 h' W H bb 0 n zz (t1,t2,t3) (by rw[maxLen_eq];omega)) ?_
  rintro _ h'⟨rfl,rfl⟩
  cases hs:okStep n (t1,t2,t3)
  ·simp only[hs,Bool.false_and,Bool.false_eq_true,if_false]at hrun
   simp[<-hrun]
   exact hg
  have hso:=okStep_iff.1 hs
  simp only at hso
  have hne:n≠0:=by omega
  obtain⟨hb1,hb2⟩:=hb.resolve_left hne
  obtain⟨t,rfl⟩:=Int.eq_ofNat_of_zero_le hso.1.1
  have htn:t<cur.length:=by omega
  have htn':t<n:=by omega
  have hci:=cell_int hb1 htn
  simp only[hs,Bool.true_and,Int.toNat_natCast]at hrun
  simp(disch:=omega)[q1,q3,q4,hci,htn']
  refine fork_dec (λhe=>?_) (λhe=>?_)
  ·simp only[he,decide_true,if_true]at hrun
   have hst:=store_int (v:=t2) hb1 htn
   simp(disch:=omega)[q1,q3,q4,hst,htn',wrap64]
   refine⟨k+1,⟨by omega,hg.put hb2 _,by omega,cur.set t t2,by simpa using hcl,hrun,.inr ⟨by simp[at_lt hb1],hb2⟩⟩,by omega⟩
  ·simp only[he,decide_false,Bool.false_eq_true,if_false]at hrun
   simp[<-hrun]
   exact hg
 have hkp:k=p.length:=by omega
 rw[List.drop_of_length_le (by simp;omega)]at hrun
 simp only[runB]at hrun
 rw[<-hrun]
 simp(disch:=omega)[q1,q3]
 refine callW_of (c150 h' _ _ (pos_of hp hg) (rp.grow hg) (by simp only;omega)) ?_
 rintro _ h3⟨g3,o3⟩
 obtain⟨so,rfl,_,_,o3⟩:=o3.panel
 obtain⟨bb,zz,rfl,hb⟩:=own_slice o3
 rw[<-hn]at hb ⊢
 simp(disch:=omega)[wrap64,q1,q3]
 refine awp_loop (λ(k:Nat) σ h'=>k<=f.length∧Grows h1 h'∧σ 3=.agg #[I W,I H,sl bb 0 n zz]∧σ 64=sl fb fo f.length fz∧σ 65=I f.length∧σ 66=I k∧
  ∃cur:List Int,cur.length=n∧runF (f.drop k) cur=runF f br∧(n=0∨h'[bb]?=some ⟨ints cur,true⟩∧h1.length<=bb)) (λk=>f.length-k) 0 ?_ ?_
 ·refine⟨by omega,hg.trans g3,by simp,by simp,by simp,by simp,br,hn.symm,by simp,hb.imp id λe=>⟨e.1,by have:=hg.le;omega⟩⟩
 rintro k σ h'⟨hk,hg,q3,q64,q65,q66,cur,hcl,hrun,hb⟩
 simp(disch:=omega)[q65,q66]
 refine fork_dec (λhlt=>?_) (λhge=>?_)
 ·have k1:k<f.length:=by omega
  rw[List.drop_eq_getElem_cons k1]at hrun
  have hcell:=grows_cellsAt hg (hfe k k1)
  obtain⟨⟨t1,t2,t3⟩,ht⟩:∃t,t=f[k]:=⟨_,rfl⟩
  rw[<-ht]at hrun hcell
  simp only[runF,hcl]at hrun
  simp(disch:=omega)[q3,q64,q66,k1,hcell,trip]
  refine callW_of (c199 h' W H bb 0 n zz (t1,t2,t3) (by rw[maxLen_eq];omega)) ?_
  rintro _ h'⟨rfl,rfl⟩
  cases hs:okStep n (t1,t2,t3)
  ·simp only[hs,Bool.false_and,Bool.false_eq_true,if_false]at hrun
   simp[<-hrun]
   exact hg
  have hso:=okStep_iff.1 hs
  simp only at hso
  have hne:n≠0:=by omega
  obtain⟨hb1,hb2⟩:=hb.resolve_left hne
  obtain⟨t,rfl⟩:=Int.eq_ofNat_of_zero_le hso.1.1
  have htn:t<cur.length:=by omega
  have htn':t<n:=by omega
  have hci:=cell_int hb1 htn
  simp only[hs,Bool.true_and,Int.toNat_natCast]at hrun
  simp(disch:=omega)[q3,hci,htn']
  refine fork_dec (λhe=>?_) (λhe=>?_)
  ·simp only[he,decide_true,if_true]at hrun
   have hst:=store_int (v:=t3) hb1 htn
   simp(disch:=omega)[q3,q64,q65,q66,hst,htn',wrap64]
   refine⟨k+1,⟨by omega,hg.put hb2 _,by omega,cur.set t t3,by simpa using hcl,hrun,.inr ⟨by simp[at_lt hb1],hb2⟩⟩,by omega⟩
  ·simp only[he,decide_false,Bool.false_eq_true,if_false]at hrun
   simp[<-hrun]
   exact hg
 have hkp:k=f.length:=by omega
 rw[List.drop_of_length_le (by omega)]at hrun
 simp only[runF]at hrun
 simp[<-hrun]
 exact hg
end Am

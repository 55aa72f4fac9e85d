/- Contracts: AmY2, AmY3, AmY4, AmY9, AmY10, AmY11, AmY5, AmY6, AmY12, AmY14, AmY8, AmY15, AmY16, AmY17, AmY18, AmY19, AmY20, AmY21, AmY22, AmY23, AmY24, AmY25, AmY26, AmY28, AmY29, AmY30, AmY31, AmY32, AmY33. -/
import Derived.Test.YtpgioncclmancaaGreatAmK5
import Derived.Test.YtpgioncclmancaaGreatAmK4
import Derived.Test.YtpgioncclmancaaGreatAmK2
import Derived.Test.YtpgioncclmancaaGreatAmK1
set_option linter.unusedVariables false
set_option linter.unusedSimpArgs false
set_option maxHeartbeats 4000000
set_option maxRecDepth 40000
namespace Am
open Go
def small(c:UInt8):Bool:=decide ((97:Int)<=c.toNat)&&decide ((c.toNat:Int)<=122)
def pTxt(X:Pan):List UInt8:=decS X.1++([120]++(decS X.2.1++([58]++X.2.2.map signB)))
def dgB(W:Int):UInt8:=UInt8.ofNat (48+W.toNat)
theorem dec_side{W:Int}(h:1<=W∧W<=8):decS W=[dgB W]:=by
 unfold decS dgB
 rw[if_neg (by omega),if_neg (by omega),decN_pos (by omega),show W.natAbs/10=0 by omega,decN_zero]
 simp
 congr 1
 omega
theorem dgB_toNat{W:Int}(h:1<=W∧W<=8):(dgB W).toNat=48+W.toNat:=by
 unfold dgB;rw[UInt8.toNat_ofNat'];omega
theorem pTxt_ok{X:Pan}(ok:OkP X):pTxt X=dgB X.1::120::dgB X.2.1::58::X.2.2.map signB:=by
 unfold pTxt;rw[dec_side ok.w,dec_side ok.h];rfl
theorem kind_sign{b:Int}(h:0<=b∧b<=2):kindB (signB b)=b:=by
 have:b=0∨b=1∨b=2:=by omega
 rcases this with rfl|rfl|rfl<;>decide
theorem kind_signs:∀{l:List Int},(∀x∈l,0<=x∧x<=2)->(l.map signB).map kindB=l
 |[],_=>rfl
 |a::l,h=>by
  simp only[List.map_cons]
  rw[kind_sign (h a (by simp)),kind_signs λx hx=>h x (by simp[hx])]
theorem rdDec_dig{W:Int}(h:1<=W∧W<=8):rdDec [dgB W]=(W,true):=by
 have hd:=dgB_toNat h
 have hne:dgB W≠45:=by
  intro e
  have:=congrArg UInt8.toNat e
  rw[hd]at this
  have h45:(45:UInt8).toNat=45:=rfl
  omega
 have e1:dgs [dgB W]=[dgB W]:=by simp[dgs,hne]
 have e2:rdV [dgB W]=W:=by
  simp[rdV,e1,valN,hd];omega
 have e3:rdOk [dgB W]=true:=by
  simp[rdOk,e1,e2,dec_side h,isDig,hd];omega
 unfold rdDec
 rw[e3,e2];rfl
theorem pTxt_idx{X:Pan}(ok:OkP X):idx (pTxt X) 120 0=1∧idx (pTxt X) 58 0=3:=by
 have h1:=dgB_toNat ok.w
 have h2:=dgB_toNat ok.h
 have hw:=ok.w;have hh:=ok.h
 have a:dgB X.1≠120:=by intro e;rw[e]at h1;have:(120:UInt8).toNat=120:=rfl;omega
 have b:dgB X.1≠58:=by intro e;rw[e]at h1;have:(58:UInt8).toNat=58:=rfl;omega
 have c:dgB X.2.1≠58:=by intro e;rw[e]at h2;have:(58:UInt8).toNat=58:=rfl;omega
 rw[pTxt_ok ok]
 simp[idx,a,b,c]
theorem pTxt_inj{X Y:Pan}(a:OkP X)(b:OkP Y)(h:pTxt X=pTxt Y):X=Y:=by
 rw[pTxt_ok a,pTxt_ok b]at h
 simp only[List.cons.injEq,true_and]at h
 obtain⟨h1,h2,h3⟩:=h
 have e1:=dgB_toNat a.w
 have e2:=dgB_toNat b.w
 have e3:=dgB_toNat a.h
 have e4:=dgB_toNat b.h
 rw[h1]at e1
 rw[h2]at e3
 have q1:=a.w;have q2:=b.w;have q3:=a.h;have q4:=b.h
 have e5:=kind_signs a.b
 rw[h3,kind_signs b.b]at e5
 obtain⟨W,H,br⟩:=X
 obtain⟨W',H',br'⟩:=Y
 simp only at*
 rw[show W=W' by omega,show H=H' by omega,e5]
open Classical in
/-- The panel with a text; false if there is none. -/
noncomputable def readAns(s:List UInt8):Pan×Bool:=if e:∃X,OkP X∧pTxt X=s then(Classical.choose e,true)else((0,0,[]),false)
theorem readAns_some{X:Pan}(ok:OkP X):readAns (pTxt X)=(X,true):=by
 have e:∃Y,OkP Y∧pTxt Y=pTxt X:=⟨X,ok,rfl⟩
 unfold readAns
 rw[dif_pos e]
 have:=Classical.choose_spec e
 rw[pTxt_inj this.1 ok this.2]
theorem readAns_none{s:List UInt8}(h:∀X,OkP X->pTxt X≠s):readAns s=((0,0,[]),false):=by
 unfold readAns
 rw[dif_neg]
 rintro⟨X,a,b⟩
 exact h X a b
theorem readAns_cases(s:List UInt8):(∃X,OkP X∧pTxt X=s∧readAns s=(X,true))∨((∀X,OkP X->pTxt X≠s)∧readAns s=((0,0,[]),false)):=by
 by_cases e:∃X,OkP X∧pTxt X=s
 ·obtain⟨X,a,b⟩:=e
  subst b
  exact .inl ⟨X,a,rfl,readAns_some a⟩
 ·right
  have:∀X,OkP X->pTxt X≠s:=λX a b=>e ⟨X,a,b⟩
  exact⟨this,readAns_none this⟩
def rpX(s:List UInt8):Nat:=(idx s 120 0).toNat
def rpC(s:List UInt8):Nat:=(idx s 58 0).toNat
def rpBad(s:List UInt8):Prop:=idx s 120 0<0∨idx s 58 0<idx s 120 0∨(129:Int)<s.length-idx s 58 0
def rpP(s:List UInt8):Pan:=((rdDec (s.take (rpX s))).1,(rdDec ((s.take (rpC s)).drop (rpX s+1))).1,(s.drop (rpC s+1)).map kindB)
def rpOk(s:List UInt8):Bool:=(rdDec (s.take (rpX s))).2&&((rdDec ((s.take (rpC s)).drop (rpX s+1))).2&&(okP (rpP s)&&decide (pTxt (rpP s)=s)))
theorem pTxt_len{X:Pan}(ok:OkP X):(pTxt X).length=4+X.2.2.length:=by rw[pTxt_ok ok];simp;omega
theorem rp_text{X:Pan}(ok:OkP X):¬rpBad (pTxt X)∧rpP (pTxt X)=X∧rpOk (pTxt X)=true:=by
 obtain⟨i1,i2⟩:=pTxt_idx ok
 have hl:=pTxt_len ok
 have h128:=ok.siz
 have x1:rpX (pTxt X)=1:=by unfold rpX;rw[i1];rfl
 have x2:rpC (pTxt X)=3:=by unfold rpC;rw[i2];rfl
 have d1:(rdDec ((pTxt X).take 1))=(X.1,true):=by rw[pTxt_ok ok];exact rdDec_dig ok.w
 have d2:(rdDec (((pTxt X).take 3).drop 2))=(X.2.1,true):=by rw[pTxt_ok ok];exact rdDec_dig ok.h
 have d3:((pTxt X).drop 4).map kindB=X.2.2:=by rw[pTxt_ok ok];exact kind_signs ok.b
 have eP:rpP (pTxt X)=X:=by
  unfold rpP;rw[x1,x2,d1,d2,d3]
 refine⟨?_,eP,?_⟩
 ·unfold rpBad;rw[i1,i2,hl];omega
 ·unfold rpOk
  rw[eP,x1,x2,d1,d2,okP_iff.2 ok];simp
theorem rp_bad{s:List UInt8}(h:rpBad s):readAns s=((0,0,[]),false):=readAns_none λX ok e=>(rp_text ok).1 (e▸h)
theorem rp_yes{s:List UInt8}(h:rpOk s=true):readAns s=(rpP s,true):=by
 simp only[rpOk,Bool.and_eq_true,decide_eq_true_eq]at h
 have:=readAns_some (okP_iff.1 h.2.2.1)
 rw[h.2.2.2]at this
 exact this
theorem rp_no{s:List UInt8}(h:rpOk s=false):readAns s=((0,0,[]),false):=readAns_none λX ok e=>by
 have:=(rp_text ok).2.2
 rw[e,h]at this;cases this
theorem splitG_one{b:UInt8}:∀{s cur t:List UInt8},b∉s->splitG b cur (s++b::t)=(cur++s)::splitG b [] t
 |[],cur,t,_=>by simp[splitG]
 |c::r,cur,t,h=>by
  simp only[List.mem_cons,not_or]at h
  simp only[List.cons_append,splitG]
  rw[if_neg (λe=>h.1 e.symm),splitG_one h.2];simp
def pTxtK(X:Pan)(k:Nat):List UInt8:=dgB X.1::120::dgB X.2.1::58::(X.2.2.take k).map signB
theorem pTxtK_len(X:Pan)(k:Nat)(hk:k<=X.2.2.length):(pTxtK X k).length=4+k:=by simp[pTxtK];omega
theorem pTxtK_succ{X:Pan}{k:Nat}(hk:k<X.2.2.length):pTxtK X (k+1)=pTxtK X k++[signB X.2.2[k]]:=by
 unfold pTxtK;rw[List.take_succ_eq_append_getElem hk,List.map_append];rfl
theorem okBr_of{b:Int}(h:0<=b∧b<=2):okBr b=true:=by unfold okBr;rw[inR_iff];exact h
theorem c182(v:Value)(X:Pan)(h:Heap)(hp:0<h.length)(hv:Vr h shPanel v X)(ok:OkP X):ACall Gam 182 [v] h λr h'=>r=S (pTxt X)∧Grows h h':=by
 have h128:=ok.siz
 have ok0:=ok
 have hT:=pTxt_ok ok
 obtain⟨W,H,br⟩:=X
 obtain⟨s,rfl,w1,w2,r⟩:=hv.panel
 obtain⟨qW,qH,qn,qb⟩:=ok
 obtain⟨b2,o2,z,rfl,_,hm,hx,hc⟩:=r.ints
 simp only at qW qH qn qb h128
 refine ACall_intro g182 rfl ?_
 unfold fn182
 simp(disch:=omega)
 refine callW_of (c75 W w1 h hp) ?_
 rintro _ h1⟨rfl,g1⟩
 rw[dec_side qW]
 simp(disch:=omega)
 refine callW_of (c75 H w2 h1 (by have:=g1.le;omega)) ?_
 rintro _ h2⟨rfl,g2⟩
 rw[dec_side qH]
 simp(disch:=omega)
 have g12:=g1.trans g2
 refine awp_loop (λk σ h'=>h'=h2∧k<=br.length∧σ 3=S (pTxtK (W,H,br) k)∧σ 16=sl b2 o2 br.length z∧σ 17=I br.length∧σ 18=I k) (λk=>br.length-k) 0 ?_ ?_
 ·simp[pTxtK]
 ·rintro k σ h'⟨rfl,hk,q3,q16,q17,q18⟩
  have hl:=pTxtK_len (W,H,br) k hk
  simp(disch:=omega)[q17,q18]
  refine fork_dec (λhlt=>?_) (λhge=>?_)
  ·have k1:k<br.length:=by omega
   have hcell:=ints_cell (hc.imp id (grows_cellsAt g12)) k1
   have hb:=qb _ (List.getElem_mem k1)
   have hm:=mark_slice (h:=h') (okBr_of hb)
   have hst:=pTxtK_succ (X:=(W,H,br)) k1
   simp only at hst
   have hle4:4+k<=4611686018427387903:=by omega
   simp(disch:=omega)[q3,q16,q17,q18,k1,hcell,wrap64,hm,hl,hle4]
   exact⟨k+1,⟨by omega,by rw[hst],by omega⟩,by omega⟩
  ·have:k=br.length:=by omega
   subst this
   simp(disch:=omega)[q3,hT,pTxtK]
   exact g12
theorem append_num{h:Heap}{lo hi:Nat}{v:Value}{l:List Int}{a:Int}{K:Value->Heap->Prop}(hp:0<lo)(hl:l.length<=1048576)(hv:Bf h lo hi v 1 (ints l))
  (hK:∀v' h'',Mod lo hi h h''->Bf h'' h.length h''.length v' 1 (ints (l++[a]))->K v' h''):
  bindW (aBuildSlice 1 1 h [(0,.agg #[I 0]),(1,I a)]) λy h''=>bindW (aAppend 1 h'' y v) K:=by
 have e:aBuildSlice 1 1 h [(0,.agg #[I 0]),(1,I a)]=some (sl h.length 0 1 1,h++[⟨[I a],true⟩]):=by simp[aBuildSlice]
 rw[e]
 simp only[bindW_some]
 refine append_bf hp (hv.grow ⟨_,rfl⟩) (new:=[I a]) ?_ (by omega) (by simp) (by simp) (by simp[ints,maxSize];omega) ?_
 ·simp[newCells]
  rw[cellsAt_of (k:=⟨[I a],true⟩) (by simp) (by simp)]
  simp
 ·intro v' h'' m1 b1
  refine hK v' h'' ((Mod.push _).trans m1) ?_
  rw[ints_append]
  exact b1.wide (by simp) (Nat.le_refl _)
theorem kinds_64(l:List UInt8):∀x∈l.map kindB,I64 x:=by
 intro x hx
 obtain⟨c,_,rfl⟩:=List.mem_map.1 hx
 exact kindB_64 c
theorem kinds_take{l:List UInt8}{k:Nat}(hk:k<l.length):(l.map kindB).take (k+1)=(l.map kindB).take k++[kindB l[k]]:=by
 rw[List.take_succ_eq_append_getElem (by simpa using hk)];simp
theorem idx_rng:∀(s:List UInt8) (c:UInt8) (i:Nat),-1<=idx s c i∧idx s c i<i+s.length∧(idx s c i=-1∨(i:Int)<=idx s c i)
 |[],c,i=>by simp[idx];omega
 |x::r,c,i=>by
  simp only[idx]
  split
  ·simp only[List.length_cons];omega
  ·have:=idx_rng r c (i+1)
   simp only[List.length_cons];omega
theorem idx_at:∀(s:List UInt8) (c:UInt8) (i n:Nat),idx s c i=((i+n:Nat):Int)->s[n]?=some c
 |[],c,i,n,h=>by simp only[idx]at h;omega
 |x::r,c,i,n,h=>by
  simp only[idx]at h
  split at h
  ·rename_i e
   have:n=0:=by omega
   subst this;simp[e]
  ·have h1:=idx_rng r c (i+1)
   obtain⟨m,rfl⟩:∃m,n=m+1:=⟨n-1,by omega⟩
   have:=idx_at r c (i+1) m (by rw[h];congr 1;omega)
   simpa using this
theorem c122(h:Heap)(hp:0<h.length)(s:List UInt8)(hs:s.length<=1048576):ACall Gam 122 [S s] h λr h'=>Grows h h'∧∃r0,r=.tuple #[r0,B (readAns s).2]∧Vo h' h.length h'.length shPanel r0 (readAns s).1:=by
 obtain⟨i1,i2,i3⟩:=idx_rng s 120 0
 obtain⟨j1,j2,j3⟩:=idx_rng s 58 0
 refine ACall_intro g122 rfl ?_
 unfold fn122
 simp(disch:=omega)
 refine callW_of (c183 s hs 120 h) ?_
 rintro _ h⟨rfl,rfl⟩
 try refine⟨λe=>(by cases e),?_⟩
 simp(disch:=omega)
 refine callW_of (c183 s hs 58 h) ?_
 rintro _ h⟨rfl,rfl⟩
 try refine⟨λe=>(by cases e),?_⟩
 obtain⟨x,hx⟩:∃x,x=idx s 120 0:=⟨_,rfl⟩
 obtain⟨c,hc⟩:∃c,c=idx s 58 0:=⟨_,rfl⟩
 rw[<-hx]at i1 i2 i3 ⊢
 rw[<-hc]at j1 j2 j3 ⊢
 have bad:x<0∨c<x∨(129:Int)<s.length-c->readAns s=((0,0,[]),false):=λq=>rp_bad (by unfold rpBad;rw[<-hx,<-hc];exact q)
 by_cases b1:x<0
 ·have rs':=bad (.inl b1)
  rw[rs']
  simp(disch:=omega)[b1,resOf,resAll,resOne,aField]
  exact⟨Grows.refl _,Vo.zero_panel⟩
 by_cases b2:c<x
 ·have rs':=bad (.inr (.inl b2))
  rw[rs']
  simp(disch:=omega)[b1,b2,resOf,resAll,resOne,aField]
  exact⟨Grows.refl _,Vo.zero_panel⟩
 by_cases b3:(129:Int)<s.length-c
 ·have rs':=bad (.inr (.inr b3))
  rw[rs']
  simp(disch:=omega)[b1,b2,b3,wrap64,resOf,resAll,resOne,aField]
  exact⟨Grows.refl _,Vo.zero_panel⟩
 obtain⟨xn,rfl⟩:=Int.eq_ofNat_of_zero_le (show 0<=x by omega)
 obtain⟨cn,rfl⟩:=Int.eq_ofNat_of_zero_le (show 0<=c by omega)
 have ex:rpX s=xn:=by unfold rpX;rw[<-hx];rfl
 have ec:rpC s=cn:=by unfold rpC;rw[<-hc];rfl
 have hxc:xn+1<=cn:=by
  have:xn≠cn:=by
   rintro rfl
   have a1:=idx_at s 120 0 xn (by rw[<-hx];simp)
   have a2:=idx_at s 58 0 xn (by rw[<-hc];simp)
   rw[a1]at a2
   simp at a2
  omega
 have hcl:cn<=s.length:=by omega
 have hP:rpP s=((rdDec (s.take xn)).1,(rdDec ((s.take cn).drop (xn+1))).1,(s.drop (cn+1)).map kindB):=by unfold rpP;rw[ex,ec]
 have hOk:rpOk s=((rdDec (s.take xn)).2&&((rdDec ((s.take cn).drop (xn+1))).2&&(okP (rpP s)&&decide (pTxt (rpP s)=s)))):=by unfold rpOk;rw[ex,ec]
 have b1':¬((xn:Nat):Int)<0:=by omega
 have s1:=slice_to (h:=h) (s:=s) (b:=xn) (by omega)
 simp(disch:=omega)[b1',b2,b3,wrap64,s1]
 refine callW_of (c118 (s.take xn) (by simp;omega) h hp) ?_
 rintro _ h1⟨g1,rfl⟩
 try refine⟨λe=>(by cases e),?_⟩
 have l1:=g1.le
 obtain⟨x1,hx1⟩:∃x1,x1=xn+1:=⟨_,rfl⟩
 rw[<-hx1]at hP hOk hxc
 have s2:=slice_text (h:=h1) (s:=s) (a:=x1) (b:=cn) (by omega) (by omega)
 have e1:(xn:Int)+1=(x1:Int):=by omega
 simp(disch:=omega)[wrap64,e1,s2]
 refine callW_of (c118 ((s.take cn).drop x1) (by simp;omega) h1 (by omega)) ?_
 rintro _ h2⟨g2,rfl⟩
 try refine⟨λe=>(by cases e),?_⟩
 have g12:=g1.trans g2
 have l2:=g12.le
 have i64a:=rdDec_64 (s.take xn)
 have i64b:=rdDec_64 ((s.take cn).drop x1)
 obtain⟨c1,hc1⟩:∃c1,c1=cn+1:=⟨_,rfl⟩
 have e2:(cn:Int)+1=(c1:Int):=by omega
 rw[<-hc1]at hP
 simp(disch:=omega)[wrap64,e2]
 refine awp_loop (λ(k:Nat) σ h'=>c1+k<=s.length∧Grows h2 h'∧σ 0=S s∧σ 2=.agg #[I 0,I 0,sl 0 0 0 0]∧σ 7=B (rdDec (s.take xn)).2∧σ 9=B (rdDec ((s.take cn).drop x1)).2∧σ 11=I ((c1:Int)+k)∧∃q,σ 10=.agg #[I (rdDec (s.take xn)).1,I (rdDec ((s.take cn).drop x1)).1,q]∧Bf h' h2.length h'.length q 1 (ints (((s.drop c1).map kindB).take k))) (λk=>s.length-k) 0 ?_ ?_
 ·refine⟨by omega,Grows.refl _,by simp,by simp,by simp,by simp,by simp,sl 0 0 0 0,by simp,?_⟩
  simp[ints];exact Bf.nil
 ·rintro k σ h'⟨hk,g,q0,q2,q7,q9,q11,q,q10,bf⟩
  have lg:=g.le
  simp(disch:=omega)[q0,q11]
  refine fork_dec (λhlt=>?_) (λhge=>?_)
  ·have k1:c1+k<s.length:=by omega
   have kl:k<(s.drop c1).length:=by rw[List.length_drop];omega
   have hat:=at8_of k1
   have hea:=at8_eq k1
   have hkt:=kinds_take kl
   have hd:(s.drop c1)[k]=at8 s (c1+k):=by rw[List.getElem_drop];exact hea
   rw[hd]at hkt
   have t1:((c1:Int)+k).toNat=c1+k:=by omega
   have t2:(0:Int)<=(c1:Int)+k:=by omega
   have t3:(c1:Int)+k<s.length:=by omega
   simp(disch:=omega)[q0,q10,q11,k1,hat,hea,t1,t2,t3]
   refine callW_of (c174 _ h') ?_
   rintro _ h'⟨rfl,rfl⟩
   try refine⟨λe=>(by cases e),?_⟩
   try simp(disch:=omega)
   refine append_num (by omega) (by simp;omega) bf λv2 h5 m5 b5=>?_
   have g5:=m5.grows g (Nat.le_refl _)
   have l5:=m5.1
   obtain⟨vb5,vn5,vz5,ev⟩:=b5.sl
   subst ev
   simp(disch:=omega)[q0,q2,q7,q9,q10,q11,wrap64]
   refine⟨k+1,⟨by omega,g5,by omega,?_⟩,by omega⟩
   rw[<-List.map_drop,hkt]
   exact b5.wide (by omega) (Nat.le_refl _)
  ·have ek:(s.drop c1).length<=k:=by rw[List.length_drop];omega
   rw[List.take_of_length_le (by rw[List.length_map];exact ek)]at bf
   have vo:=bf.ints (by rw[List.length_map,List.length_drop,maxLen_eq];omega) (kinds_64 _)
   have vp:Vo h' h2.length h'.length shPanel (.agg #[I (rdDec (s.take xn)).1,I (rdDec ((s.take cn).drop x1)).1,q]) (rpP s):=by
    rw[hP];exact Vo.of_panel i64a i64b vo
   have vw:=vp.wide l2 (Nat.le_refl _)
   have gg:=g12.trans g
   have lh:=gg.le
   obtain⟨vb5,vn5,vz5,ev⟩:=bf.sl
   subst ev
   simp(disch:=omega)
   cases r1:(rdDec (s.take xn)).2
   ·have rs':readAns s=((0,0,[]),false):=rp_no (by rw[hOk,r1];rfl)
    rw[rs']
    simp(disch:=omega)[q2,q7,q9,q10,r1,resOf,resAll,resOne,aField]
    exact⟨gg,Vo.zero_panel⟩
   cases r2:(rdDec ((s.take cn).drop x1)).2
   ·have rs':readAns s=((0,0,[]),false):=rp_no (by rw[hOk,r1,r2];rfl)
    rw[rs']
    simp(disch:=omega)[q2,q7,q9,q10,r1,r2,resOf,resAll,resOne,aField]
    exact⟨gg,Vo.zero_panel⟩
   simp(disch:=omega)[q2,q7,q9,q10,r1,r2]
   refine callW_of (c140 _ (rpP s) h' vp.vr) ?_
   rintro _ h'⟨rfl,rfl⟩
   try refine⟨λe=>(by cases e),?_⟩
   cases r3:okP (rpP s)
   ·have rs':readAns s=((0,0,[]),false):=rp_no (by rw[hOk,r1,r2,r3];rfl)
    rw[rs']
    simp(disch:=omega)[q2,q7,q9,q10,r1,r2,resOf,resAll,resOne,aField]
    exact⟨gg,Vo.zero_panel⟩
   simp(disch:=omega)[q0,q2,q7,q9,q10,r1,r2]
   refine callW_of (c182 _ (rpP s) h' (by omega) vp.vr (okP_iff.1 r3)) ?_
   rintro _ h6⟨rfl,g6⟩
   try refine⟨λe=>(by cases e),?_⟩
   by_cases r4:pTxt (rpP s)=s
   ·have rs':readAns s=(rpP s,true):=rp_yes (by rw[hOk,r1,r2,r3];simp[r4])
    rw[rs']
    simp(disch:=omega)[q0,q2,q7,q9,q10,r4,resOf,resAll,resOne,aField]
    exact⟨gg.trans g6,(vw.grow g6).wide (Nat.le_refl _) g6.le⟩
   ·have rs':readAns s=((0,0,[]),false):=rp_no (by rw[hOk,r1,r2,r3];simp[r4])
    rw[rs']
    simp(disch:=omega)[q0,q2,q7,q9,q10,r4,resOf,resAll,resOne,aField]
    exact⟨gg.trans g6,Vo.zero_panel⟩
theorem c58(h:Heap)(x y dx dy:Int)(bx:-100<=x∧x<=100)(bY:-100<=y∧y<=100)(bd:-100<=dx∧dx<=100)(be:-100<=dy∧dy<=100):ACall Gam 58 [.agg #[I x,I y,I dx,I dy]] h λr h'=>r=.agg #[I (x+dx),I (y+dy)]∧h'=h:=by
 refine ACall_intro g58 rfl ?_
 unfold fn58
 simp(disch:=omega)[wrap64,resOf_box,aField]
theorem c34(h:Heap)(W H x y:Int)(s:Value)(w:1<=W∧W<=8)(hh:1<=H∧H<=8):ACall Gam 34 [.agg #[I W,I H,s],.agg #[I x,I y]] h λr h'=>r=B (decide (edgeW W.toNat H.toNat x y))∧h'=h:=by
 refine ACall_intro g34 rfl ?_
 unfold fn34
 have w1:(W.toNat:Int)=W:=by omega
 have w2:(H.toNat:Int)=H:=by omega
 have n1:¬2*W=0:=by omega
 have n2:¬2*H=0:=by omega
 have n3:¬W=0:=by omega
 have n4:¬H=0:=by omega
 by_cases e1:x=0
 ·simp(disch:=omega)[e1,wrap64,edgeW,w1,w2,n1,n2,n3,n4]
 by_cases e2:x=2*W
 ·simp(disch:=omega)[e1,e2,wrap64,edgeW,w1,w2,n1,n2,n3,n4]
 by_cases e3:y=0
 ·simp(disch:=omega)[e1,e2,e3,wrap64,edgeW,w1,w2,n1,n2,n3,n4]
 by_cases e4:y=2*H
 ·simp(disch:=omega)[e1,e2,e3,e4,wrap64,edgeW,w1,w2,n1,n2,n3,n4]
 simp(disch:=omega)[e1,e2,e3,e4,wrap64,edgeW,w1,w2,n1,n2,n3,n4]
/-- A walker. -/
def wv(w:Wk):Value:=.agg #[I w.1,I w.2.1,I w.2.2.1,I w.2.2.2]
theorem c51(h:Heap)(W H:Int)(s:Value)(w:1<=W∧W<=8)(hh:1<=H∧H<=8):ACall Gam 51 [.agg #[I W,I H,s]] h λr h'=>r=I (4*W.toNat*H.toNat:Nat)∧h'=h:=by
 have b:0<=W*H∧W*H<=8*8:=⟨Int.mul_nonneg (by omega) (by omega),Int.mul_le_mul (by omega) (by omega) (by omega) (by omega)⟩
 have w1:(W.toNat:Int)=W:=by omega
 have w2:(H.toNat:Int)=H:=by omega
 have w3:max W 0=W:=by omega
 have w4:max H 0=H:=by omega
 refine ACall_intro g51 rfl ?_
 unfold fn51
 simp(disch:=omega)[wrap64,Int.mul_assoc,w1,w2,w3,w4]
theorem c50(h:Heap)(W H:Int)(s:Value)(x y dx dy:Int)(w:1<=W∧W<=8)(hh:1<=H∧H<=8)(hw:OkW W.toNat H.toNat (x,y,dx,dy)):ACall Gam 50 [.agg #[I W,I H,s],.agg #[I x,I y,I dx,I dy]] h λr h'=>r=I (segW H.toNat (x,y,dx,dy))∧h'=h:=by
 have hc:=seg_cast hw
 obtain⟨⟨s1,s2⟩,s3,s4⟩:=seg_bd hw
 obtain⟨d1,d2,p1,p2,p3,p4,p5⟩:=hw
 simp only at*
 have w2:(H.toNat:Int)=H:=by omega
 have w1:(W.toNat:Int)=W:=by omega
 rw[w2]at hc
 rw[hc]
 have bm:∀a:Int,0<=a->a<=17->0<=a*(2*H)∧a*(2*H)<=17*(2*8):=λa h1 h2=>⟨Int.mul_nonneg (by omega) (by omega),Int.mul_le_mul (by omega) (by omega) (by omega) (by omega)⟩
 have e1:aMin [I x,I (x+dx)]=some (I (minI x (x+dx))):=by
  show some (I (if x+dx<x then x+dx else x))=_
  congr 2;unfold minI;split<;>split<;>omega
 have e2:aMin [I y,I (y+dy)]=some (I (minI y (y+dy))):=by
  show some (I (if y+dy<y then y+dy else y))=_
  congr 2;unfold minI;split<;>split<;>omega
 have b1:=bm (minI x (x+dx)) (by omega) (by omega)
 refine ACall_intro g50 rfl ?_
 unfold fn50
 simp(disch:=omega)
 refine callW_of (c58 h x y dx dy (by omega) (by omega) (by omega) (by omega)) ?_
 rintro _ h'⟨rfl,rfl⟩
 simp(disch:=omega)[wrap64,Int.mul_assoc,e1,e2]
theorem c56(h:Heap)(W H:Int)(s:Value)(k:Nat)(w:1<=W∧W<=8)(hh:1<=H∧H<=8)(hk:k<4*W.toNat*H.toNat):ACall Gam 56 [.agg #[I W,I H,s],I k] h λr h'=>r=wv (wkW H.toNat k)∧h'=h:=by
 have w2:(H.toNat:Int)=H:=by omega
 have b:k<256:=by
  have:4*W.toNat*H.toNat<=4*8*8:=Nat.mul_le_mul (by omega) (by omega)
  omega
 have t1:(k:Int).tdiv (2*H)=((k/(2*H.toNat):Nat):Int):=by
  rw[show(2*H:Int)=((2*H.toNat:Nat):Int)by omega];rfl
 have t2:(k:Int).tmod (2*H)=((k%(2*H.toNat):Nat):Int):=by
  rw[show(2*H:Int)=((2*H.toNat:Nat):Int)by omega];rfl
 have q1:k/(2*H.toNat)<=256:=by have:=Nat.div_le_self k (2*H.toNat);omega
 have q2:k%(2*H.toNat)<2*H.toNat:=Nat.mod_lt _ (by omega)
 have h0:¬2*H=0:=by omega
 have h0':¬H=0:=by omega
 unfold wkW
 obtain⟨q,eq⟩:∃q,q=k/(2*H.toNat):=⟨_,rfl⟩
 obtain⟨r,er⟩:∃r,r=k%(2*H.toNat):=⟨_,rfl⟩
 rw[<-eq]at t1 q1 ⊢
 rw[<-er]at t2 q2 ⊢
 have t3:((q:Int)+r).tmod 2=(((q+r)%2:Nat):Int):=rfl
 refine ACall_intro g56 rfl ?_
 unfold fn56
 simp(disch:=omega)[wrap64,t1,t2,h0,h0']
 by_cases e:(q+r)%2=1
 ·rw[if_pos e]
  have t3:((q:Int)+r).tmod 2=1:=by rw[t3,e];rfl
  simp(disch:=omega)[t3,wrap64,resOf_box,aField,wv]
 ·rw[if_neg e]
  have t3:¬((q:Int)+r).tmod 2=1:=by rw[t3];omega
  simp(disch:=omega)[t3,wrap64,resOf_box,aField,wv]
theorem c54(h:Heap)(W H:Int)(br:List Int)(s:Value)(x y dx dy:Int)(ok:OkP (W,H,br))(hr:Vr h shInts s br)(hw:OkW W.toNat H.toNat (x,y,dx,dy)):ACall Gam 54 [.agg #[I W,I H,s],.agg #[I x,I y,I dx,I dy]] h λr h'=>(∃t,r=.tuple #[wv (stepW W.toNat H.toNat br (x,y,dx,dy)),B t])∧h'=h:=by
 obtain⟨b2,o2,z2,rfl,_,hm,_,hc⟩:=hr.ints
 obtain⟨w,hh,hn,_⟩:=ok
 obtain⟨d1,d2,p1,p2,p3,p4,p5⟩:=hw
 simp only at*
 have n1:¬2*W=0:=by omega
 have n2:¬2*H=0:=by omega
 have n3:¬W=0:=by omega
 have n4:¬H=0:=by omega
 have w2:(H.toNat:Int)=H:=by omega
 have w1:(W.toNat:Int)=W:=by omega
 refine ACall_intro g54 rfl ?_
 unfold fn54
 rw[awp_seq,awp_reg]
 generalize hK:seqQ Gam _ _ 0=K
 simp(disch:=omega)
 subst hK
 simp only[seqQ_zero]
 rw[awp_seq,awp_reg]
 generalize hK:seqQ Gam _ _ 0=K
 simp(disch:=omega)
 refine callW_of (c58 h x y dx dy (by omega) (by omega) (by omega) (by omega)) ?_
 rintro _ h'⟨rfl,rfl⟩
 simp(disch:=omega)
 subst hK
 simp only[seqQ_zero]
 rw[awp_seq,awp_reg]
 generalize hK:seqQ Gam _ _ 0=K
 simp(disch:=omega)
 subst hK
 simp only[seqQ_zero]
 rw[awp_seq,awp_reg]
 generalize hK:seqQ Gam _ _ 0=K
 simp(disch:=omega)
 obtain⟨nx,enx⟩:∃nx,nx=x+dx:=⟨_,rfl⟩
 obtain⟨ny,eny⟩:∃ny,ny=y+dy:=⟨_,rfl⟩
 have es:wv (stepW W.toNat H.toNat br (x,y,dx,dy))=.agg #[I nx,I ny,I (if nx=0∨nx=2*W∨kindW W.toNat H.toNat br nx ny=1 then -dx else dx),I (if ny=0∨ny=2*H∨kindW W.toNat H.toNat br nx ny=2 then -dy else dy)]:=by
  simp only[stepW,wv,enx,eny,w1,w2]
 rw[es]at hK
 rw[<-enx]at p3 ⊢
 rw[<-eny]at p4 ⊢
 have c4:=c34 h' W H nx ny (sl b2 o2 br.length z2) w hh
 obtain⟨k,ek⟩:∃k,k=kindW W.toNat H.toNat br nx ny:=⟨_,rfl⟩
 rw[<-ek]at hK
 subst hK
 simp only[seqQ_zero]
 rw[awp_seq]
 generalize hK:seqQ Gam _ _=K
 have key:∀σ':Nat->Value,σ' 2=.agg #[I W,I H,sl b2 o2 br.length z2]->σ' 3=.agg #[I x,I y,I dx,I dy]->σ' 4=.agg #[I 0,I 0,I 0,I 0]->σ' 6=.agg #[I nx,I ny]->σ' 7=.agg #[I nx,I ny,I dx,I dy]->σ' 8=I k->K 0 σ' h':=by
  intro σ q2 q3 q4 q6 q7 q8
  subst hK
  simp only[seqQ_zero]
  rw[awp_seq]
  generalize hK:seqQ Gam _ _=K
  have key2:∀σ':Nat->Value,σ' 2=.agg #[I W,I H,sl b2 o2 br.length z2]->σ' 3=.agg #[I x,I y,I dx,I dy]->σ' 4=.agg #[I 0,I 0,I 0,I 0]->σ' 6=.agg #[I nx,I ny]->σ' 7=.agg #[I nx,I ny,I (if nx=0∨nx=2*W∨k=1 then -dx else dx),I dy]->σ' 8=I k->K 0 σ' h':=by
   intro σ q2 q3 q4 q6 q7 q8
   subst hK
   simp only[seqQ_zero]
   rw[awp_seq]
   generalize hK:seqQ Gam _ _=K
   have key3:∀σ':Nat->Value,σ' 3=.agg #[I x,I y,I dx,I dy]->σ' 4=.agg #[I 0,I 0,I 0,I 0]->σ' 7=.agg #[I nx,I ny,I (if nx=0∨nx=2*W∨k=1 then -dx else dx),I (if ny=0∨ny=2*H∨k=2 then -dy else dy)]->K 0 σ' h':=by
    intro σ q3 q4 q7
    subst hK
    simp only[seqQ_zero]
    generalize (if nx=0∨nx=2*W∨k=1 then -dx else dx)=D at*
    generalize (if ny=0∨ny=2*H∨k=2 then -dy else dy)=E at*
    by_cases e1:D=dx
    ·by_cases e2:E=dy
     ·simp(disch:=omega)[q3,q4,q7,e1,e2,resOf,resAll,resOne,aField]
     ·simp(disch:=omega)[q3,q4,q7,e1,e2,resOf,resAll,resOne,aField]
    ·simp(disch:=omega)[q3,q4,q7,e1,resOf,resAll,resOne,aField]
   by_cases e1:ny=0
   ·simp(disch:=omega)[q2,q3,q4,q6,q7,q8,wrap64,e1]
    exact key3 _ (by simp[q3]) (by simp[q4]) (by simp[e1])
   by_cases e2:ny=2*H
   ·simp(disch:=omega)[q2,q3,q4,q6,q7,q8,wrap64,e1,e2,n2,n4]
    exact key3 _ (by simp[q3]) (by simp[q4]) (by simp[e2])
   by_cases e3:k=2
   ·simp(disch:=omega)[q2,q3,q4,q6,q7,q8,wrap64,e1,e2,e3,n2,n4]
    exact key3 _ (by simp[q3]) (by simp[q4]) (by simp[e3])
   simp(disch:=omega)[q2,q3,q4,q6,q7,q8,wrap64,e1,e2,e3,n2,n4]
   exact key3 _ (by simp[q3]) (by simp[q4]) (by simp[q7,e1,e2,e3])
  by_cases e1:nx=0
  ·simp(disch:=omega)[q2,q3,q4,q6,q7,q8,wrap64,e1]
   exact key2 _ (by simp[q2]) (by simp[q3]) (by simp[q4]) (by simp[q6,e1]) (by simp[e1]) (by simp[q8])
  by_cases e2:nx=2*W
  ·simp(disch:=omega)[q2,q3,q4,q6,q7,q8,wrap64,e1,e2,n1,n3]
   exact key2 _ (by simp[q2]) (by simp[q3]) (by simp[q4]) (by simp[q6,e2]) (by simp[e2]) (by simp[q8])
  by_cases e3:k=1
  ·simp(disch:=omega)[q2,q3,q4,q6,q7,q8,wrap64,e1,e2,e3,n1,n3]
   exact key2 _ (by simp[q2]) (by simp[q3]) (by simp[q4]) (by simp[q6]) (by simp[e3]) (by simp[q8,e3])
  simp(disch:=omega)[q2,q3,q4,q6,q7,q8,wrap64,e1,e2,e3,n1,n3]
  exact key2 _ (by simp[q2]) (by simp[q3]) (by simp[q4]) (by simp[q6]) (by simp[q7,e1,e2,e3]) (by simp[q8])
 by_cases E:edgeW W.toNat H.toNat nx ny
 ·have k0:k=0:=by rw[ek];exact kindW_edge E
  rw[decide_eq_true E]at c4
  simp(disch:=omega)
  refine callW_of c4 ?_
  rintro _ h''⟨rfl,rfl⟩
  simp(disch:=omega)
  exact key _ (by simp) (by simp) (by simp) (by simp) (by simp) (by simp[k0])
 ·have ek':k=at0 br (numP W.toNat nx.toNat ny.toNat):=by rw[ek];exact if_neg E
  have E':¬(nx=0∨nx=2*W∨ny=0∨ny=2*H):=by
   intro e;apply E;unfold edgeW;rw[w1,w2];exact e
  rw[decide_eq_false E]at c4
  have b1:(nx.toNat:Int)=nx:=by omega
  have b2':(ny.toNat:Int)=ny:=by omega
  have hnum:=numP_lt (W:=W.toNat) (H:=H.toNat) (x:=nx.toNat) (y:=ny.toNat) (by omega) (by omega) (by omega)
  have hl:rowN W.toNat (2*H.toNat)=br.length:=by
   have:=rowN_end (W:=W.toNat) (by omega) (H:=H.toNat) (by omega) (by omega) (by omega)
   rw[w1,w2]at this
   have h3:inner W H=W*(H-1)+H*(W-1):=rfl
   omega
  rw[hl]at hnum
  have hcell:=ints_cell hc hnum
  rw[<-at0_of hnum,<-ek']at hcell
  have c5:=c40 h' W.toNat H.toNat nx.toNat ny.toNat (sl b2 o2 br.length z2) (by omega) (by omega) (by omega) (by omega) (by omega)
  rw[b1,b2',w1,w2]at c5
  simp(disch:=omega)
  refine callW_of c4 ?_
  rintro _ h''⟨rfl,rfl⟩
  simp(disch:=omega)
  refine callW_of c5 ?_
  rintro _ h''⟨rfl,rfl⟩
  simp(disch:=omega)[hnum,hcell]
  exact key _ (by simp) (by simp) (by simp) (by simp) (by simp) (by simp)
/-- Two slices have no block in common. -/
def Apart(v w:Value):Prop:=∀b c n m z y,v=sl b 0 n z->w=sl c 0 m y->b=c->b=0
/-- Appending to an own slice: what it becomes, and what stays. -/
theorem append_own{H0 B0 h:Heap}{v x:Value}{z:Nat}{cs new:List Value}{k:Value->Heap->Prop}(hp:0<B0.length)(g:Grows H0 h)(hB:H0.length<=B0.length)(hBh:B0.length<=h.length)(hv:Buf B0 h v z cs)(hn:newCells z h x=some new)(hz:0<z)(hne:new≠[])(hm:new.length/z*z=new.length)
  (hmax:cs.length+new.length<=maxSize) (hk:∀n' h',Grows H0 h'->h.length<h'.length->n'*z=(cs++new).length->h'[h.length]?=some ⟨cs++new,true⟩->(∀c kk,h[c]?=some kk->(∀n,v≠sl c 0 n z)->h'[c]?=some kk)->k (sl h.length 0 n' z) h'):bindW (aAppend z h x v) k:=by
 rcases hv with⟨rfl,rfl⟩|⟨b,n,rfl,h2,h3,h4⟩
 ·have e:aAppend z h x (sl 0 0 0 z)=some (sl h.length 0 (new.length/z) z,h++[⟨new,true⟩]):=by
   simp only[aAppend,hn]
   rw[if_neg (by omega),if_neg hne,if_neg (by simp at hmax;omega),if_pos trivial]
  rw[e]
  exact hk _ _ (g.push _) (by simp) hm (by simp) λc kk hc _=>push_at hc
 ·have hnz:n<=cs.length:=by rw[<-h2];exact Nat.le_mul_of_pos_right n hz
  have e:aAppend z h x (sl b 0 n z)=some (sl h.length 0 (n+new.length/z) z,h.set b ⟨[],false⟩++[⟨cs++new,true⟩]):=by
   simp only[aAppend,hn]
   rw[if_neg (by omega),if_neg hne,if_neg (by omega),if_neg (by omega)]
   simp only[h4]
   rw[if_pos ⟨trivial,trivial⟩,cellsAt_all h4 h2]
  rw[e]
  have hb:=at_lt h4
  refine hk _ _ ((g.put (by omega) _).push _) (by simp) (by rw[Nat.add_mul,hm,h2];simp) (by simp) λc kk hc hne'=>?_
  exact push_at (put_at hc λe=>hne' n (by rw[e]))
/-- A second own slice beside it. -/
theorem Buf.keep{B0 h h':Heap}{v w:Value}{z y:Nat}{cs:List Value}(hp:0<B0.length)(hw:Buf B0 h w y cs)(a:Apart v w)(fr:∀c kk,h[c]?=some kk->(∀n,v≠sl c 0 n z)->h'[c]?=some kk):Buf B0 h' w y cs:=by
 rcases hw with⟨rfl,rfl⟩|⟨b,n,rfl,h2,h3,h4⟩
 ·exact .inl ⟨rfl,rfl⟩
 ·refine .inr ⟨b,n,rfl,h2,h3,fr b _ h4 λm e=>?_⟩
  have:=a b b m n z y e rfl rfl
  omega
theorem buf_new{B0 h h':Heap}{n z:Nat}{cs:List Value}(hBh:B0.length<=h.length)(hn:n*z=cs.length)(hk:h'[h.length]?=some ⟨cs,true⟩):Buf B0 h' (sl h.length 0 n z) z cs:=.inr ⟨h.length,n,rfl,hn,hBh,hk⟩
/-- Appending one element to an own slice. -/
theorem app1{H0 B0 h:Heap}{v:Value}{z:Nat}{cs new:List Value}{k:Value->Heap->Prop}(hp:0<B0.length)(g:Grows H0 h)(hB:H0.length<=B0.length)(hBh:B0.length<=h.length)(hv:Buf B0 h v z cs)(hl:new.length=z)(hz:0<z)(hmax:cs.length+z<=maxSize)
  (hk:∀v' h',Grows H0 h'->h.length<=h'.length->Buf B0 h' v' z (cs++new)->(∀b n y,v'=sl b 0 n y->h.length<b)->(∀c kk,h[c]?=some kk->(∀n,v≠sl c 0 n z)->h'[c]?=some kk)->k v' h'):bindW (aAppend z (h++[⟨new,true⟩]) (sl h.length 0 1 z) v) k:=by
 have gp:Grows h (h++[⟨new,true⟩]):=⟨_,rfl⟩
 have hne:new≠[]:=by intro e;rw[e]at hl;simp at hl;omega
 have hn:newCells z (h++[⟨new,true⟩]) (sl h.length 0 1 z)=some new:=by
  simp[newCells]
  rw[cellsAt_of (k:=⟨new,true⟩) (by simp) (by simp;omega)]
  simp[<-hl]
 refine append_own hp (g.trans gp) hB (by simp;omega) (hv.grow gp) hn hz hne (by rw[hl,Nat.div_self hz];omega) (by omega) ?_
 intro n' h' g' hlt hn' hc fr
 refine hk _ h' g' (by simp at hlt;omega) (buf_new (by simp;omega) hn' hc) ?_ ?_
 ·intro b n y e
  simp[sl]at e
  omega
 ·intro c kk hck hne'
  exact fr c kk (push_at hck) hne'
theorem apart_of{B0 h:Heap}{v w:Value}{y:Nat}{cs:List Value}(hp:0<B0.length)(hw:Buf B0 h w y cs)(hv:∀b n y,v=sl b 0 n y->h.length<b):Apart v w:=by
 intro b c n1 m z1 y1 h1 h2 e
 have:=hv b n1 z1 h1
 rcases hw with⟨rfl,rfl⟩|⟨b2,n2,rfl,_,_,h4⟩
 ·simp[sl]at h2<;>omega
 ·have:=at_lt h4
  simp[sl]at h2<;>omega
theorem Buf.ne{B0 h:Heap}{v:Value}{z y c:Nat}{cs:List Value}(x:Buf B0 h v z cs)(h0:0<c)(hc:c<B0.length):∀n,v≠sl c 0 n y:=by
 intro n e
 rcases x with⟨_,e2⟩|⟨b,m,e2,_,e3,_⟩
 ·rw[e2]at e;simp[sl]at e<;>omega
 ·rw[e2]at e;simp[sl]at e<;>omega
theorem Buf.put{B0 h:Heap}{v:Value}{z c:Nat}{cs:List Value}{k:Blk}(x:Buf B0 h v z cs)(hc:c<B0.length):Buf B0 (h.set c k) v z cs:=by
 rcases x with⟨e1,e2⟩|⟨b,m,e2,e3,e4,e5⟩
 ·exact .inl ⟨e1,e2⟩
 ·exact .inr ⟨b,m,e2,e3,e4,put_at e5 (by omega)⟩
theorem Buf.sl1{B0 h:Heap}{v:Value}{cs:List Value}(x:Buf B0 h v 1 cs):∃b,v=sl b 0 cs.length 1:=by
 rcases x with⟨e1,e2⟩|⟨b,m,e2,e3,e4,e5⟩
 ·exact⟨0,by rw[e1];exact e2⟩
 ·exact⟨b,by rw[e2];congr 1;omega⟩
theorem Buf.at1{B0 h:Heap}{b n:Nat}{cs:List Value}(x:Buf B0 h (sl b 0 n 1) 1 cs){i:Nat}(hi:i<cs.length):cell h b i=some cs[i]:=by
 rcases x with⟨e1,e2⟩|⟨b',m,e2,e3,e4,e5⟩
 ·subst e1;simp at hi
 ·simp[sl]at e2
  obtain⟨rfl,rfl⟩:=e2
  exact cell_of e5 (by simp[hi])
theorem wv_eq(w:Wk):wv w=.agg #[I w.1,I w.2.1,I w.2.2.1,I w.2.2.2]:=rfl
theorem c55(h:Heap)(hp:0<h.length)(W H:Int)(br:List Int)(s:Value)(ok:OkP (W,H,br))(hr:Vr h shInts s br):ACall Gam 55 [.agg #[I W,I H,s]] h λr h'=>Grows h h'∧∃b1 b2,r=.tuple #[sl b1 0 (curveN (W,H,br)) 1,sl b2 0 (4*W.toNat*H.toNat) 1]:=by
 have A:=walks (W:=W.toNat) (H:=H.toNat) (br:=br) (by have:=ok.w;simp at this;omega) (by have:=ok.h;simp at this;omega)
 have ok0:=ok
 obtain⟨w8,hh8,_,_⟩:=ok
 simp only at w8 hh8
 obtain⟨N,eN⟩:∃N,N=4*W.toNat*H.toNat:=⟨_,rfl⟩
 have hN:N<=256:=by
  rw[eN];exact(Nat.mul_le_mul (by omega) (by omega):4*W.toNat*H.toNat<=4*8*8)
 have wkok:∀k,k<N->OkW W.toNat H.toNat (wkW H.toNat k):=λk hk=>wkW_ok (by omega) (by rw[<-eN];exact hk)
 have wksg:∀k,k<N->segW H.toNat (wkW H.toNat k)=k:=λk hk=>wkW_seg (by omega) (by rw[<-eN];exact hk)
 have eC:curveN (W,H,br)=(curvesSt (stepW W.toNat H.toNat br) (segW H.toNat) (wkW H.toNat) N N).2:=by rw[eN];rfl
 rw[<-eN,eC]
 obtain⟨f,ef⟩:∃f,f=stepW W.toNat H.toNat br:=⟨_,rfl⟩
 rw[<-eN]at A
 rw[<-ef]at A ⊢
 obtain⟨B,eB⟩:∃B,B=h.length:=⟨_,rfl⟩
 have em:aMake 1 h (Value.int IntKind.i64 N) (Value.int IntKind.i64 N) (Value.agg #[I 0])=some (sl B 0 N 1,h++[⟨ints (List.replicate N 0),true⟩]):=by
  simp(disch:=omega)[aMake,maxSize,ints,eB]
  exact⟨by omega,by simpa [ints]using reps_ints N⟩
 have c51':=λhh=>c51 hh W H s w8 hh8
 rw[<-eN]at c51'
 refine ACall_intro g55 rfl ?_
 unfold fn55
 simp(disch:=omega)
 refine callW_of (c51' h) ?_
 rintro _ h0⟨rfl,rfl⟩
 try refine⟨λ_=>Grows.refl _,?_⟩
 rw[em]
 simp only[bindW_some]
 simp(disch:=omega)
 refine awp_loop (λ(k:Nat) σ h'=>k<=N∧Grows h0 h'∧h'.length=B+1∧h'[B]?=some ⟨ints (List.replicate k (-1)++List.replicate (N-k) 0),true⟩∧σ 1=.agg #[I W,I H,s]∧σ 4=sl 0 0 0 1∧σ 5=sl B 0 N 1∧σ 15=I N∧σ 16=I k) (λk=>N-k) 0 ?_ ?_
 ·exact⟨by omega,⟨_,rfl⟩,by simp[eB],by simp[eB],by simp,by simp,by simp,by simp,by simp⟩
 rintro k σ h1'⟨hk,g,hlen,hB,q1,q4,q5,q15,q16⟩
 simp(disch:=omega)[q15,q16]
 refine fork_dec (λhlt=>?_) (λhge=>?_)
 ·have k1:k<N:=by omega
  have st:=store_one (v:=I (-1)) (o:=k) hB (by simp[ints];omega)
  simp(disch:=omega)[q1,q4,q5,q15,q16,k1,st,wrap64]
  refine⟨k+1,⟨by omega,g.put (by omega) _,hlen,?_,by omega⟩,by omega⟩
  have hBl:B<h1'.length:=by omega
  simp[hBl,ints]
  obtain⟨m,hm⟩:∃m,N-k=m+1:=⟨N-k-1,by omega⟩
  rw[hm,show N-(k+1)=m by omega,List.replicate_succ,List.set_cons_zero,List.replicate_succ']
  simp
 have hkN:N=k:=by omega
 subst hkN
 simp(disch:=omega)[q1]
 have hB0:h1'[B]?=some ⟨ints (curvesSt f (segW H.toNat) (wkW H.toNat) N 0).1,true⟩:=by
  rw[hB];simp[curvesSt]
 clear hB
 refine callW_of (c51' h1') ?_
 rintro _ h1'⟨rfl,rfl⟩
 try refine⟨λ_=>Grows.refl _,?_⟩
 obtain⟨H1,eH1⟩:∃H1,H1=h1':=⟨_,rfl⟩
 have lH1:H1.length=B+1:=by rw[eH1];exact hlen
 obtain⟨sg,esg⟩:∃sg,sg=segW H.toNat:=⟨_,rfl⟩
 obtain⟨wk,ewk⟩:∃wk,wk=wkW H.toNat:=⟨_,rfl⟩
 rw[<-esg]at A wksg hB0 ⊢
 rw[<-ewk]at wkok wksg hB0 ⊢
 refine awp_loop (λ(k:Nat) σ h'=>k<=N∧Grows h0 h'∧B+1<=h'.length∧h'[B]?=some ⟨ints (curvesSt f sg wk N k).1,true⟩∧σ 1=.agg #[I W,I H,s]∧σ 5=sl B 0 N 1∧σ 24=I N∧σ 25=I k∧∃Z,Buf H1 h' (σ 4) 1 Z∧Z.length=(curvesSt f sg wk N k).2) (λk=>N-k) 0 ?_ ?_
 ·exact⟨by omega,g,by omega,hB0,by simpa using q1,by simpa using q5,by simp,by simp,[],by simpa [q4]using Buf.nil,rfl⟩
 clear q1 q4 q5 q15 q16 hB0 g eH1
 rintro k σ h2⟨hk,g,hlen,hB,q1,q5,q24,q25,Z,bz,hZ⟩
 obtain⟨st1,st2,st3⟩:=A.st wkok k hk
 simp(disch:=omega)[q24,q25]
 refine fork_dec (λhlt=>?_) (λhge=>?_)
 ·have k1:k<N:=by omega
  have hok:=wkok k k1
  have hsgk:=wksg k k1
  obtain⟨oc,eoc⟩:∃oc,oc=curvesSt f sg wk N k:=⟨_,rfl⟩
  have esucc:curvesSt f sg wk N (k+1)=if 0<=at0 oc.1 k then oc else(paint f sg (wk k) oc.2 oc.1 (perW f (wk k)),oc.2+1):=by rw[eoc];rfl
  rw[<-eoc]at hB hZ st1 st2 st3
  obtain⟨O,c⟩:=oc
  simp only at hB hZ st1 st2 st3 esucc
  have hcell:cell h2 B k=some (I (at0 O k)):=cell_of hB (by simp[ints,at0,List.getD_eq_getElem?_getD,show k<O.length by omega])
  simp(disch:=omega)[q5,q24,q25,k1,hcell]
  refine fork_dec (λhpos=>?_) (λhneg=>?_)
  ·simp(disch:=omega)[q24,q25,wrap64]
   rw[if_pos hpos]at esucc
   refine⟨k+1,⟨by omega,g,by omega,?_,q1,q5,by omega,Z,bz,?_⟩,by omega⟩
   ·have:=(List.getElem?_eq_some_iff.1 hB).2
    simpa [esucc]using this
   ·rw[esucc];exact hZ
  ·rw[if_neg hneg]at esucc
   have c2:=c56 h2 W H s k w8 hh8 (by omega)
   rw[<-ewk]at c2
   obtain⟨u,eu⟩:∃u,u=wk k:=⟨_,rfl⟩
   rw[<-eu]at c2 hok esucc hsgk
   obtain⟨P1,P2,P3,P4⟩:=A.per hok
   obtain⟨R1,R2⟩:=A.run hok (c:=(c:Int)) (by omega) st1 st2 (by rw[hsgk];omega)
   obtain⟨n,en⟩:∃n,n=perW f u:=⟨_,rfl⟩
   rw[<-en]at P1 P2 P3 P4 R1 R2 esucc
   simp(disch:=omega)[q1]
   refine callW_of c2 ?_
   rintro _ h3⟨rfl,rfl⟩
   refine⟨λe=>(by cases e),?_⟩
   simp(disch:=omega)[wv_eq]
   obtain⟨b7,e7⟩:=bz.sl1
   rw[hZ]at e7
   rw[e7]at bz
   have hg3:=g.le
   refine awp_loop (λ(j:Nat) σ' h'=>j<=n∧Grows h0 h'∧B+1<=h'.length∧h'[B]?=some ⟨ints (paint f sg u c O j),true⟩∧σ' 1=.agg #[I W,I H,s]∧σ' 4=sl b7 0 c 1∧σ' 5=sl B 0 N 1∧σ' 9=wv (itW f j u)∧σ' 24=I N∧σ' 25=I k∧Buf H1 h' (sl b7 0 c 1) 1 Z∧∃Q,Buf H1 h' (σ' 8) 4 Q∧Q.length=4*j∧Apart (σ' 8) (sl b7 0 c 1)) (λj=>n-j) 0 ?_ ?_
   ·refine⟨by omega,g,by omega,hB,by simpa using q1,by simpa using e7,by simpa using q5,by simp[wv_eq,itW],by simpa using q24,by simpa using q25,bz,[],by simpa using Buf.nil,rfl,?_⟩
    intro b c n m z y h1 h2 e
    simp[sl]at h1;omega
   rintro j τ h5⟨hj,g5,l5,hB5,r1,r4,r5,r9,r24,r25,bz5,Q,bq,hQ,ap⟩
   have hoj:=A.vi hok j
   obtain⟨v,ev⟩:∃v,v=itW f j u:=⟨_,rfl⟩
   rw[<-ev]at r9 hoj
   have hsv:sg v<N:=A.lt _ hoj
   have hcell:cell h5 B (sg v)=some (I (at0 (paint f sg u c O j) (sg v))):=cell_of hB5 (by simp[ints,at0,List.getD_eq_getElem?_getD,paint_len,st1,hsv])
   obtain⟨x,y,dx,dy⟩:=v
   simp only[wv]at r9
   have c5:=c50 h5 W H s x y dx dy w8 hh8 hoj
   rw[<-esg]at c5
   simp(disch:=omega)[r1,r5,r9]
   refine callW_of c5 ?_
   rintro _ h6⟨rfl,rfl⟩
   refine⟨λe=>(by cases e),?_⟩
   simp(disch:=omega)[hsv,hcell]
   refine fork_dec (λhlt=>?_) (λhge=>?_)
   ·have j1:j<n:=by
     rcases Nat.lt_or_ge j n with q|q
     ·exact q
     ·have:j=n:=by omega
      subst this
      rw[<-ev]at R2;omega
    have st:=store_one (v:=I c) (o:=sg (x,y,dx,dy)) hB5 (by simp[ints,paint_len,st1];omega)
    simp(disch:=omega)[r1,r4,r5,r9]
    refine callW_of c5 ?_
    rintro _ h7⟨rfl,rfl⟩
    refine⟨λe=>(by cases e),?_⟩
    simp(disch:=omega)[hsv,st]
    obtain⟨h8,e8⟩:∃h8,h8=List.set h7 B {cells:=(ints (paint f sg u (↑c) O j)).set (sg (x,y,dx,dy)) (I ↑c),rw:=true}:=⟨_,rfl⟩
    rw[<-e8]
    have g8:Grows h0 h8:=by rw[e8];exact g5.put (by omega) _
    have l8:h8.length=h7.length:=by rw[e8];simp
    have hB8:h8[B]?=some ⟨ints (paint f sg u c O (j+1)),true⟩:=by
     have:B<h7.length:=at_lt hB5
     rw[e8]
     simp[this,paint,<-ev,ints,List.map_set]
    have bz8:Buf H1 h8 (sl b7 0 c 1) 1 Z:=by rw[e8];exact bz5.put (by omega)
    have bq8:Buf H1 h8 (τ 8) 4 Q:=by rw[e8];exact bq.put (by omega)
    have eb:aBuildSlice 4 1 h8 [(0,.agg #[I 0,I 0,I 0,I 0]),(4,.agg #[I x,I y,I dx,I dy])]=some (sl h8.length 0 1 4,h8++[⟨[I x,I y,I dx,I dy],true⟩]):=by simp[aBuildSlice]
    rw[eb]
    simp only[bindW_some]
    refine app1 (by omega) g8 (by omega) (by omega) bq8 (by simp) (by omega) (by simp[maxSize];omega) λv9 h9 g9 l9 b9 n9 fr9=>?_
    have bz9:=bz8.keep (by omega) ap fr9
    have hB9:=fr9 B _ hB8 (bq8.ne (by omega) (by omega))
    have ap9:=apart_of (by omega) bz8 n9
    refine callW_of (c54 h9 W H br s x y dx dy ok0 (hr.grow g9) hoj) ?_
    rintro _ h10⟨⟨q,rfl⟩,rfl⟩
    refine⟨λe=>(by cases e),?_⟩
    obtain⟨a1,a2,a3,a4,eabcd⟩:∃a b c d,stepW W.toNat H.toNat br (x,y,dx,dy)=(a,b,c,d):=⟨_,_,_,_,rfl⟩
    rw[eabcd]
    have e9:itW f (j+1) u=(a1,a2,a3,a4):=by show f (itW f j u)=_;rw[<-ev,ef];exact eabcd
    have hB9':=(List.getElem?_eq_some_iff.1 hB9).2
    simp(disch:=omega)[wv_eq]
    exact⟨j+1,⟨by omega,g9,by omega,by simpa using hB9',by simp[e9],r24,r25,bz9,_,b9,by simp;omega,ap9⟩,by omega⟩
   ·have ej:j=n:=by
     rcases Nat.lt_or_ge j n with q|q
     ·have:=R1 j q;rw[<-ev]at this;omega
     ·omega
    subst ej
    obtain⟨b8,n8,e8⟩:∃b n,τ 8=sl b 0 n 4:=by
     rcases bq with⟨e1,e2⟩|⟨b,n,e1,_⟩
     ·exact⟨0,0,e2⟩
     ·exact⟨b,n,e1⟩
    have eb:aBuildSlice 1 1 h6 [(0,.agg #[sl 0 0 0 0]),(1,sl b8 0 n8 4)]=some (sl h6.length 0 1 1,h6++[⟨[sl b8 0 n8 4],true⟩]):=by simp[aBuildSlice]
    simp(disch:=omega)[r1,r4,r5,e8]
    rw[eb]
    simp only[bindW_some]
    refine app1 (by omega) g5 (by omega) (by omega) bz5 (by simp) (by omega) (by simp[hZ,maxSize];omega) λv6 h7 g6 l6 b6 n6 fr6=>?_
    have hB6:=fr6 B _ hB5 (bz5.ne (by omega) (by omega))
    simp(disch:=omega)[r1,r5,r24,r25,wrap64]
    refine⟨k+1,⟨by omega,g6,by omega,?_,by omega,_,b6,?_⟩,by omega⟩
    ·have:=(List.getElem?_eq_some_iff.1 hB6).2
     simpa [esucc]using this
    ·rw[esucc];simp[hZ]
 ·have e:k=N:=by omega
  obtain⟨b7,e7⟩:=bz.sl1
  rw[hZ]at e7
  simp(disch:=omega)[e7,q5]
  exact⟨g,by rw[e]⟩
theorem c154(h:Heap)(hp:0<h.length)(v:Value)(X:Pan)(hv:Vr h shPanel v X)(ok:OkP X):ACall Gam 154 [v] h λr h'=>Grows h h'∧r=I (curveN X):=by
 obtain⟨W,H,br⟩:=X
 obtain⟨s,rfl,w1,w2,r0⟩:=hv.panel
 refine ACall_intro g154 rfl ?_
 unfold fn154
 simp(disch:=omega)
 refine callW_of (c55 h hp W H br s ok r0) ?_
 rintro _ h'⟨g,b1,b2,rfl⟩
 refine⟨λ_=>g,?_⟩
 simp(disch:=omega)
 try exact g
end Am

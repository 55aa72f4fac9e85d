/- Contracts: AmH71, AmH72, AmH73, AmH74, AmH75, AmH76, AmH77, AmH78, AmH79. -/
import Derived.Test.YtpgioncclmancaaGreatAmK15
import Derived.Test.YtpgioncclmancaaGreatAmK6
import Derived.Test.YtpgioncclmancaaGreatAmK13
import Derived.Test.YtpgioncclmancaaGreatAmK3
import Derived.Test.YtpgioncclmancaaGreatAmK11
import Derived.Test.YtpgioncclmancaaGreatAmK2
set_option linter.unusedVariables false
set_option linter.unusedSimpArgs false
set_option maxHeartbeats 4000000
set_option maxRecDepth 40000
namespace Am
open Go
theorem ed_one(h:Heap)(a b:Int):aBuildSlice 2 1 h [(0,.agg #[I 0,I 0]),(2,.agg #[I a,I b])]=some (sl h.length 0 1 2,h++[⟨[I a,I b],true⟩]):=by simp[aBuildSlice]
theorem c84(h:Heap)(hp:0<h.length)(ob cb:Nat)(lb lo ln ly:Nat)(av v0:Value)(W H c:Int)(br:List Int)(pa:PaS ob h av (W,H,br))(ok:OkP (W,H,br))(kc:h[cb]?=some ⟨[I c],true⟩)(hne:cb≠ob)(ko:h[ob]?=some ⟨[v0],true⟩):ACall Gam 84 [sl lb lo ln ly,av,pt ob 0,pt cb 0] h λr h'=>r=B (decide ((curveN (W,H,br):Int)=c))∧Mod ob (ob+1) h h'∧h'[ob]?=some ⟨[sl lb lo ln ly],true⟩:=by
 obtain⟨s,rfl,w1,w2,r⟩:=pa.r.panel
 obtain⟨h1,e1⟩:∃h1,h1=h.set ob ⟨[sl lb lo ln ly],true⟩:=⟨_,rfl⟩
 have st:storeAt h ob 0 [sl lb lo ln ly]=some h1:=by
  unfold storeAt
  rw[ko,e1]
  simp
 have m1:Mod ob (ob+1) h h1:=by rw[e1];exact put_ob
 have k1:h1[ob]?=some ⟨[sl lb lo ln ly],true⟩:=by rw[e1];exact blk_set ko
 have l1:0<h1.length:=by rw[e1,List.length_set];exact hp
 have pa1:=pa.mod m1
 have kc1:=mod_at m1 kc hne
 obtain⟨N,eN⟩:∃N,N=curveN (W,H,br):=⟨_,rfl⟩
 have c154':=c154 h1 l1 _ (W,H,br) pa1.r ok
 rw[<-eN]at c154' ⊢
 refine ACall_intro g84 rfl ?_
 unfold fn84
 rw[awp_seq,awp_reg]
 generalize hK:seqQ Gam _ _ 0=K
 simp(disch:=omega)
 subst hK
 simp only[seqQ_zero]
 rw[awp_seq,awp_reg]
 generalize hK:seqQ Gam _ _ 0=K
 simp(disch:=omega)[st]
 subst hK
 simp only[seqQ_zero]
 rw[awp_seq,awp_reg]
 generalize hK:seqQ Gam _ _ 0=K
 simp(disch:=omega)
 refine callW_of c154' ?_
 rintro _ h2⟨g2,rfl⟩
 try refine⟨λe=>(by first|exact g2|cases e),?_⟩
 have cc:=cell_of (i:=0) (g2.at kc1) (v:=I c) (by simp)
 simp(disch:=omega)[cc]
 subst hK
 simp(disch:=omega)
 exact⟨m1.trans g2.mod,g2.at k1⟩
structure Env32 (h:Heap) (mb sb pb fb ob cb many:Nat) (W H c:Int) (br0:List Int):Prop where
 ne:mb≠ob∧sb≠ob∧pb≠ob∧fb≠ob∧cb≠ob
 m:h[mb]?=some ⟨[I many],true⟩
 s:h[sb]?=some ⟨[.func (.func 84) #[] #[pt ob 0,pt cb 0]],true⟩
 f:h[fb]?=some ⟨[.func (.func 32) #[] #[pt mb 0,pt sb 0,pt pb 0,pt fb 0]],true⟩
 c:h[cb]?=some ⟨[I c],true⟩
 p:∃sv,h[pb]?=some ⟨[I W,I H,sv],true⟩∧∀h',Mod ob (ob+1) h h'->Vr h' shInts sv br0
theorem Env32.mod{h h':Heap}{mb sb pb fb ob cb many:Nat}{W H c:Int}{br0:List Int}(x:Env32 h mb sb pb fb ob cb many W H c br0)(m:Mod ob (ob+1) h h'):Env32 h' mb sb pb fb ob cb many W H c br0:=by
 obtain⟨n1,n2,n3,n4,n5⟩:=x.ne
 obtain⟨sv,p1,p2⟩:=x.p
 exact⟨x.ne,mod_at m x.m n1,mod_at m x.s n2,mod_at m x.f n4,mod_at m x.c n5,sv,mod_at m p1 n3,λh2 m2=>p2 h2 (m.trans m2)⟩
def OutR(ob:Nat)(h:Heap)(r:Value)(res:Option Edits):Prop:=∃v,h[ob]?=some ⟨[v],true⟩∧(∃b o n y,v=sl b o n y)∧r=B res.isSome∧∀x,res=some x->EdS ob h v x
def LeftP(f:Nat->Nat->Option Edits)(br:List Int)(k:Nat)(res:Option Edits):Prop:=tryK f br (br.length-k)=res
def LeftK(f:Nat->Nat->Option Edits)(br:List Int)(k kd:Nat)(res:Option Edits):Prop:=orS (tryKd f (br.getD k 0) k (3-kd)) (tryK f br (br.length-(k+1)))=res
def HasOb(ob:Nat)(h:Heap):Prop:=∃v,h[ob]?=some ⟨[v],true⟩∧∃b o n y,v=sl b o n y
theorem OutR.has{ob:Nat}{h:Heap}{r:Value}{res:Option Edits}(x:OutR ob h r res):HasOb ob h:=by
 obtain⟨v,a,b,_⟩:=x;exact⟨v,a,b⟩
theorem vr_cell{h:Heap}{b o n z k:Nat}{X:List Int}(v:Vr h shInts (sl b o n z) X)(hk:k<X.length):cell h b (o+k)=some (I (X.getD k 0)):=by
 obtain⟨b',o',z',e,_,_,_,hc⟩:=v.ints
 injection e with e1 e2 e3
 injection e1 with e1
 injection e1 with a1 a2 a3
 subst a1;subst a2
 exact ints_getD hc hk
theorem OkP.set{W H:Int}{br:List Int}{k:Nat}{x:Int}(ok:OkP (W,H,br))(hx:0<=x∧x<=2):OkP (W,H,br.set k x):=by
 refine⟨ok.w,ok.h,?_,?_⟩
 ·have:=ok.n
  simp only at this ⊢
  rw[List.length_set];exact this
 ·intro y hy
  rcases List.mem_or_eq_of_mem_set hy with q|q
  ·exact ok.b y q
  ·rw[q];exact hx
theorem LeftP.k{f:Nat->Nat->Option Edits}{br:List Int}{k:Nat}{res:Option Edits}(x:LeftP f br k res)(hk:k<br.length):LeftK f br k 0 res:=by
 unfold LeftP at x
 rw[tryK_succ hk]at x
 exact x
theorem LeftK.next{f:Nat->Nat->Option Edits}{br:List Int}{k:Nat}{res:Option Edits}(x:LeftK f br k 3 res):LeftP f br (k+1) res:=x
theorem LeftK.skip{f:Nat->Nat->Option Edits}{br:List Int}{k kd:Nat}{res:Option Edits}(x:LeftK f br k kd res)(hk:kd<3)(e:((kd:Nat):Int)=br.getD k 0∨f k kd=none):LeftK f br k (kd+1) res:=by
 unfold LeftK at x ⊢
 rw[tryKd_succ hk]at x
 rcases e with e|e
 ·rw[if_pos e]at x;exact x
 ·rw[e]at x
  split at x
  ·exact x
  ·exact x
theorem LeftK.hit{f:Nat->Nat->Option Edits}{br:List Int}{k kd:Nat}{res:Option Edits}{y:Edits}(x:LeftK f br k kd res)(hk:kd<3)(e:¬((kd:Nat):Int)=br.getD k 0)(e2:f k kd=some y):res=some y:=by
 unfold LeftK at x
 rw[tryKd_succ hk,if_neg e,e2]at x
 exact x.symm
theorem c32(mb sb pb fb ob cb many:Nat)(W H c:Int)(br0:List Int)(hb0:br0.length<=12)(hm3:many<=3):∀(l:Nat) (h:Heap) (k0:Nat) (lv av:Value) (br:List Int) (now:Edits),0<h.length->Env32 h mb sb pb fb ob cb many W H c br0->now.length+l=many->EdS ob h lv now->PaS ob h av (W,H,br)->OkP (W,H,br)->br.length=br0.length->(∀j,k0<=j->br.getD j 0=br0.getD j 0)->HasOb ob h->k0<=br0.length->
  ACall Gam 32 [I k0,lv,av,pt mb 0,pt sb 0,pt pb 0,pt fb 0] h λr h'=>Mod ob (ob+1) h h'∧OutR ob h' r (srF W H c l k0 br now):=by
 intro l
 induction l with
 |zero=>
  intro h k0 lv av br now hp env hl hlv hav ok hbl hag hob hk
  have esr:srF W H c 0 k0 br now=if(curveN (W,H,br):Int)=c then some now else none:=rfl
  obtain⟨RES,eR⟩:∃RES,RES=srF W H c 0 k0 br now:=⟨_,rfl⟩
  rw[<-eR]at esr ⊢
  obtain⟨lb,lo,ly,rfl,hlc⟩:=hlv.r
  obtain⟨v0,ko,_⟩:=hob
  have hav0:=hav
  obtain⟨s,rfl,w1,w2,r⟩:=hav.r.panel
  have cm:=cell_of (i:=0) env.m (v:=I many) (by simp)
  have cs:=cell_of (i:=0) env.s (v:=.func (.func 84) #[] #[pt ob 0,pt cb 0]) (by simp)
  have emI:((now.length:Nat):Int)=many:=by omega
  have em:now.length=many:=by omega
  refine ACall_intro g32 rfl ?_
  unfold fn32
  rw[awp_seq,awp_reg]
  generalize hK:seqQ Gam _ _ 0=K
  simp(disch:=omega)
  subst hK
  simp only[seqQ_zero]
  rw[awp_seq]
  generalize hK:seqQ Gam _ _=K
  simp(disch:=omega)[cm,emI,em]
  simp(disch:=omega)[cs]
  refine callW_of (c84 h hp ob cb lb lo many ly _ v0 W H c br hav0 ok env.c env.ne.2.2.2.2 ko) ?_
  rintro _ h2⟨rfl,m2,k2⟩
  try refine⟨λe=>(by cases e),?_⟩
  try simp(disch:=omega)
  subst hK
  simp(disch:=omega)
  refine⟨m2,_,k2,⟨_,_,_,_,rfl⟩,?_,?_⟩
  ·rw[esr]
   by_cases q:(curveN (W,H,br):Int)=c
   ·rw[if_pos q,decide_eq_true q];rfl
   ·rw[if_neg q,decide_eq_false q];rfl
  ·intro x hx
   rw[esr]at hx
   split at hx
   ·injection hx with hx
    rw[<-hx,<-em]
    exact hlv.mod m2
   ·cases hx
 |succ l ih=>
  intro h k0 lv av br now hp env hl hlv hav ok hbl hag hob hk
  obtain⟨f,ef⟩:∃f:Nat->Nat->Option Edits,f=λ(k kd:Nat)=>srF W H c l (k+1) (br.set k (kd:Int)) (now++[((k:Int),(kd:Int))]):=⟨_,rfl⟩
  have efk:∀k kd,f k kd=srF W H c l (k+1) (br.set k (kd:Int)) (now++[((k:Int),(kd:Int))]):=λk kd=>by rw[ef]
  obtain⟨RES,eR⟩:∃RES,RES=srF W H c (l+1) k0 br now:=⟨_,rfl⟩
  have LP0:LeftP f br k0 RES:=by rw[eR,ef];rfl
  rw[<-eR]
  clear eR ef
  obtain⟨lb,lo,ly,elv,hlc⟩:=hlv.r
  have hav0:=hav
  obtain⟨s,eav,w1,w2,r⟩:=hav.r.panel
  have⟨sb1,so1,sn1,sz1,es⟩:∃b o n z,s=sl b o n z:=by obtain⟨b,o,z,e,_⟩:=r.ints;exact⟨b,o,_,z,e⟩
  subst es
  obtain⟨SA,eSA⟩:∃SA,SA=Value.agg #[I W,I H,sl sb1 so1 sn1 sz1]:=⟨_,rfl⟩
  rw[<-eSA]at eav
  rw[eav]at hav0 ⊢
  have cm:=cell_of (i:=0) env.m (v:=I many) (by simp)
  have emI:¬((now.length:Nat):Int)=many:=by omega
  have em:¬now.length=many:=by omega
  obtain⟨n,en⟩:∃n,n=br0.length:=⟨_,rfl⟩
  have obl:ob<h.length:=by obtain⟨v,hv,_⟩:=hob;exact at_lt hv
  obtain⟨nn,enn⟩:∃nn,nn=now.length:=⟨_,rfl⟩
  rw[<-enn]at elv emI em
  obtain⟨SL,eSL⟩:∃SL,SL=sl lb lo nn ly:=⟨_,rfl⟩
  rw[<-eSL]at elv
  rw[elv]at hlv ⊢
  refine ACall_intro g32 rfl ?_
  unfold fn32
  rw[awp_seq,awp_reg]
  generalize hK:seqQ Gam _ _ 0=K
  simp(disch:=omega)[eSA]
  subst hK
  simp only[seqQ_zero]
  rw[awp_seq]
  generalize hK:seqQ Gam _ _=K
  simp(disch:=omega)[cm,emI,em,eSL]
  subst hK
  simp only[seqQ_zero]
  rw[awp_seq]
  generalize hP:seqQ Gam _ _=PP
  have fin0:∀(σ:Nat->Value) (h':Heap) (v:Value),Mod ob (ob+1) h h'->LeftP f br n RES->(h'[ob]?=some ⟨[v],true⟩)->(∃b o n y,v=sl b o n y)->PP 0 σ h':=by
   intro σ h' v hm hL hO hv
   have eRn:RES=none:=by
    unfold LeftP at hL
    rw[<-hL,show br.length-n=0 by omega];rfl
   subst hP
   simp only[seqQ_zero]
   simp(disch:=omega)
   exact⟨hm,v,hO,hv,by rw[eRn];rfl,by rw[eRn];intro x hx;cases hx⟩
  have ret1:∀(σ:Nat->Value) (h':Heap) (y:Edits) (v:Value),Mod ob (ob+1) h h'->RES=some y->(h'[ob]?=some ⟨[v],true⟩)->(∃b o n y,v=sl b o n y)->EdS ob h' v y->σ 10=B true->PP 1 σ h':=by
   intro σ h' y v hm hR hO hv hs q10
   subst hP
   simp(disch:=omega)[q10]
   exact⟨hm,v,hO,hv,by rw[hR];rfl,by rw[hR];intro x hx;injection hx with hx;rw[<-hx];exact hs⟩
  clear hP
  rw[awp_block]
  have b0:∀(σ:Nat->Value) (h':Heap),PP 0 σ h'->blockQ 0 PP 2 σ h':=by
   intro σ h' x;rw[blockQ_eq,if_pos rfl];exact x
  have b1:∀(σ:Nat->Value) (h':Heap),PP 1 σ h'->blockQ 0 PP 1 σ h':=by
   intro σ h' x;rw[blockQ_eq,if_neg (by omega)];exact x
  generalize blockQ 0 PP=B0 at b0 b1 ⊢
  obtain⟨sv,psv,vsv⟩:=env.p
  refine awp_loop (λk σ h'=>k<=n∧Mod ob (ob+1) h h'∧LeftP f br k RES∧HasOb ob h'∧σ 0=I k∧σ 1=SL∧σ 3=pt mb 0∧σ 5=pt pb 0∧σ 6=pt fb 0∧σ 9=SA∧k0<=k) (λk=>n-k) k0 ?_ ?_
  ·exact⟨by omega,Mod.refl _ _ _,LP0,hob,by simp,by simp[eSL],by simp,by simp,by simp,by simp[eSA],by omega⟩
  obtain⟨vb,vo,vz,esv,_⟩:=(vsv h (Mod.refl _ _ _)).ints
  rw[<-en]at esv
  subst esv
  rintro k σ h'⟨hk1,hm,hL,hO,q0,q1,q3,q5,q6,q9,hk0⟩
  have p1:=mod_at hm psv env.ne.2.2.1
  have cp:=cell_of (i:=2) p1 (v:=sl vb vo n vz) (by simp)
  simp(disch:=omega)[q0,q5,cp]
  refine fork_dec (λhlt=>?_) (λhge=>?_)
  ·have k1:k<n:=by omega
   have LK0:=hL.k (by omega:k<br.length)
   have hbk:=hag k hk0
   simp(disch:=omega)
   refine awp_loop (λkd τ hh=>kd<=3∧Mod ob (ob+1) h hh∧LeftK f br k kd RES∧HasOb ob hh∧τ 0=I k∧τ 1=SL∧τ 3=pt mb 0∧τ 5=pt pb 0∧τ 6=pt fb 0∧τ 9=SA∧τ 27=I kd) (λkd=>3-kd) 0 ?_ ?_
   ·exact⟨by omega,hm,LK0,hO,by simpa using q0,by simpa using q1,by simpa using q3,by simpa using q5,by simpa using q6,by simpa using q9,by simp⟩
   rintro kd τ hh⟨hkd,gm,hLk,hOb,t0,t1,t3,t5,t6,t9,t27⟩
   simp(disch:=omega)[t27]
   refine fork_dec (λhlt=>?_) (λhge=>?_)
   ·have kd3:kd<3:=by omega
    have envh:=env.mod gm
    have p1:=mod_at gm psv env.ne.2.2.1
    have cp:=cell_of (i:=2) p1 (v:=sl vb vo n vz) (by simp)
    have cb:=vr_cell (vsv hh gm) (k:=k) (by omega)
    rw[<-hbk]at cb
    obtain⟨bk,ebk⟩:∃bk,bk=br.getD k 0:=⟨_,rfl⟩
    rw[<-ebk]at cb
    by_cases eq:((kd:Nat):Int)=bk
    ·have nxt:=hLk.skip kd3 (.inl (by rw[<-ebk];exact eq))
     simp(disch:=omega)[t0,t5,t27,cp,k1,cb,eq,fork_g53]
     have wk:IntKind.i64.wrap (bk+1)=((kd+1:Nat):Int):=by rw[wrap64 (by omega) (by omega)];omega
     refine⟨kd+1,?_,by omega⟩
     and_intros<;>first|assumption|exact gm.1|exact gm.2|omega|rfl
    ·have eqI:¬bk=((kd:Nat):Int):=λe=>eq e.symm
     have cf:=cell_of (i:=0) envh.f (v:=.func (.func 32) #[] #[pt mb 0,pt sb 0,pt pb 0,pt fb 0]) (by simp)
     have wk1:IntKind.i64.wrap ((k:Int)+1)=((k+1:Nat):Int):=by rw[wrap64 (by omega) (by omega)];omega
     have hph:0<hh.length:=by have:=gm.1;omega
     have obh:ob<hh.length:=by have:=gm.1;omega
     have fbl:=at_lt envh.f
     obtain⟨v1,h1,A1,G1,B1'⟩:=ed_copy hph (hlv.mod gm).r (by omega)
     obtain⟨v3,h3,A3,G3,B3⟩:=ed_more (a:=(k:Int)) (b:=(kd:Int)) hph G1 B1' (by omega)
     have hp3:=pos_of hph G3
     have pa3:PaS ob h3 SA (W,H,br):=hav0.mod (gm.trans G3.mod)
     have pa3':=pa3.r
     rw[eSA]at pa3'
     have c26':=c26 h3 hp3 _ W H br k (kd:Int) pa3' (by omega) (by omega) (by unfold I64;omega)
     have efkk:=efk k kd
     simp(disch:=omega)[t0,t5,t6,t27,cp,cf,k1,cb,eq,eqI,fork_g53]
     refine @awpOps_sideOp Gam _ _ _ _ 43 53 (.tmp 6) (bi .append #[.global 41,.global 42] 2) _ v1 h1 rfl rfl rfl rfl ?_ ?_ ?_
     ·simp(disch:=omega)[t1];exact A1
     ·simp(disch:=omega)[t6];exact sameAt_iff.2 (G1.look fbl)
     simp(disch:=omega)[t0,ed_one]
     refine @awpOps_sideOp Gam _ _ _ _ 48 53 (.tmp 6) (bi .append #[.global 43,.global 47] 2) _ v3 h3 rfl rfl rfl rfl ?_ ?_ ?_
     ·simp(disch:=omega);exact A3
     ·simp(disch:=omega)[t6]
      refine sameAt_iff.2 ?_
      rw[G3.look fbl]
      exact((G1.trans ⟨_,rfl⟩).look fbl).symm
     simp(disch:=omega)[t0,t9,eSA]
     refine @awpOps_side Gam _ _ _ 52 53 (.tmp 6) (.func 26) #[.global 49,.global 50,.global 51] _ _ 26 #[] _ rfl rfl rfl (by simpa using c26') ?_
     rintro av4 h4⟨g4,o4⟩
     refine⟨?_,?_⟩
     ·simp(disch:=omega)[t6];exact sameAt_iff.2 (g4.look (Nat.lt_of_lt_of_le fbl G3.le))
     have o4v:=o4.vr
     obtain⟨s4,e4,_,_,i4⟩:=o4v.panel
     obtain⟨b4,oo4,n4,z4,rfl⟩:∃b o n z,s4=sl b o n z:=by obtain⟨b,o,z,e,_⟩:=i4.ints;exact⟨b,o,_,z,e⟩
     have obh3:ob<h3.length:=by have:=G3.le;omega
     have m4:Mod ob (ob+1) hh h4:=G3.mod.trans g4.mod
     have gm4:=gm.trans m4
     have ed4:EdS ob h4 v3 (now++[((k:Int),(kd:Int))]):=(EdS.buf B3 obh).mod g4.mod
     have pa4:PaS ob h4 av4 (W,H,br.set k (kd:Int)):=PaS.of o4 obh3
     have ob4:HasOb ob h4:=by
      obtain⟨v,kv,sv⟩:=hOb
      exact⟨v,(G3.trans g4).at kv,sv⟩
     have call4:=ih h4 (k+1) v3 av4 (br.set k (kd:Int)) (now++[((k:Int),(kd:Int))]) (pos_of hp3 g4) (env.mod gm4) (by simp;omega) ed4 pa4 (ok.set (by omega)) (by rw[List.length_set];exact hbl) (by
      intro j hj
      rw[List.getD_eq_getElem?_getD,List.getElem?_set_ne (by omega),<-List.getD_eq_getElem?_getD]
      exact hag j (by omega)) ob4 (by omega)
     rw[<-efkk,<-wk1]at call4
     simp(disch:=omega)[isOwn]
     refine callW_of call4 ?_
     rintro _ h5⟨m5,hout⟩
     try refine⟨λe=>(by cases e),?_⟩
     have gm5:=gm4.trans m5
     have has5:=hout.has
     obtain⟨v5,kv5,sv5,rfl,hx5⟩:=hout
     cases ers:f k kd with
     |none=>
      have nxt:=hLk.skip kd3 (.inr ers)
      simp(disch:=omega)
      try simp(disch:=omega)[t27,wrap64]
      refine⟨kd+1,?_,by omega⟩
      and_intros<;>first|assumption|exact gm5.1|exact gm5.2|omega|(rw[<-eSA];assumption)|rfl
     |some y=>
      have hit:=hLk.hit kd3 (by rw[<-ebk];exact eq) ers
      simp(disch:=omega)
      exact b1 _ _ (ret1 _ h5 y v5 gm5 hit kv5 sv5 (hx5 y ers) (by simp))
   ·have:kd=3:=by omega
    subst this
    have nxt:=hLk.next
    have wk1:IntKind.i64.wrap ((k:Int)+1)=((k+1:Nat):Int):=by rw[wrap64 (by omega) (by omega)];omega
    simp(disch:=omega)[t0,wk1]
    try simp(disch:=omega)[t0,wrap64]
    refine⟨k+1,?_,by omega⟩
    and_intros<;>first|assumption|exact gm.1|exact gm.2|omega|rfl
  ·have:k=n:=by omega
   subst this
   simp(disch:=omega)
   obtain⟨v,kv,sv⟩:=hO
   exact b0 _ _ (fin0 _ h' v hm hL kv sv)
theorem c31(h:Heap)(hp:0<h.length)(W H c:Int)(br:List Int)(sb so sn sz many ob cb:Nat)(hv:∀h',Mod ob (ob+1) h h'->Vr h' shInts (sl sb so sn sz) br)(ok:OkP (W,H,br))(hb:br.length<=12)(hm:many<=3)(kc:h[cb]?=some ⟨[I c],true⟩)(hne:cb≠ob)(hob:HasOb ob h):ACall Gam 31 [.agg #[I W,I H,sl sb so sn sz],I many,.func (.func 84) #[] #[pt ob 0,pt cb 0]] h λr h'=>Mod ob (ob+1) h h'∧OutR ob h' r (srF W H c many 0 br []):=by
 have obl:ob<h.length:=by obtain⟨v,hv,_⟩:=hob;exact at_lt hv
 have cbl:=at_lt kc
 have w8:=ok.w
 have h8:=ok.h
 simp only at w8 h8
 refine ACall_intro g31 rfl ?_
 unfold fn31
 rw[awp_seq,awp_reg]
 generalize hK:seqQ Gam _ _ 0=K
 try simp(disch:=omega)
 obtain⟨pb,epb⟩:∃pb,pb=h.length:=⟨_,rfl⟩
 obtain⟨h1,e1⟩:∃h1,h1=h++[⟨[I W,I H,sl sb so sn sz],true⟩,⟨[I many],true⟩,⟨[.func (.func 84) #[] #[pt ob 0,pt cb 0]],true⟩]:=⟨_,rfl⟩
 have g1:Grows h h1:=⟨_,e1⟩
 have l1:h1.length=pb+3:=by rw[e1,epb];simp
 have k1:h1[pb]?=some ⟨[I W,I H,sl sb so sn sz],true⟩:=by rw[e1,epb];simp
 have k2:h1[pb+1]?=some ⟨[I many],true⟩:=by rw[e1,epb];simp
 have k3:h1[pb+2]?=some ⟨[.func (.func 84) #[] #[pt ob 0,pt cb 0]],true⟩:=by rw[e1,epb];simp
 rw[<-e1,<-epb]
 subst hK
 simp only[seqQ_zero]
 rw[awp_seq,awp_reg]
 generalize hK:seqQ Gam _ _ 0=K
 simp(disch:=omega)[aBox,cellsOf,scalar]
 subst hK
 simp only[seqQ_zero]
 obtain⟨FN,eFN⟩:∃FN,FN=Value.func (.func 32) #[] #[pt (pb+1) 0,pt (pb+2) 0,pt pb 0,pt (pb+3) 0]:=⟨_,rfl⟩
 have fv:∀g:Heap,funcV 32 [] [pt (pb+1) 0,pt (pb+2) 0,pt pb 0,pt (pb+3) 0] g=some (FN,g):=λg=>by rw[eFN];rfl
 have st:storeAt (h1++[⟨[.nilFunc],true⟩]) (pb+3) 0 [FN]=some (h1++[⟨[FN],true⟩]):=by rw[<-l1];exact store_box rfl
 have cof:cellsOf FN=some [FN]:=by rw[eFN];rfl
 rw[l1]
 rw[awp_seq,awp_reg]
 generalize hK:seqQ Gam _ _ 0=K
 simp(disch:=omega)[fv,aStore,cof,st]
 obtain⟨h2,e2⟩:∃h2,h2=h1++[⟨[FN],true⟩]:=⟨_,rfl⟩
 have g2:Grows h1 h2:=⟨_,e2⟩
 have k4:h2[pb+3]?=some ⟨[FN],true⟩:=by rw[e2,<-l1];simp
 rw[<-e2]
 subst hK
 simp only[seqQ_zero]
 have g12:=g1.trans g2
 have env:Env32 h2 (pb+1) (pb+2) pb (pb+3) ob cb many W H c br:=⟨⟨by omega,by omega,by omega,by omega,hne⟩,g2.at k2,g2.at k3,by rw[<-eFN];exact k4,g12.at kc,_,g2.at k1,λh' m=>hv h' (g12.mod.trans m)⟩
 have cf:=cell_of (i:=0) k4 (v:=FN) (by simp)
 have cp:=cellsAt_all (n:=3) (g2.at k1) rfl
 have hob2:HasOb ob h2:=by obtain⟨v,a,b⟩:=hob;exact⟨v,g12.at a,b⟩
 have pa2:PaS ob h2 (.agg #[I W,I H,sl sb so sn sz]) (W,H,br):=λh' m=>Vr.of_panel (by unfold I64;omega) (by unfold I64;omega) (hv h' (g12.mod.trans m))
 have call:=c32 (pb+1) (pb+2) pb (pb+3) ob cb many W H c br hb hm many h2 0 (sl 0 0 0 0) _ br [] (pos_of hp g12) env (by simp) (λh' m=>⟨0,0,0,rfl,.inl rfl⟩) pa2 ok rfl (λ_ _=>rfl) hob2 (by omega)
 rw[awp_seq,awp_reg]
 generalize hK:seqQ Gam _ _ 0=K
 simp(disch:=omega)[cf,cp]
 rw[eFN]
 try simp(disch:=omega)
 refine callW_of call ?_
 rintro r h3⟨m3,o3⟩
 try refine⟨λe=>(by cases e),?_⟩
 obtain⟨v,kv,sv,rfl,hx⟩:=o3
 try simp(disch:=omega)
 subst hK
 try simp(disch:=omega)
 exact⟨g12.mod.trans m3,v,kv,sv,rfl,hx⟩
theorem c187(h:Heap)(v:Value)(X:Pan)(c e:Int)(hv:Vr h shPanel v X):ACall Gam 187 [v,I c,I e] h λr h'=>r=I (seCode X c e)∧h'=h:=by
 have hv0:=hv
 obtain⟨A,eA⟩:∃A,A=seCode X c e:=⟨_,rfl⟩
 have eA0:=eA
 unfold seCode at eA0
 rw[<-eA]
 obtain⟨W,H,br⟩:=X
 obtain⟨s,rfl,w1,w2,r⟩:=hv.panel
 refine ACall_intro g187 rfl ?_
 unfold fn187
 rw[awp_seq,awp_reg]
 generalize hK:seqQ Gam _ _ 0=K
 try simp(disch:=omega)
 subst hK
 simp only[seqQ_zero]
 rw[awp_seq]
 generalize hK:seqQ Gam _ _=K
 try simp(disch:=omega)
 refine callW_of (c140 _ _ h hv0) ?_
 rintro _ h1⟨rfl,rfl⟩
 try refine⟨λe=>(by cases e),?_⟩
 cases e1:okP (W,H,br)
 ·simp only[e1,Bool.false_eq_true,if_false]at eA0
  subst eA0
  try simp(disch:=omega)
  subst hK
  try simp(disch:=omega)
 simp only[e1,if_true]at eA0
 try simp(disch:=omega)
 subst hK
 simp only[seqQ_zero]
 rw[awp_seq]
 generalize hK:seqQ Gam _ _=K
 try simp(disch:=omega)
 have i1:=c164 c 1 1000 h1
 have i2:=c164 e 0 3 h1
 refine callW_of i1 ?_
 rintro _ _⟨rfl,rfl⟩
 try refine⟨λe=>(by cases e),?_⟩
 cases r1:inR c 1 1000
 ·have:¬(1<=c∧c<=1000):=λq=>by rw[inR_iff.2 q]at r1;cases r1
  rw[if_neg (λq=>this q.1)]at eA0
  subst eA0
  try simp(disch:=omega)
  subst hK
  try simp(disch:=omega)
 have q1:=inR_iff.1 r1
 try simp(disch:=omega)
 refine callW_of i2 ?_
 rintro _ _⟨rfl,rfl⟩
 try refine⟨λe=>(by cases e),?_⟩
 cases r2:inR e 0 3
 ·have:¬(0<=e∧e<=3):=λq=>by rw[inR_iff.2 q]at r2;cases r2
  rw[if_neg (λq=>this q.2)]at eA0
  subst eA0
  try simp(disch:=omega)
  subst hK
  try simp(disch:=omega)
 have q2:=inR_iff.1 r2
 rw[if_pos ⟨q1,q2⟩]at eA0
 try simp(disch:=omega)
 subst hK
 simp only[seqQ_zero]
 obtain⟨sb,so,sz,rfl,_⟩:=r.ints
 rw[awp_seq]
 generalize hK:seqQ Gam _ _=K
 try simp(disch:=omega)
 refine fork_dec (λhlt=>?_) (λhge=>?_)
 ·rw[if_pos (by omega)]at eA0
  subst eA0
  try simp(disch:=omega)
  subst hK
  try simp(disch:=omega)
 ·rw[if_neg (by omega)]at eA0
  subst eA0
  try simp(disch:=omega)
  subst hK
  try simp(disch:=omega)
def FewR(h h':Heap)(r:Value)(A:Edits×Int):Prop:=Grows h h'∧∃b o n y,r=.tuple #[sl b o n y,I A.2]∧EdR h' (sl b o n y) A.1
def LeftF(W H c:Int)(br:List Int)(m j:Nat)(res:Option Edits):Prop:=fewN W H c br m (m-j)=res
theorem mod_grows{ob:Nat}{h0 h h':Heap}(g:Grows h0 h)(m:Mod ob (ob+1) h h')(hb:h0.length<=ob):Grows h0 h':=
 grows_of (Nat.le_trans g.le m.1) λb hb'=>by rw[m.2 b (by have:=g.le;omega) (by omega),g.look hb']
theorem c83(h:Heap)(hp:0<h.length)(v:Value)(X:Pan)(c e:Int)(hv:Vr h shPanel v X):ACall Gam 83 [v,I c,I e] h λr h'=>FewR h h' r (fewA X c e):=by
 have hv0:=hv
 obtain⟨A,eA⟩:∃A,A=fewA X c e:=⟨_,rfl⟩
 have eA0:=eA
 unfold fewA at eA0
 rw[<-eA]
 have c187':=λh hv=>c187 h v X c e hv
 obtain⟨cd,ecd⟩:∃cd,cd=seCode X c e:=⟨_,rfl⟩
 have ecd0:=ecd
 unfold seCode at ecd0
 simp only[<-ecd]at c187' eA0
 obtain⟨W,H,br⟩:=X
 obtain⟨s,rfl,w1,w2,r⟩:=hv.panel
 obtain⟨sb,so,sz,rfl,_⟩:=r.ints
 obtain⟨n,en⟩:∃n,n=br.length:=⟨_,rfl⟩
 rw[<-en]at c187' hv0 r ⊢
 refine ACall_intro g83 rfl ?_
 unfold fn83
 rw[awp_seq,awp_reg]
 generalize hK:seqQ Gam _ _ 0=K
 try simp(disch:=omega)
 obtain⟨cb,ecb⟩:∃cb,cb=h.length:=⟨_,rfl⟩
 obtain⟨h1,e1⟩:∃h1,h1=h++[⟨[I c],true⟩]:=⟨_,rfl⟩
 have g1:Grows h h1:=⟨_,e1⟩
 have l1:h1.length=cb+1:=by rw[e1,ecb];simp
 have kc:h1[cb]?=some ⟨[I c],true⟩:=by rw[e1,ecb];simp
 have cc:=cell_of (i:=0) kc (v:=I c) (by simp)
 rw[<-e1,<-ecb]
 subst hK
 simp only[seqQ_zero]
 rw[awp_seq]
 generalize hK:seqQ Gam _ _=K
 simp(disch:=omega)[cc]
 refine callW_of (c187' h1 (hv0.grow g1)) ?_
 rintro _ _⟨rfl,rfl⟩
 try refine⟨λe=>(by cases e),?_⟩
 by_cases q:cd=0
 case neg=>
  rw[if_neg q]at eA0
  simp(disch:=omega)[q]
  subst hK
  try simp(disch:=omega)
  rw[eA0]
  exact⟨g1,0,0,0,0,rfl,0,0,0,rfl,.inl rfl⟩
 rename_i h1
 rw[if_pos q]at eA0
 rw[q]at ecd0
 have e1':okP (W,H,br)=true:=by
  cases e:okP (W,H,br)
  ·rw[e]at ecd0;simp at ecd0
  ·rfl
 simp only[e1',if_true]at ecd0
 have qce:(1<=c∧c<=1000)∧(0<=e∧e<=3):=by
  by_cases q:(1<=c∧c<=1000)∧(0<=e∧e<=3)
  ·exact q
  ·rw[if_neg q]at ecd0;omega
 rw[if_pos qce]at ecd0
 have hb12:br.length<=12:=by
  by_cases q:12<br.length
  ·rw[if_pos q]at ecd0;omega
  ·omega
 have ok:=okP_iff.1 e1'
 simp(disch:=omega)[q]
 subst hK
 simp only[seqQ_zero]
 have sbx:storeAt (h1++[⟨[sl 0 0 0 0],true⟩]) h1.length 0 [sl 0 0 0 2]=some (h1++[⟨[sl 0 0 0 2],true⟩]):=store_box rfl
 rw[awp_seq,awp_reg]
 generalize hK:seqQ Gam _ _ 0=K
 simp(disch:=omega)[sbx]
 obtain⟨ob,eob⟩:∃ob,ob=h1.length:=⟨_,rfl⟩
 obtain⟨h2,e2⟩:∃h2,h2=h1++[⟨[sl 0 0 0 2],true⟩]:=⟨_,rfl⟩
 have g2:Grows h1 h2:=⟨_,e2⟩
 have ko:h2[ob]?=some ⟨[sl 0 0 0 2],true⟩:=by rw[e2,eob];simp
 rw[<-e2,<-eob]
 subst hK
 simp only[seqQ_zero]
 have g12:=g1.trans g2
 have vst:∀h',Mod ob (ob+1) h2 h'->Vr h' shInts (sl sb so n sz) br:=λh' m=>r.grow (mod_grows g12 m (by have:=g1.le;omega))
 have fv:∀g:Heap,funcV 84 [] [pt ob 0,pt cb 0] g=some (.func (.func 84) #[] #[pt ob 0,pt cb 0],g):=λg=>rfl
 obtain⟨m,em⟩:∃m,m=e.toNat+1:=⟨_,rfl⟩
 have wm:IntKind.i64.wrap (e+1)=m:=by rw[wrap64 (by omega) (by omega)];omega
 rw[<-em]at eA0
 obtain⟨RES,eR⟩:∃RES,RES=fewN W H c br m m:=⟨_,rfl⟩
 rw[<-eR]at eA0
 have L0:LeftF W H c br m 0 RES:=eR.symm
 have hob:HasOb ob h2:=⟨_,ko,_,_,_,_,rfl⟩
 rw[awp_seq]
 generalize hP:seqQ Gam _ _=PP
 simp(disch:=omega)[wm]
 refine awp_loop (λj σ h'=>j<=m∧Mod ob (ob+1) h2 h'∧LeftF W H c br m j RES∧HasOb ob h'∧σ 3=.agg #[I W,I H,sl sb so n sz]∧σ 4=pt cb 0∧σ 9=pt ob 0∧σ 20=I m∧σ 21=I j) (λj=>m-j) 0 ?_ ?_
 ·exact⟨by omega,Mod.refl _ _ _,L0,hob,by simp,by simp,by simp,by simp,by simp⟩
 rintro j σ h'⟨hj,hm,hL,hO,q3,q4,q9,q20,q21⟩
 simp(disch:=omega)[q20,q21]
 refine fork_dec (λhlt=>?_) (λhge=>?_)
 ·have j1:j<m:=by omega
  have ls:=hL
  unfold LeftF at ls
  rw[fewN_succ j1]at ls
  have cbo:cb≠ob:=by omega
  have call:=c31 h' (by have:=hm.1;have:=pos_of hp g12;omega) W H c br sb so n sz j ob cb (λh2' m2=>vst h2' (hm.trans m2)) ok hb12 (by omega) (mod_at hm (g2.at kc) cbo) cbo hO
  simp(disch:=omega)[q3,q4,q9,q21,fv]
  refine callW_of call ?_
  rintro r h3⟨m3,o3⟩
  try refine⟨λe=>(by cases e),?_⟩
  have hm3:=hm.trans m3
  have has3:=o3.has
  obtain⟨v,kv,sv,rfl,hx⟩:=o3
  cases ers:srF W H c j 0 br []with
  |none=>
   rw[ers]at ls
   have nxt:LeftF W H c br m (j+1) RES:=ls
   try simp(disch:=omega)
   try simp(disch:=omega)[q21,wrap64]
   refine⟨j+1,?_,by omega⟩
   and_intros<;>first|assumption|exact hm3.1|exact hm3.2|omega|rfl
  |some y=>
   rw[ers]at ls
   have er:RES=some y:=ls.symm
   rw[er]at eA0
   simp only at eA0
   have co:=cell_of (i:=0) kv (v:=v) (by simp)
   obtain⟨b,o,n',y',rfl⟩:=sv
   simp(disch:=omega)[q9,co]
   subst hP
   try simp(disch:=omega)
   rw[eA0]
   exact⟨mod_grows g12 hm3 (by have:=g1.le;omega),b,o,n',y',rfl,(hx y ers).r⟩
 ·have:j=m:=by omega
  subst this
  have er:RES=none:=by
   unfold LeftF at hL
   rw[<-hL,Nat.sub_self];rfl
  rw[er]at eA0
  simp only at eA0
  try simp(disch:=omega)
  subst hP
  try simp(disch:=omega)
  rw[eA0]
  exact⟨mod_grows g12 hm (by have:=g1.le;omega),0,0,0,0,rfl,0,0,0,rfl,.inl rfl⟩
section
variable {lo sb wb wz nb ny ab an ay : Nat} {fv : Value} {fd : Bool} {cnt lst mst W H c : Int} {h : Heap} {br : List Int} {now : Edits}
end
section
variable {lo sb wb wz nb ny ab an ay : Nat} {fv : Value} {fd : Bool} {cnt lst mst W H c : Int} {h : Heap} {br : List Int} {now : Edits}
end
section
variable {lo sb wb wz al : Nat} {fd : Bool} {W H c : Int} {h : Heap} {br : List Int} {now fst : Edits}
end
def edS(p:Int×Int):List UInt8:=decS p.1++[61]++decS p.2
def edT(l:Edits):List UInt8:=joinS [32] (l.map edS)
theorem edS_len{p:Int×Int}(h1:I64 p.1)(h2:I64 p.2):(edS p).length<=41:=by
 have a:=(decS_len h1).2
 have b:=(decS_len h2).2
 unfold edS
 simp;omega
theorem edB_64{l:Edits}(hb:EdB l){k:Nat}(hk:k<l.length):I64 l[k].1∧I64 l[k].2:=by
 have:=hb.2 _ (List.getElem_mem hk)
 unfold I64;omega
theorem edT_len{l:Edits}(hb:EdB l):∀k,k<=l.length->(edT (l.take k)).length<=42*k
 |0,_=>by simp[edT,joinS]
 |k+1,h=>by
  have ih:=edT_len hb k (by omega)
  have k1:k<l.length:=by omega
  have:=edB_64 hb k1
  have e:=edS_len this.1 this.2
  unfold edT at ih ⊢
  rw[List.take_succ_eq_append_getElem k1,List.map_append,show[l[k]].map edS=[edS l[k]]from rfl,joinS_snoc]
  split
  ·omega
  ·simp only[List.length_append,List.length_singleton];omega
theorem EdR.cells{h:Heap}{v:Value}{l:Edits}(x:EdR h v l):∃b o y,v=sl b o l.length y∧∀i (hi:i<l.length),cellsAt h b (o+i*2) 2=some [I l[i].1,I l[i].2]:=by
 obtain⟨b,o,y,e,hc⟩:=x
 refine⟨b,o,y,e,λi hi=>?_⟩
 exact(flat_cells (f:=λp:Int×Int=>[I p.1,I p.2]) (z:=2) (n:=l.length) (λ_=>rfl) (edV_len l).symm (by omega) (hc.imp (λe=>by rw[e];rfl) id)).2 i hi
theorem c158(h:Heap)(hp:0<h.length)(v:Value)(L:Edits)(hv:EdR h v L)(hb:EdB L):ACall Gam 158 [v] h λr h'=>Grows h h'∧r=S (edT L):=by
 obtain⟨bb,o,zz,rfl,hc⟩:=hv.cells
 have hl3:=hb.1
 have hdl:=edT_len hb L.length (Nat.le_refl _)
 rw[List.take_length]at hdl
 unfold edT at hdl ⊢
 refine ACall_intro g158 rfl ?_
 unfold fn158
 rw[awp_seq,awp_reg]
 generalize hK:seqQ Gam _ _ 0=K
 simp(disch:=omega)
 subst hK
 simp only[seqQ_zero]
 rw[awp_seq,awp_reg]
 generalize hK:seqQ Gam _ _ 0=K
 simp(disch:=omega)
 subst hK
 simp only[seqQ_zero]
 simp(disch:=omega)
 refine awp_loop (λk σ h'=>k<=L.length∧Grows h h'∧Buf h h' (σ 3) 1 (texts ((L.take k).map edS))∧σ 7=sl bb o L.length zz∧σ 8=I L.length∧σ 9=I k) (λk=>L.length-k) 0 ?_ ?_
 ·exact⟨by omega,Grows.refl _,by simpa [texts]using Buf.nil,by simp,by simp,by simp⟩
 ·rintro k σ h'⟨hk,hg,p3,p7,p8,p9⟩
  simp(disch:=omega)[p8,p9]
  refine fork_dec (λhlt=>?_) (λhge=>?_)
  ·have k1:k<L.length:=by omega
   obtain⟨hx1,hx2⟩:=edB_64 hb k1
   have q1:=hg.cellsAt (hc k k1)
   have hd1:=(decS_len hx1).2
   have hd2:=(decS_len hx2).2
   have b1:(decS L[k].1).length<=4611686018427387903:=by omega
   have b2:(decS L[k].1).length+1+(decS L[k].2).length<=4611686018427387904:=by omega
   have b3:(decS L[k].1).length+(1+(decS L[k].2).length)<=4611686018427387904:=by omega
   have b4:(decS L[k].1).length+((decS L[k].2).length+1)<=4611686018427387904:=by omega
   have e1:decS L[k].1++([61]++decS L[k].2)=edS L[k]:=by unfold edS;simp
   have e2:decS L[k].1++61::decS L[k].2=edS L[k]:=by unfold edS;simp
   have e3:decS L[k].1++[61]++decS L[k].2=edS L[k]:=rfl
   simp(disch:=omega)[p7,p9,k1,q1]
   refine callW_of (c75 _ hx1 _ (pos_of hp hg)) ?_
   rintro _ h2⟨rfl,g2⟩
   have hg2:=hg.trans g2
   try refine⟨λe=>(by first|exact g2|cases e),?_⟩
   simp(disch:=omega)[b1]
   refine callW_of (c75 _ hx2 _ (pos_of hp hg2)) ?_
   rintro _ h3⟨rfl,g3⟩
   have hg3:=hg2.trans g3
   try refine⟨λe=>(by first|exact g3|cases e),?_⟩
   simp(disch:=omega)[b2,b3,b4,e1,e2,e3]
   refine append_word hp (by simp;omega) hg3 ((p3.grow g2).grow g3) λv3 h4 g4 b4'=>?_
   try simp(disch:=omega)[p7,p8,p9,wrap64]
   refine⟨k+1,⟨by omega,g4,?_,by omega⟩,by omega⟩
   rw[<-List.map_take,List.take_succ_eq_append_getElem k1,List.map_append]
   exact b4'
  ·have:k=L.length:=by omega
   subst this
   rw[List.take_length]at p3
   try simp(disch:=omega)
   refine callW_of (c167 _ _ [32] _ p3.reads (by omega) (by simp;omega)) ?_
   rintro _ h2⟨rfl,rfl⟩
   try refine⟨λe=>(by cases e),?_⟩
   simp(disch:=omega)[hg]
/-- Numbers that can be read. -/
def Vi(h:Heap)(v:Value)(X:List Int):Prop:=∃b o z,v=sl b o X.length z∧True∧X.length<=maxLen∧(∀x∈X,I64 x)∧(X=[]∨cellsAt h b o X.length=some (Am.ints X))
theorem Vi.rw{h:Heap}{v:Value}{X:List Int}(x:Rw h v 1 (Am.ints X))(hm:X.length<=maxLen)(hx:∀x∈X,I64 x):Vi h v X:=by
 obtain⟨b,o,n,y,e,hn,hc⟩:=x
 rw[Nat.mul_one]at hn hc
 have:n=X.length:=by rw[hn];simp[Am.ints]
 subst this
 refine⟨b,o,y,e,trivial,hm,hx,hc.imp (λe=>List.length_eq_zero_iff.1 e) id⟩
theorem Vi.vr{h:Heap}{v:Value}{X:List Int}(x:Vr h shInts v X):Vi h v X:=by
 obtain⟨b,o,z,e,_,hm,hx,hc⟩:=x.ints
 exact⟨b,o,z,e,trivial,hm,hx,hc⟩
theorem c91w(h:Heap)(v:Value)(L:List Int)(hv:Vi h v L):ACall Gam 91 [v] h λr h'=>r=B (pairOk L)∧h'=h:=by
 obtain⟨bb,o,zz,rfl,hzz,hm,hx,hc⟩:=hv
 have hm':L.length<=maxLen:=hm
 rw[maxLen_eq]at hm'
 obtain⟨A,eA⟩:∃A,A=pairOk L:=⟨_,rfl⟩
 rw[<-eA]
 refine ACall_intro g91 rfl ?_
 unfold fn91
 rw[awp_seq,awp_reg]
 generalize hK:seqQ Gam _ _ 0=K
 simp(disch:=omega)
 subst hK
 simp only[seqQ_zero]
 rw[awp_seq]
 generalize hK:seqQ Gam _ _=K
 have hno:pairLen L=false->A=false:=λe=>by rw[eA];unfold pairOk;rw[e];rfl
 by_cases q1:L.length<2
 ·have:=hno (by unfold pairLen;simp;omega)
  subst this
  have q1':(L.length:Int)<2:=by omega
  simp(disch:=omega)[q1,q1']
  subst hK
  simp(disch:=omega)
 have q1':¬(L.length:Int)<2:=by omega
 by_cases q2:16<L.length
 ·have:=hno (by unfold pairLen;simp;omega)
  subst this
  have q2':(16:Int)<L.length:=by omega
  simp(disch:=omega)[q1,q1',q2,q2']
  subst hK
  simp(disch:=omega)
 have q2':¬(16:Int)<L.length:=by omega
 have q0:Int.tmod (L.length:Int) 2=((L.length%2:Nat):Int):=rfl
 by_cases q3:L.length%2=1
 ·have:=hno (by unfold pairLen;simp;omega)
  subst this
  have q3':¬((L.length%2:Nat):Int)=0:=by omega
  have q4':¬L.length%2=0:=by omega
  simp(disch:=omega)[q1,q1',q2,q2',q0,q3,q3',q4',wrap64]
  subst hK
  simp(disch:=omega)
 have q3:L.length%2=0:=by omega
 have q3':((L.length%2:Nat):Int)=0:=by omega
 have hl:pairLen L=true:=by unfold pairLen;simp;omega
 simp(disch:=omega)[q1,q1',q2,q2',q0,q3,q3',wrap64]
 subst hK
 simp only[seqQ_zero]
 rw[awp_seq]
 generalize hP:seqQ Gam _ _=PP
 simp(disch:=omega)
 refine awp_loop (λk σ h'=>h'=h∧k<=L.length∧(∀j,j<k->pairEl L j=true)∧σ 0=sl bb o L.length zz∧σ 19=sl bb o L.length zz∧σ 20=I L.length∧σ 21=I k) (λk=>L.length-k) 0 ?_ ?_
 ·exact⟨rfl,by omega,by simp,by simp,by simp,by simp,by simp⟩
 ·rintro k σ h'⟨rfl,hk,hin,p0,p19,p20,p21⟩
  simp(disch:=omega)[p20,p21]
  refine fork_dec (λhlt=>?_) (λhge=>?_)
  ·have k1:k<L.length:=by omega
   have hcc:=ints_cell hc k1
   have eg:=getD_at (d:=0) k1
   have hin':pairEl L k=true->∀j,j<k+1->pairEl L j=true:=λe j hj=>by
    by_cases q:j=k
    ·rw[q];exact e
    ·exact hin j (by omega)
   have hbad:pairEl L k=false->A=false:=λe=>by rw[eA];exact pairOk_no k1 e
   have hel:pairEl L k=(decide (0<=L.getD k 0∧L.getD k 0<L.length)&&decide (L.getD k 0≠k)&&decide (L.getD (L.getD k 0).toNat 0=k)):=rfl
   rw[eg]at hel
   obtain⟨x,ex⟩:∃x,x=L[k]:=⟨_,rfl⟩
   rw[<-ex]at hcc hel
   simp(disch:=omega)[p0,p19,p21,k1,hcc]
   refine callW_of (c163 x L.length hm h') ?_
   rintro _ h2⟨rfl,rfl⟩
   try refine⟨λe=>(by cases e),?_⟩
   by_cases r1:¬(0<=x∧x<L.length)
   ·have e1:inR x 0 ((L.length:Int)-1)=false:=by unfold inR;simp;omega
    have:=hbad (by rw[hel,decide_eq_false r1];rfl)
    subst this
    simp(disch:=omega)[e1]
    subst hP
    simp(disch:=omega)
   have e1:inR x 0 ((L.length:Int)-1)=true:=by unfold inR;simp;omega
   by_cases r2:x=k
   ·have:=hbad (by rw[hel];simp[r2])
    subst this
    have e1':inR (k:Int) 0 ((L.length:Int)-1)=true:=by rw[<-r2];exact e1
    simp(disch:=omega)[e1',r2]
    subst hP
    simp(disch:=omega)
   obtain⟨m,em⟩:∃m:Nat,x=m:=⟨x.toNat,by omega⟩
   have m1:m<L.length:=by omega
   have hcm:=ints_cell hc m1
   rw[em,Int.toNat_natCast,getD_at m1]at hel
   have r2':¬(m:Int)=k:=by omega
   have r2'':¬m=k:=by omega
   subst em
   by_cases r3:L[m]=k
   ·have hy:=hin' (by rw[hel];simp[r3,r2',r2'',m1])
    simp(disch:=omega)[e1,r2',r2'',m1,hcm,r3,p0,p19,p20,p21,wrap64]
    refine⟨k+1,?_,by omega⟩
    and_intros<;>first|assumption|omega|rfl
   ·have:=hbad (by rw[hel];simp[r3])
    subst this
    simp(disch:=omega)[e1,r2',r2'',m1,hcm,r3,p0,p19,p20,p21,wrap64]
    subst hP
    simp(disch:=omega)
  ·have:k=L.length:=by omega
   subst this
   have:A=true:=by rw[eA];exact pairOk_yes hl hin
   subst this
   simp(disch:=omega)
   subst hP
   simp(disch:=omega)
theorem c156cw(h:Heap)(hp:0<h.length)(v:Value)(X:List Int)(hv:Vi h v X)(hs:X.length<=1000):ACall Gam 156 [v,S [44]] h λr h'=>Grows h h'∧r=S (joinS [44] (X.map decS)):=by
 obtain⟨bb,o,zz,rfl,hzz,hm,hx,hc⟩:=hv
 refine ACall_intro g156 rfl ?_
 unfold fn156
 rw[awp_seq,awp_reg]
 generalize hK:seqQ Gam _ _ 0=K
 simp(disch:=omega)
 subst hK
 simp only[seqQ_zero]
 rw[awp_seq,awp_reg]
 generalize hK:seqQ Gam _ _ 0=K
 simp(disch:=omega)
 subst hK
 simp only[seqQ_zero]
 simp(disch:=omega)
 refine awp_loop (λk σ h'=>k<=X.length∧Grows h h'∧Buf h h' (σ 5) 1 (texts ((X.take k).map decS))∧σ 1=S [44]∧σ 9=sl bb o X.length zz∧σ 10=I X.length∧σ 11=I k) (λk=>X.length-k) 0 ?_ ?_
 ·exact⟨by omega,Grows.refl _,by simpa [texts]using Buf.nil,by simp,by simp,by simp,by simp⟩
 ·rintro k σ h'⟨hk,hg,p5,p1,p9,p10,p11⟩
  simp(disch:=omega)[p10,p11]
  refine fork_dec (λhlt=>?_) (λhge=>?_)
  ·have k1:k<X.length:=by omega
   have hx1:=hx _ (List.getElem_mem k1)
   have q1:=ints_cell (hc.imp id (grows_cellsAt hg)) k1
   simp(disch:=omega)[p9,p11,k1,q1]
   refine callW_of (c75 _ hx1 _ (pos_of hp hg)) ?_
   rintro _ h2⟨rfl,g2⟩
   have hg2:=hg.trans g2
   try refine⟨λe=>(by first|exact g2|cases e),?_⟩
   try simp(disch:=omega)
   refine append_word hp (by simp;omega) hg2 (p5.grow g2) λv3 h3 g3 b3=>?_
   try simp(disch:=omega)[p1,p9,p10,p11,wrap64]
   refine⟨k+1,⟨by omega,g3,?_,by omega⟩,by omega⟩
   rw[<-List.map_take,List.take_succ_eq_append_getElem k1,List.map_append]
   exact b3
  ·have:k=X.length:=by omega
   subst this
   rw[List.take_length]at p5
   have hdl:=join_lenC X hx X.length (Nat.le_refl _)
   rw[List.take_length]at hdl
   try simp(disch:=omega)[p1,p9]
   refine callW_of (c167 _ _ [44] _ p5.reads (by omega) (by simp;omega)) ?_
   rintro _ h2⟨rfl,rfl⟩
   try refine⟨λe=>(by cases e),?_⟩
   simp(disch:=omega)[hg]
theorem c109w(h:Heap)(hp:0<h.length)(v:Value)(L:List Int)(hv:Vi h v L):ACall Gam 109 [v] h λr h'=>Grows h h'∧r=S (pairT L):=by
 have hv0:=hv
 have hpl:=λe=>pairOk_len (L:=L) e
 obtain⟨A,eA⟩:∃A,A=pairT L:=⟨_,rfl⟩
 rw[<-eA]
 unfold pairT at eA
 obtain⟨bb,o,zz,rfl,hzz,hm,hx,hc⟩:=hv
 refine ACall_intro g109 rfl ?_
 unfold fn109
 simp(disch:=omega)
 refine callW_of (c91w h _ L hv0) ?_
 rintro _ h2⟨rfl,rfl⟩
 try refine⟨λe=>(by cases e),?_⟩
 cases e:pairOk L
 ·rw[e]at eA
  simp only[Bool.false_eq_true,if_false]at eA
  subst eA
  simp(disch:=omega)
  exact Grows.refl _
 ·rw[e]at eA
  simp only[if_true]at eA
  subst eA
  simp(disch:=omega)
  refine callW_of (c156cw h2 hp _ L hv0 (by have:=hpl e;omega)) ?_
  rintro _ h3⟨g3,rfl⟩
  try refine⟨λe=>(by first|exact g3|cases e),?_⟩
  simp(disch:=omega)
  exact g3
end Am

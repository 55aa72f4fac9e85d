/- Contracts: AmH90, AmH91, AmH92, AmH93, AmH94, AmH95, AmH96, AmH99, AmI1. -/
import Derived.Test.YtpgioncclmancaaGreatAmK18
import Derived.Test.YtpgioncclmancaaGreatAmK16
import Derived.Test.YtpgioncclmancaaGreatAmK7
import Derived.Test.YtpgioncclmancaaGreatAmK5
set_option linter.unusedVariables false
set_option linter.unusedSimpArgs false
set_option maxHeartbeats 4000000
set_option maxRecDepth 40000
namespace Am
open Go
/-- What a command gives the state. -/
def resJ(J:Jrn)(A:Jrn×List (List UInt8)×Int):Jrn:=if A.2.2=0 then A.1 else J
def resL(A:Jrn×List (List UInt8)×Int):List (List UInt8):=if A.2.2=0 then A.2.1 else[errT A.2.2]
def isCmd(s:List UInt8):Prop:=sizeW (word0 s)=(splitS 32 s).length
instance (s:List UInt8):Decidable (isCmd s):=by unfold isCmd;infer_instance
noncomputable def doneJ(J:Jrn)(s:List UInt8):Jrn:=if isCmd s then resJ J (exeA J (word0 s) (splitS 32 s).tail)else J
noncomputable def doneL(J:Jrn)(s:List UInt8):List (List UInt8):=if isCmd s then resL (exeA J (word0 s) (splitS 32 s).tail)else[]
theorem desk_eq{J:Jrn}{s:List UInt8}(ok:okJ J=true):deskA J s=if isCmd s then(doneJ J s,doneL J s,0)else(noJ,[],7):=by
 unfold deskA doneJ doneL
 rw[if_pos ok]
 by_cases e:isCmd s
 ·rw[if_pos e,if_pos e,if_pos e]
  rw[if_pos (show sizeW (word0 s)=(splitS 32 s).length from e)]
  unfold resJ resL
  split
  ·rfl
  ·rfl
 ·rw[if_neg e,if_neg (show ¬sizeW (word0 s)=(splitS 32 s).length from e)]
theorem sayL_le{n:Nat}:∀{L:List (List UInt8)},(∀l∈L,l.length<=n)->(sayL L).length<=(n+1)*L.length
 |[],_=>by simp[sayL]
 |a::r,h=>by
  have h1:=h a (by simp)
  have h2:=sayL_le (L:=r) λl hl=>h l (by simp[hl])
  have e:sayL (a::r)=(a++[10])++sayL r:=by simp[sayL]
  rw[e]
  simp only[List.length_append,List.length_cons,List.length_nil,Nat.mul_add,Nat.mul_one]
  omega
def OneL(J:Jrn)(L:List (List UInt8)):Prop:=L.length<=1∨L=picT J.1
theorem tell_one(J:Jrn)(w:List UInt8)(n:List Int):OneL J (tellA J w n).1:=by
 unfold tellA
 split
 ·exact .inr rfl
 repeat' (first|(split;exact .inl (by simp))|exact .inl (by simp))
theorem exe_one(J:Jrn)(w:List UInt8)(l:List (List UInt8)):OneL J (exeA J w l).2.1:=by
 unfold exeA
 split
 ·split
  ·exact .inl (by simp)
  ·exact .inl (by simp)
 ·split
  ·unfold runW
   split
   ·unfold doneA
    split
    ·exact .inl (by simp)
    ·exact .inl (by simp)
   ·exact tell_one J w _
  ·exact .inl (by simp)
theorem desk_say{J:Jrn}{s:List UInt8}(h:(deskA J s).2.2=0):(sayL (deskA J s).2.1).length<=400000:=by
 have bd:=(desk_bd h).1
 have ok:okJ J=true:=by
  unfold deskA at h
  split at h
  ·assumption
  ·exact absurd h (by decide)
 have one:OneL J (deskA J s).2.1:=by
  unfold deskA
  rw[if_pos ok]
  by_cases a:sizeW (word0 s)=(splitS 32 s).length
  ·rw[if_pos a]
   by_cases b:(exeA J (word0 s) (splitS 32 s).tail).2.2=0
   ·rw[if_pos b]
    exact exe_one J _ _
   ·rw[if_neg b]
    exact .inl (Nat.le_refl 1)
  ·rw[if_neg a]
   exact .inl (Nat.zero_le 1)
 rcases one with e|e
 ·have:=sayL_len bd.2.2
  omega
 ·rw[e]
  have okX:=okP_iff.1 (okJ_iff.1 ok).1
  have hw:=okX.w
  have hh:=okX.h
  have hx:∀l∈picT J.1,l.length<=30:=by
   intro l hl
   unfold picT at hl
   rcases List.mem_append.1 hl with hl|hl
   ·unfold picP at hl
    obtain⟨y,_,rfl⟩:=List.mem_map.1 hl
    rw[lineP_len];omega
   ·rw[List.mem_singleton.1 hl]
    have:=(decS_len (n:=((2*J.1.2.1.toNat+1:Nat):Int)) (by unfold I64;omega)).2
    simp only[List.length_append,List.length_cons,List.length_nil];omega
  have h1:=sayL_le hx
  have h2:(picT J.1).length<=18:=by unfold picT;rw[List.length_append,picP_len];simp;omega
  omega
def lineOk(x:List UInt8):Bool:=decide (x.length<=30)&&x.all (λc=>decide (c≠10))
def lw0:List (List UInt8):=[[110,101,119,32,50,32,49],[110,101,119,32,50,32,50],[110,101,119,32,51,32,51],[110,101,119,32,57,32,49],[110,101,119,32,49,32,49],[114,101,97,100,32,50,120,49,58,124],[114,101,97,100,32,50,120,50,58,43,124,45,43],[114,101,97,100,32,50,120,50,58,43,124],[114,101,97,100]]
theorem lw0_ok:∀x∈lw0,lineOk x=true:=by decide
theorem lw0_b(h:Heap):aBuildSlice 1 9 h [(0,.agg #[S [],S [],S [],S [],S [],S [],S [],S [],S []]),(1,S [110,101,119,32,50,32,49]),(1001,S [110,101,119,32,50,32,50]),(2001,S [110,101,119,32,51,32,51]),(3001,S [110,101,119,32,57,32,49]),(4001,S [110,101,119,32,49,32,49]),(5001,S [114,101,97,100,32,50,120,49,58,124]),(6001,S [114,101,97,100,32,50,120,50,58,43,124,45,43]),(7001,S [114,101,97,100,32,50,120,50,58,43,124]),(8001,S [114,101,97,100])]=some (sl h.length 0 lw0.length 1,h++[⟨lw0.map S,true⟩]):=by simp[aBuildSlice,lw0]
def lw1:List (List UInt8):=[[115,101,116,32,50,32,49,32,49],[115,101,116,32,50,32,49,32,50],[115,101,116,32,49,32,50,32,49],[115,101,116,32,51,32,50,32,50],[115,101,116,32,50,32,51,32,49],[115,101,116,32,52,32,49,32,49],[115,101,116,32,48,32,49,32,49],[115,101,116,32,49,32,49,32,49],[115,101,116,32,50,32,49,32,51],[115,101,116,32,50,32,49,32,48],[115,101,116,32,50,32,49,32,120]]
theorem lw1_ok:∀x∈lw1,lineOk x=true:=by decide
theorem lw1_b(h:Heap):aBuildSlice 1 11 h [(0,.agg #[S [],S [],S [],S [],S [],S [],S [],S [],S [],S [],S []]),(1,S [115,101,116,32,50,32,49,32,49]),(1001,S [115,101,116,32,50,32,49,32,50]),(2001,S [115,101,116,32,49,32,50,32,49]),(3001,S [115,101,116,32,51,32,50,32,50]),(4001,S [115,101,116,32,50,32,51,32,49]),(5001,S [115,101,116,32,52,32,49,32,49]),(6001,S [115,101,116,32,48,32,49,32,49]),(7001,S [115,101,116,32,49,32,49,32,49]),(8001,S [115,101,116,32,50,32,49,32,51]),(9001,S [115,101,116,32,50,32,49,32,48]),(10001,S [115,101,116,32,50,32,49,32,120])]=some (sl h.length 0 lw1.length 1,h++[⟨lw1.map S,true⟩]):=by simp[aBuildSlice,lw1]
def lw2:List (List UInt8):=[[117,110,100,111],[114,101,100,111],[117,110,100,111],[115,113,117,97,115,104],[115,104,111,119],[97,108,111,110,103]]
theorem lw2_ok:∀x∈lw2,lineOk x=true:=by decide
theorem lw2_b(h:Heap):aBuildSlice 1 6 h [(0,.agg #[S [],S [],S [],S [],S [],S []]),(1,S [117,110,100,111]),(1001,S [114,101,100,111]),(2001,S [117,110,100,111]),(3001,S [115,113,117,97,115,104]),(4001,S [115,104,111,119]),(5001,S [97,108,111,110,103])]=some (sl h.length 0 lw2.length 1,h++[⟨lw2.map S,true⟩]):=by simp[aBuildSlice,lw2]
def lw3:List (List UInt8):=[[112,105,99,116,117,114,101],[99,111,117,110,116],[108,101,110,103,116,104,115],[99,111,100,101],[119,114,105,116,104,101],[98,114,97,99,107,101,116]]
theorem lw3_ok:∀x∈lw3,lineOk x=true:=by decide
theorem lw3_b(h:Heap):aBuildSlice 1 6 h [(0,.agg #[S [],S [],S [],S [],S [],S []]),(1,S [112,105,99,116,117,114,101]),(1001,S [99,111,117,110,116]),(2001,S [108,101,110,103,116,104,115]),(3001,S [99,111,100,101]),(4001,S [119,114,105,116,104,101]),(5001,S [98,114,97,99,107,101,116])]=some (sl h.length 0 lw3.length 1,h++[⟨lw3.map S,true⟩]):=by simp[aBuildSlice,lw3]
def lw4:List (List UInt8):=[[99,111,108,117,109,110,32,48],[99,111,108,117,109,110,32,51],[99,111,108,117,109,110,32,57,57],[99,111,108,117,109,110,32,120],[112,97,115,115,101,115,32,48],[112,97,115,115,101,115,32,49],[112,97,115,115,101,115,32,57]]
theorem lw4_ok:∀x∈lw4,lineOk x=true:=by decide
theorem lw4_b(h:Heap):aBuildSlice 1 7 h [(0,.agg #[S [],S [],S [],S [],S [],S [],S []]),(1,S [99,111,108,117,109,110,32,48]),(1001,S [99,111,108,117,109,110,32,51]),(2001,S [99,111,108,117,109,110,32,57,57]),(3001,S [99,111,108,117,109,110,32,120]),(4001,S [112,97,115,115,101,115,32,48]),(5001,S [112,97,115,115,101,115,32,49]),(6001,S [112,97,115,115,101,115,32,57])]=some (sl h.length 0 lw4.length 1,h++[⟨lw4.map S,true⟩]):=by simp[aBuildSlice,lw4]
def lw5:List (List UInt8):=[[115,101,97,114,99,104,32,49,32,50],[115,101,97,114,99,104,32,50,32,49],[115,101,97,114,99,104,32,48,32,49],[115,101,97,114,99,104,32,53,32,51],[108,105,110,107,32,48,32,49],[108,105,110,107,32,48,32,48],[108,105,110,107,32,48,32,57]]
theorem lw5_ok:∀x∈lw5,lineOk x=true:=by decide
theorem lw5_b(h:Heap):aBuildSlice 1 7 h [(0,.agg #[S [],S [],S [],S [],S [],S [],S []]),(1,S [115,101,97,114,99,104,32,49,32,50]),(1001,S [115,101,97,114,99,104,32,50,32,49]),(2001,S [115,101,97,114,99,104,32,48,32,49]),(3001,S [115,101,97,114,99,104,32,53,32,51]),(4001,S [108,105,110,107,32,48,32,49]),(5001,S [108,105,110,107,32,48,32,48]),(6001,S [108,105,110,107,32,48,32,57])]=some (sl h.length 0 lw5.length 1,h++[⟨lw5.map S,true⟩]):=by simp[aBuildSlice,lw5]
def lw6:List (List UInt8):=[[],[102,111,111],[115,104,111,119,32,49],[115,101,116,32,50,32,49],[99,111,117,110,116],[99,111,100,101]]
theorem lw6_ok:∀x∈lw6,lineOk x=true:=by decide
theorem lw6_b(h:Heap):aBuildSlice 1 6 h [(0,.agg #[S [],S [],S [],S [],S [],S []]),(1,S []),(1001,S [102,111,111]),(2001,S [115,104,111,119,32,49]),(3001,S [115,101,116,32,50,32,49]),(4001,S [99,111,117,110,116]),(5001,S [99,111,100,101])]=some (sl h.length 0 lw6.length 1,h++[⟨lw6.map S,true⟩]):=by simp[aBuildSlice,lw6]
theorem c576(h:Heap)(b m:Nat)(hs:Src h b m)(hm:m<=1000000):ACall Gam 576 [pt b 0] h λr h'=>∃x,r=S x∧lineOk x=true∧Mod b (b+1) h h'∧Src h' b (m+4):=by
 have hb:b<h.length:=by
  obtain⟨_,_,_,_,_,_,e,_⟩:=hs
  exact at_lt e
 refine ACall_intro g576 rfl ?_
 unfold fn576
 rw[awp_seq,awp_reg]
 generalize hK:seqQ Gam _ _ 0=K
 simp(disch:=omega)
 subst hK
 simp only[seqQ_zero]
 rw[awp_seq]
 generalize hK:seqQ Gam _ _=K
 simp(disch:=omega)
 refine callW_of (c7 h b m 9 hs (by omega) (by unfold I64;omega)) ?_
 rintro _ h1⟨n,rfl,_,hn,md1,l1,s1⟩
 try refine⟨λe=>(by cases e),?_⟩
 have n9:=hn (by omega)
 have nb:h1.length≠b:=by omega
 have nc:n=0∨n=1∨n=2∨n=3∨n=4∨n=5∨n=6∨n=7∨n=8:=by omega
 have fin:∀(L:List (List UInt8)),(∀x∈L,lineOk x=true)->0<L.length->L.length<=200->ACall Gam 8 [pt b 0,sl h1.length 0 L.length 1] (h1++[⟨L.map S,true⟩]) λr h'=>∃x,r=S x∧lineOk x=true∧Mod b (b+1) h h'∧Src h' b (m+4):=by
  intro L hL h0 h200
  have g1:Grows h1 (h1++[⟨L.map S,true⟩]):=⟨_,rfl⟩
  refine ACall.mono (c8 _ b (m+2) h1.length L (s1.grow g1) (by omega) (by simp) nb h0 h200) ?_
  rintro r h'⟨x,hx,rfl,md,_,s2⟩
  exact⟨x,rfl,hL x hx,(md1.trans g1.mod).trans md,s2⟩
 rcases nc with rfl|rfl|rfl|rfl|rfl|rfl|rfl|rfl|rfl
 ·simp(disch:=omega)[lw0_b]
  refine callW_of (fin lw0 lw0_ok (by decide) (by decide)) ?_
  rintro _ h2⟨x,rfl,a1,a2,a3⟩
  try refine⟨λe=>(by cases e),?_⟩
  try simp(disch:=omega)
  try subst hK
  try simp(disch:=omega)
  exact⟨a1,a2,a3⟩
 ·simp(disch:=omega)[lw1_b]
  refine callW_of (fin lw1 lw1_ok (by decide) (by decide)) ?_
  rintro _ h2⟨x,rfl,a1,a2,a3⟩
  try refine⟨λe=>(by cases e),?_⟩
  try simp(disch:=omega)
  try subst hK
  try simp(disch:=omega)
  exact⟨a1,a2,a3⟩
 ·simp(disch:=omega)[lw1_b]
  refine callW_of (fin lw1 lw1_ok (by decide) (by decide)) ?_
  rintro _ h2⟨x,rfl,a1,a2,a3⟩
  try refine⟨λe=>(by cases e),?_⟩
  try simp(disch:=omega)
  try subst hK
  try simp(disch:=omega)
  exact⟨a1,a2,a3⟩
 ·simp(disch:=omega)[lw2_b]
  refine callW_of (fin lw2 lw2_ok (by decide) (by decide)) ?_
  rintro _ h2⟨x,rfl,a1,a2,a3⟩
  try refine⟨λe=>(by cases e),?_⟩
  try simp(disch:=omega)
  try subst hK
  try simp(disch:=omega)
  exact⟨a1,a2,a3⟩
 ·simp(disch:=omega)[lw3_b]
  refine callW_of (fin lw3 lw3_ok (by decide) (by decide)) ?_
  rintro _ h2⟨x,rfl,a1,a2,a3⟩
  try refine⟨λe=>(by cases e),?_⟩
  try simp(disch:=omega)
  try subst hK
  try simp(disch:=omega)
  exact⟨a1,a2,a3⟩
 ·simp(disch:=omega)[lw4_b]
  refine callW_of (fin lw4 lw4_ok (by decide) (by decide)) ?_
  rintro _ h2⟨x,rfl,a1,a2,a3⟩
  try refine⟨λe=>(by cases e),?_⟩
  try simp(disch:=omega)
  try subst hK
  try simp(disch:=omega)
  exact⟨a1,a2,a3⟩
 ·simp(disch:=omega)[lw5_b]
  refine callW_of (fin lw5 lw5_ok (by decide) (by decide)) ?_
  rintro _ h2⟨x,rfl,a1,a2,a3⟩
  try refine⟨λe=>(by cases e),?_⟩
  try simp(disch:=omega)
  try subst hK
  try simp(disch:=omega)
  exact⟨a1,a2,a3⟩
 ·simp(disch:=omega)[lw6_b]
  try subst hK
  try simp(disch:=omega)[lw6_b]
  refine callW_of (fin lw6 lw6_ok (by decide) (by decide)) ?_
  rintro _ h2⟨x,rfl,a1,a2,a3⟩
  try refine⟨λe=>(by cases e),?_⟩
  try simp(disch:=omega)
  try subst hK
  try simp(disch:=omega)
  exact⟨a1,a2,a3⟩
 ·simp(disch:=omega)[lw6_b]
  try subst hK
  try simp(disch:=omega)[lw6_b]
  refine callW_of (fin lw6 lw6_ok (by decide) (by decide)) ?_
  rintro _ h2⟨x,rfl,a1,a2,a3⟩
  try refine⟨λe=>(by cases e),?_⟩
  try simp(disch:=omega)
  try subst hK
  try simp(disch:=omega)
  exact⟨a1,a2,a3⟩
theorem Src.low{h h':Heap}{b m:Nat}(x:Src h b m)(e:∀c,c<=b->h'[c]?=h[c]?):Src h' b m:=by
 obtain⟨cb,co,n,z,a,s,h1,h2,h3,h4,h5,h6,h7⟩:=x
 refine⟨cb,co,n,z,a,s,by rw[e b (Nat.le_refl _)];exact h1,h2,h3,h4,h5,h6,λi hi=>?_⟩
 obtain⟨y,c1,c2⟩:=h7 i hi
 refine⟨y,?_,c2⟩
 have:cb<b:=by omega
 unfold cell at c1 ⊢
 rw[e cb (by omega)]
 exact c1
def LnS(b:Nat)(h:Heap)(v:Value)(j:Nat):Prop:=∃(Ls:List (List UInt8)) (ob oy:Nat),v=sl ob 0 Ls.length oy∧Ls.length=j∧((Ls=[]∧ob=0)∨(ob≠0∧oy=1∧b<ob∧h[ob]?=some ⟨texts Ls,true⟩))∧∀x∈Ls,lineOk x=true
theorem LnS.push{b:Nat}{h:Heap}{v:Value}{j:Nat}{x:List UInt8}(s:LnS b h v j)(hj:j<=100)(hx:lineOk x=true)(hb:b<h.length):∃v' h2,aAppend 1 (h++[⟨[S x],true⟩]) (sl h.length 0 1 1) v=some (v',h2)∧LnS b h2 v' (j+1)∧h.length<=h2.length∧∀c,c<=b->h2[c]?=h[c]?:=by
 obtain⟨Ls,ob,oy,rfl,hl,d,ok⟩:=s
 have hn:newCells 1 (h++[⟨[S x],true⟩]) (sl h.length 0 1 1)=some [S x]:=by
  simp[newCells]
  rw[cellsAt_of (k:=⟨[S x],true⟩) (by simp) (by simp)]
  simp
 have ok2:∀y∈Ls++[x],lineOk y=true:=by
  intro y hy
  rcases List.mem_append.1 hy with hy|hy
  ·exact ok y hy
  ·rw[List.mem_singleton.1 hy];exact hx
 rcases d with⟨d1,d2⟩|⟨d1,d2,d3,d4⟩
 ·subst d1;subst d2
  refine⟨sl (h.length+1) 0 1 1,h++[⟨[S x],true⟩]++[⟨[S x],true⟩],?_,⟨[x],h.length+1,1,rfl,by simp at hl ⊢;omega,.inr ⟨by omega,rfl,by omega,?_⟩,by simpa using hx⟩,by simp,λc hc=>?_⟩
  ·simp only[aAppend,hn]
   rw[if_neg (by omega),if_neg (by simp),if_neg (by simp[maxSize]),if_pos trivial]
   simp
  ·rw[List.getElem?_append_right (by simp)];simp[texts]
  ·rw[List.append_assoc,List.getElem?_append_left (by omega)]
 ·subst d2
  have hf:(h++[⟨[S x],true⟩])[ob]?=some ⟨texts Ls,true⟩:=by rw[List.getElem?_append_left (at_lt d4)];exact d4
  have hc:=cellsAt_all (n:=Ls.length*1) hf (by simp[texts])
  refine⟨sl (h.length+1) 0 (Ls.length+1) 1,List.set (h++[(⟨[S x],true⟩:Blk)]) ob (⟨[],false⟩:Blk)++[⟨texts Ls++[S x],true⟩],?_,⟨Ls++[x],h.length+1,1,by simp,by simp[hl],.inr ⟨by omega,rfl,by omega,?_⟩,ok2⟩,by simp;omega,λc hc=>?_⟩
  ·simp only[aAppend,hn]
   rw[if_neg (by omega),if_neg (by simp),if_neg (by simp[maxSize];omega),if_neg d1]
   simp only[hf]
   rw[if_pos ⟨trivial,trivial⟩,hc]
   simp
  ·rw[List.getElem?_append_right (by simp)];simp[texts]
  ·rw[List.getElem?_append_left (by simp;omega),List.getElem?_set_ne (by omega),List.getElem?_append_left (by omega)]
def LinesD(h h':Heap)(r:Value):Prop:=Grows h h'∧∃(L:List (List UInt8)) (lb y:Nat),r=sl lb 0 L.length y∧(∀k (hk:k<L.length),cell h' lb k=some (S L[k]))∧L.length<=9∧∀x∈L,lineOk x=true
theorem c328(h:Heap)(hp:0<h.length)(v:Value)(X:List Int)(hv:Vr h shBytes v X):ACall Gam 328 [v] h λr h'=>LinesD h h' r:=by
 have c431':=c431 h v X hv
 refine ACall_intro g328 rfl ?_
 unfold fn328
 rw[awp_seq,awp_reg]
 generalize hK:seqQ Gam _ _ 0=K
 simp(disch:=omega)
 subst hK
 simp only[seqQ_zero]
 rw[awp_seq,awp_reg]
 generalize hK:seqQ Gam _ _ 0=K
 simp(disch:=omega)
 refine callW_of c431' ?_
 rintro _ h1⟨rfl,g1,l1,s1⟩
 try refine⟨λe=>(by first|exact g1|cases e),?_⟩
 try simp(disch:=omega)
 subst hK
 simp only[seqQ_zero]
 obtain⟨b,eb⟩:∃b,b=h.length:=⟨_,rfl⟩
 rw[<-eb]at s1 ⊢
 rw[awp_seq,awp_reg]
 generalize hK:seqQ Gam _ _ 0=K
 simp(disch:=omega)
 subst hK
 simp only[seqQ_zero]
 rw[awp_seq]
 generalize hP:seqQ Gam _ _=PP
 rw[awp_seq,awp_reg]
 generalize hK:seqQ Gam _ _ 0=K
 simp(disch:=omega)
 refine callW_of (c7 h1 b 0 9 s1 (by omega) (by unfold I64;omega)) ?_
 rintro _ h2⟨n,rfl,_,hn,md2,l2,s2⟩
 try refine⟨λe=>(by cases e),?_⟩
 have n9:=hn (by omega)
 have G2:Grows h h2:=grows_of (by omega) (λc hc=>by rw[md2.2 c (by omega) (by omega),g1.look hc])
 obtain⟨T,eT⟩:∃T:Nat,T=1+n:=⟨_,rfl⟩
 have wT:IntKind.i64.wrap (1+(n:Int))=((T:Nat):Int):=by rw[wrap64 (by omega) (by omega)];omega
 simp(disch:=omega)[wT]
 subst hK
 simp only[seqQ_zero]
 have fin:∀(σ:Nat->Value) (h':Heap),Grows h h'->LnS b h' (σ 4) T->PP 0 σ h':=by
  intro σ h' hg ls
  obtain⟨Ls,ob,oy,e4,hl,d,ok⟩:=ls
  subst hP
  simp(disch:=omega)[e4]
  refine⟨hg,Ls,ob,oy,rfl,λk hk=>?_,by omega,ok⟩
  rcases d with⟨d1,_⟩|⟨_,_,_,d4⟩
  ·subst d1;simp at hk
  ·exact cell_of d4 (by simp[texts,List.getElem?_eq_getElem hk])
 clear hP
 simp(disch:=omega)
 have b0:∀(σ:Nat->Value) (h':Heap),PP 0 σ h'->blockQ 0 PP 2 σ h':=by
  intro σ h' x;rw[blockQ_eq,if_pos rfl];exact x
 generalize blockQ 0 PP=B0 at b0 ⊢
 refine awp_loop (λj σ h'=>j<=T∧Grows h h'∧b<h'.length∧LnS b h' (σ 4) j∧Src h' b (2+4*j)∧σ 3=pt b 0∧σ 5=I ((T-j:Nat):Int)) (λj=>T-j) 0 ?_ ?_
 ·exact⟨by omega,G2,by omega,⟨[],0,1,by simp,rfl,.inl ⟨rfl,rfl⟩,by simp⟩,by simpa using s2,by simp,by simp⟩
 rintro j σ h'⟨hj,hg,hb,ls,sr,q3,q5⟩
 simp(disch:=omega)[q5]
 by_cases jT:j<T
 ·have jI:(0:Int)<((T-j:Nat):Int):=by omega
  have jN:0<T-j:=by omega
  have wj:IntKind.i64.wrap (((T-j:Nat):Int)-1)=((T-(j+1):Nat):Int):=by rw[wrap64 (by omega) (by omega)];omega
  simp(disch:=omega)[jI,jN,jT,q3]
  refine callW_of (c576 h' b (2+4*j) sr (by omega)) ?_
  rintro _ h3⟨x,rfl,okx,md3,s3⟩
  try refine⟨λe=>(by cases e),?_⟩
  have ls3:LnS b h3 (σ 4) j:=by
   obtain⟨Ls,ob,oy,e4,hl,d,ok⟩:=ls
   refine⟨Ls,ob,oy,e4,hl,d.imp id λ⟨d1,d2,d3,d4⟩=>⟨d1,d2,d3,?_⟩,ok⟩
   rw[md3.2 ob (at_lt d4) (by omega)];exact d4
  have hb3:b<h3.length:=by have:=md3.1;omega
  obtain⟨v4,h4,A4,ls4,l4,low4⟩:=ls3.push (by omega) okx hb3
  have G4:Grows h h4:=grows_of (by have:=hg.le;have:=md3.1;omega) (λc hc=>by rw[low4 c (by omega),md3.2 c (by have:=hg.le;omega) (by omega),hg.look hc])
  have s4:=s3.low low4
  simp(disch:=omega)[one_text,A4,q5]
  try simp(disch:=omega)[wj]
  have s5:=s4.mono (show 2+4*j+4<=2+4*(j+1)by omega)
  have hb4:b<h4.length:=by omega
  refine⟨j+1,?_,by omega⟩
  and_intros<;>first|assumption|omega|rfl
 ·have:j=T:=by omega
  subst this
  simp(disch:=omega)
  exact b0 _ _ (fin _ h' hg (by simpa using ls))
end Am

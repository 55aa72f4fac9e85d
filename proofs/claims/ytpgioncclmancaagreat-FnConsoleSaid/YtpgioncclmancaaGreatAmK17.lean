/- Contracts: AmH80, AmH81, AmH82, AmH83, AmH84, AmH85. -/
import Derived.Test.YtpgioncclmancaaGreatAmK16
import Derived.Test.YtpgioncclmancaaGreatAmK1
import Derived.Test.YtpgioncclmancaaGreatAmK13
import Derived.Test.YtpgioncclmancaaGreatAmK8
import Derived.Test.YtpgioncclmancaaGreatAmK2
import Derived.Test.YtpgioncclmancaaGreatAmK14
import Derived.Test.YtpgioncclmancaaGreatAmK11
import Derived.Test.YtpgioncclmancaaGreatAmK5
import Derived.Test.YtpgioncclmancaaGreatAmK4
import Derived.Test.YtpgioncclmancaaGreatAmK3
import Derived.Test.YtpgioncclmancaaGreatAmK7
import Derived.Test.YtpgioncclmancaaGreatAmK15
import Derived.Test.YtpgioncclmancaaGreatAmK9
set_option linter.unusedVariables false
set_option linter.unusedSimpArgs false
set_option maxHeartbeats 4000000
set_option maxRecDepth 40000
namespace Am
open Go
def wAlong:List UInt8:=[97,108,111,110,103]
def wBracket:List UInt8:=[98,114,97,99,107,101,116]
def wCode:List UInt8:=[99,111,100,101]
def wCount:List UInt8:=[99,111,117,110,116]
def wLengths:List UInt8:=[108,101,110,103,116,104,115]
def wPicture:List UInt8:=[112,105,99,116,117,114,101]
def wRedo:List UInt8:=[114,101,100,111]
def wShow:List UInt8:=[115,104,111,119]
def wSquash:List UInt8:=[115,113,117,97,115,104]
def wUndo:List UInt8:=[117,110,100,111]
def wWrithe:List UInt8:=[119,114,105,116,104,101]
def wColumn:List UInt8:=[99,111,108,117,109,110]
def wPasses:List UInt8:=[112,97,115,115,101,115]
def wRead:List UInt8:=[114,101,97,100]
def wLink:List UInt8:=[108,105,110,107]
def wNew:List UInt8:=[110,101,119]
def wSearch:List UInt8:=[115,101,97,114,99,104]
def wSet:List UInt8:=[115,101,116]
def sizeW(w:List UInt8):Nat:=if w∈[wAlong,wBracket,wCode,wCount,wLengths,wPicture,wRedo,wShow,wSquash,wUndo,wWrithe]then 1 else if w∈[wColumn,wPasses,wRead]then 2 else if w∈[wLink,wNew,wSearch]then 3 else if w=wSet then 4 else 0
def codeNames:List (List UInt8):=[[111,107],[105,110,118,97,108,105,100],[114,97,110,103,101],[110,111,116,45,102,111,117,110,100],[101,120,105,115,116,115],[102,117,108,108],[115,116,97,116,101],[115,121,110,116,97,120],[102,111,114,109,97,116],[99,108,97,115,104],[111,112,101,110]]
def cdName(c:Int):List UInt8:=if 0<=c∧c<=10 then codeNames.getD c.toNat []else[]
def noneT(t:List UInt8):List UInt8:=if t=[]then[110,111,110,101]else t
theorem c202(w:List UInt8)(h:Heap):ACall Gam 202 [S w] h λr h'=>r=I (sizeW w)∧h'=h:=by
 refine ACall_intro g202 rfl ?_
 unfold fn202
 by_cases e0:w=[97,108,111,110,103]
 ·subst e0
  rw[show sizeW [97,108,111,110,103]=1 from by decide]
  simp(disch:=omega)
 by_cases e1:w=[98,114,97,99,107,101,116]
 ·subst e1
  rw[show sizeW [98,114,97,99,107,101,116]=1 from by decide]
  simp(disch:=omega)
 by_cases e2:w=[99,111,100,101]
 ·subst e2
  rw[show sizeW [99,111,100,101]=1 from by decide]
  simp(disch:=omega)
 by_cases e3:w=[99,111,117,110,116]
 ·subst e3
  rw[show sizeW [99,111,117,110,116]=1 from by decide]
  simp(disch:=omega)
 by_cases e4:w=[108,101,110,103,116,104,115]
 ·subst e4
  rw[show sizeW [108,101,110,103,116,104,115]=1 from by decide]
  simp(disch:=omega)
 by_cases e5:w=[112,105,99,116,117,114,101]
 ·subst e5
  rw[show sizeW [112,105,99,116,117,114,101]=1 from by decide]
  simp(disch:=omega)
 by_cases e6:w=[114,101,100,111]
 ·subst e6
  rw[show sizeW [114,101,100,111]=1 from by decide]
  simp(disch:=omega)
 by_cases e7:w=[115,104,111,119]
 ·subst e7
  rw[show sizeW [115,104,111,119]=1 from by decide]
  simp(disch:=omega)
 by_cases e8:w=[115,113,117,97,115,104]
 ·subst e8
  rw[show sizeW [115,113,117,97,115,104]=1 from by decide]
  simp(disch:=omega)
 by_cases e9:w=[117,110,100,111]
 ·subst e9
  rw[show sizeW [117,110,100,111]=1 from by decide]
  simp(disch:=omega)
 by_cases e10:w=[119,114,105,116,104,101]
 ·subst e10
  rw[show sizeW [119,114,105,116,104,101]=1 from by decide]
  simp(disch:=omega)
 by_cases e11:w=[99,111,108,117,109,110]
 ·subst e11
  rw[show sizeW [99,111,108,117,109,110]=2 from by decide]
  simp(disch:=omega)
 by_cases e12:w=[112,97,115,115,101,115]
 ·subst e12
  rw[show sizeW [112,97,115,115,101,115]=2 from by decide]
  simp(disch:=omega)
 by_cases e13:w=[114,101,97,100]
 ·subst e13
  rw[show sizeW [114,101,97,100]=2 from by decide]
  simp(disch:=omega)
 by_cases e14:w=[108,105,110,107]
 ·subst e14
  rw[show sizeW [108,105,110,107]=3 from by decide]
  simp(disch:=omega)
 by_cases e15:w=[110,101,119]
 ·subst e15
  rw[show sizeW [110,101,119]=3 from by decide]
  simp(disch:=omega)
 by_cases e16:w=[115,101,97,114,99,104]
 ·subst e16
  rw[show sizeW [115,101,97,114,99,104]=3 from by decide]
  simp(disch:=omega)
 by_cases e17:w=[115,101,116]
 ·subst e17
  rw[show sizeW [115,101,116]=4 from by decide]
  simp(disch:=omega)
 rw[show sizeW w=0 from by simp[sizeW,wAlong,wBracket,wCode,wCount,wLengths,wPicture,wRedo,wShow,wSquash,wUndo,wWrithe,wColumn,wPasses,wRead,wLink,wNew,wSearch,wSet,e0,e1,e2,e3,e4,e5,e6,e7,e8,e9,e10,e11,e12,e13,e14,e15,e16,e17]]
 simp(disch:=omega)[e0,e1,e2,e3,e4,e5,e6,e7,e8,e9,e10,e11,e12,e13,e14,e15,e16,e17]
theorem c67(c:Int)(h:Heap):ACall Gam 67 [I c] h λr h'=>r=S (cdName c)∧h'=h:=by
 refine ACall_intro g67 rfl ?_
 unfold fn67
 by_cases e0:c=0
 ·subst e0
  rw[show cdName 0=[111,107]from by decide]
  simp(disch:=omega)
 by_cases e1:c=1
 ·subst e1
  rw[show cdName 1=[105,110,118,97,108,105,100]from by decide]
  simp(disch:=omega)
 by_cases e2:c=2
 ·subst e2
  rw[show cdName 2=[114,97,110,103,101]from by decide]
  simp(disch:=omega)
 by_cases e3:c=3
 ·subst e3
  rw[show cdName 3=[110,111,116,45,102,111,117,110,100]from by decide]
  simp(disch:=omega)
 by_cases e4:c=4
 ·subst e4
  rw[show cdName 4=[101,120,105,115,116,115]from by decide]
  simp(disch:=omega)
 by_cases e5:c=5
 ·subst e5
  rw[show cdName 5=[102,117,108,108]from by decide]
  simp(disch:=omega)
 by_cases e6:c=6
 ·subst e6
  rw[show cdName 6=[115,116,97,116,101]from by decide]
  simp(disch:=omega)
 by_cases e7:c=7
 ·subst e7
  rw[show cdName 7=[115,121,110,116,97,120]from by decide]
  simp(disch:=omega)
 by_cases e8:c=8
 ·subst e8
  rw[show cdName 8=[102,111,114,109,97,116]from by decide]
  simp(disch:=omega)
 by_cases e9:c=9
 ·subst e9
  rw[show cdName 9=[99,108,97,115,104]from by decide]
  simp(disch:=omega)
 by_cases e10:c=10
 ·subst e10
  rw[show cdName 10=[111,112,101,110]from by decide]
  simp(disch:=omega)
 rw[show cdName c=[]from by unfold cdName;rw[if_neg (by omega)]]
 simp(disch:=omega)[e0,e1,e2,e3,e4,e5,e6,e7,e8,e9,e10]
theorem c178(t:List UInt8)(h:Heap):ACall Gam 178 [S t] h λr h'=>r=S (noneT t)∧h'=h:=by
 refine ACall_intro g178 rfl ?_
 unfold fn178
 unfold noneT
 by_cases e:t=[]
 ·simp(disch:=omega)[e]
 ·simp(disch:=omega)[e]
/-- Whether a point may change: a code. -/
noncomputable def inCode(X:Pan)(x y:Int):Int:=if okP X=true then(if ptQ X.1 X.2.1 x y=true then(if edgeW X.1.toNat X.2.1.toNat x y then 6 else 0)else 2)else 1
noncomputable def numA(X:Pan)(x y:Int):Int×Int:=if inCode X x y=0 then((numP X.1.toNat x.toNat y.toNat:Nat),0)else(0,inCode X x y)
theorem inCode_ok{X:Pan}{x y:Int}(h:inCode X x y=0):OkP X∧ptQ X.1 X.2.1 x y=true∧¬edgeW X.1.toNat X.2.1.toNat x y:=by
 unfold inCode at h
 by_cases a:okP X=true
 ·rw[if_pos a]at h
  by_cases b:ptQ X.1 X.2.1 x y=true
  ·rw[if_pos b]at h
   by_cases c:edgeW X.1.toNat X.2.1.toNat x y
   ·rw[if_pos c]at h;omega
   ·exact⟨okP_iff.1 a,b,c⟩
  ·rw[if_neg b]at h;omega
 ·rw[if_neg a]at h;omega
theorem pt_in{W H x y:Int}(h:ptQ W H x y=true)(hw:1<=W∧W<=8)(hh:1<=H∧H<=8)(e:¬edgeW W.toNat H.toNat x y):∃a b:Nat,x=a∧y=b∧(1<=a∧a<17)∧(1<=b∧b<17)∧(a+b)%2=1:=by
 unfold ptQ at h
 have h:=of_decide_eq_true h
 unfold edgeW at e
 exact⟨x.toNat,y.toNat,by omega,by omega,by omega,by omega,by omega⟩
theorem c165(h:Heap)(v:Value)(X:Pan)(x y:Int)(hv:Vr h shPanel v X):ACall Gam 165 [v,.agg #[I x,I y]] h λr h'=>r=I (inCode X x y)∧h'=h:=by
 have hv0:=hv
 obtain⟨A,eA⟩:∃A,A=inCode X x y:=⟨_,rfl⟩
 have eA0:=eA
 unfold inCode at eA0
 rw[<-eA]
 obtain⟨W,H,br⟩:=X
 obtain⟨s,rfl,w1,w2,r⟩:=hv.panel
 obtain⟨sb,so,sz,rfl,_⟩:=r.ints
 refine ACall_intro g165 rfl ?_
 unfold fn165
 rw[awp_seq,awp_reg]
 generalize hK:seqQ Gam _ _ 0=K
 try simp(disch:=omega)
 subst hK
 simp only[seqQ_zero]
 rw[awp_seq]
 generalize hK:seqQ Gam _ _=K
 try simp(disch:=omega)
 refine callW_of (c140 _ _ h hv0) ?_
 rintro _ h1⟨rfl,rfl⟩
 try refine⟨λe=>(by cases e),?_⟩
 cases e1:okP (W,H,br)
 ·simp only[e1,Bool.false_eq_true,if_false]at eA0
  subst eA0
  try simp(disch:=omega)
  subst hK
  try simp(disch:=omega)
 have ok:=okP_iff.1 e1
 have hw:=ok.w
 have hh:=ok.h
 simp only at hw hh
 simp only[e1,if_true]at eA0
 try simp(disch:=omega)
 refine callW_of (c36 h1 W H x y _ hw hh) ?_
 rintro _ _⟨rfl,rfl⟩
 try refine⟨λe=>(by cases e),?_⟩
 cases e2:ptQ W H x y
 ·simp only[e2,Bool.false_eq_true,if_false]at eA0
  subst eA0
  try simp(disch:=omega)
  subst hK
  try simp(disch:=omega)
 simp only[e2,if_true]at eA0
 try simp(disch:=omega)
 refine callW_of (c34 _ W H x y _ hw hh) ?_
 rintro _ _⟨rfl,rfl⟩
 try refine⟨λe=>(by cases e),?_⟩
 by_cases e3:edgeW W.toNat H.toNat x y
 ·rw[if_pos e3]at eA0
  subst eA0
  simp(disch:=omega)[e3]
  try subst hK
  try simp(disch:=omega)
 ·rw[if_neg e3]at eA0
  subst eA0
  simp(disch:=omega)[e3]
  try subst hK
  try simp(disch:=omega)
theorem c103(h:Heap)(v:Value)(X:Pan)(x y:Int)(hv:Vr h shPanel v X):ACall Gam 103 [v,.agg #[I x,I y]] h λr h'=>r=.tuple #[I (numA X x y).1,I (numA X x y).2]∧h'=h:=by
 have hv0:=hv
 obtain⟨A,eA⟩:∃A,A=numA X x y:=⟨_,rfl⟩
 have eA0:=eA
 unfold numA at eA0
 rw[<-eA]
 have hi:=@inCode_ok X x y
 have c165':=λh v hv=>c165 h v X x y hv
 obtain⟨cd,ecd⟩:∃cd,cd=inCode X x y:=⟨_,rfl⟩
 rw[<-ecd]at eA0 hi c165'
 obtain⟨W,H,br⟩:=X
 obtain⟨s,rfl,w1,w2,r⟩:=hv.panel
 obtain⟨sb,so,sz,rfl,_⟩:=r.ints
 refine ACall_intro g103 rfl ?_
 unfold fn103
 rw[awp_seq,awp_reg]
 generalize hK:seqQ Gam _ _ 0=K
 try simp(disch:=omega)
 subst hK
 simp only[seqQ_zero]
 rw[awp_seq]
 generalize hK:seqQ Gam _ _=K
 try simp(disch:=omega)
 refine callW_of (c165' h _ hv0) ?_
 rintro _ h1⟨rfl,rfl⟩
 try refine⟨λe=>(by cases e),?_⟩
 by_cases q:cd=0
 ·obtain⟨ok,a1,a2⟩:=hi q
  have hw:=ok.w
  have hh:=ok.h
  simp only at hw hh
  obtain⟨a,b,rfl,rfl,ha,hb,hab⟩:=pt_in a1 hw hh a2
  obtain⟨n,rfl⟩:∃n:Nat,W=n:=⟨W.toNat,by omega⟩
  obtain⟨m,rfl⟩:∃m:Nat,H=m:=⟨H.toNat,by omega⟩
  rw[if_pos q]at eA0
  simp only[Int.toNat_natCast]at eA0
  simp(disch:=omega)[q]
  subst hK
  simp(disch:=omega)
  refine callW_of (c40 h1 n m a b _ (by omega) (by omega) ha hb hab) ?_
  rintro _ _⟨rfl,rfl⟩
  try refine⟨λe=>(by cases e),?_⟩
  rw[eA0]
  try simp(disch:=omega)
 ·rw[if_neg q]at eA0
  subst eA0
  simp(disch:=omega)[q]
  subst hK
  try simp(disch:=omega)
def newA(a b:Int):Pan×Int:=if okSz a b=true then(newP a b,0)else((0,0,[]),2)
theorem c102(h:Heap)(hp:0<h.length)(a b:Int):ACall Gam 102 [I a,I b] h λr h'=>Grows h h'∧∃r0,r=.tuple #[r0,I (newA a b).2]∧Vo h' h.length h'.length shPanel r0 (newA a b).1:=by
 obtain⟨A,eA⟩:∃A,A=newA a b:=⟨_,rfl⟩
 have eA0:=eA
 unfold newA at eA0
 rw[<-eA]
 refine ACall_intro g102 rfl ?_
 unfold fn102
 rw[awp_seq,awp_reg]
 generalize hK:seqQ Gam _ _ 0=K
 try simp(disch:=omega)
 subst hK
 simp only[seqQ_zero]
 rw[awp_seq]
 generalize hK:seqQ Gam _ _=K
 try simp(disch:=omega)
 refine callW_of (c198 a b h) ?_
 rintro _ h1⟨rfl,rfl⟩
 try refine⟨λe=>(by cases e),?_⟩
 cases e1:okSz a b
 ·rw[e1,if_neg (by simp)]at eA0
  subst eA0
  simp(disch:=omega)
  subst hK
  simp(disch:=omega)
  exact⟨Grows.refl _,_,rfl,Vo.no_panel⟩
 ·rw[e1,if_pos rfl]at eA0
  subst eA0
  unfold okSz at e1
  simp only[Bool.and_eq_true]at e1
  simp(disch:=omega)
  subst hK
  simp(disch:=omega)
  refine callW_of (c177 h1 a b (inR_iff.1 e1.1) (inR_iff.1 e1.2) hp) ?_
  rintro r0 h2⟨g2,o⟩
  try refine⟨λe=>(by first|exact g2|cases e),?_⟩
  have ov:=o
  unfold newP at ov
  obtain⟨s,rfl,w1,w2,i⟩:=ov.panel
  obtain⟨ib,iz,rfl,_⟩:=i.ints
  rw[List.length_replicate]at o
  simp(disch:=omega)
  exact⟨g2,_,rfl,o⟩
def listT(X:List Int):List UInt8:=noneT (joinS [44] (X.map decS))
noncomputable def setA(J:Jrn)(x y k:Int):Jrn×Int:=if(numA J.1 x y).2=0 then doAns J (numA J.1 x y).1 k else(noJ,(numA J.1 x y).2)
def newJA(a b:Int):Jrn×Int:=if(newA a b).2=0 then njAns (newA a b).1 else(noJ,(newA a b).2)
/-- The commands that change a journal. -/
noncomputable def cmdA(J:Jrn)(w:List UInt8)(n:List Int):Jrn×Int:=
 if w=wUndo then undoAns J else if w=wRedo then redoAns J else if w=wSquash then sqAns J else if w=wSet then setA J (n.getD 0 0) (n.getD 1 0) (n.getD 2 0)
 else if w=wNew then newJA (n.getD 0 0) (n.getD 1 0)else(J,0)
theorem Vr.jx{h:Heap}{v:Value}{X:Jrn}(x:Vr h shJournal v X):∃W H b1 o1 n1 z1 b2 o2 n2 z2 b3 o3 n3 z3,v=.agg #[I W,I H,sl b1 o1 n1 z1,sl b2 o2 n2 z2,sl b3 o3 n3 z3]∧Vr h shPanel (.agg #[I W,I H,sl b1 o1 n1 z1]) X.1:=by
 obtain⟨⟨W,H,br⟩,p,f⟩:=X
 obtain⟨s,sp,sf,rfl,w1,w2,r1,r2,r3⟩:=x.journal
 obtain⟨b1,o1,z1,rfl,_⟩:=r1.ints
 obtain⟨b2,o2,z2,rfl,_⟩:=r2.trips
 obtain⟨b3,o3,z3,rfl,_⟩:=r3.trips
 exact⟨W,H,b1,o1,_,z1,b2,o2,_,z2,b3,o3,_,z3,rfl,Vr.of_panel w1 w2 r1⟩
theorem Vi.at{h:Heap}{v:Value}{X:List Int}(x:Vi h v X):∃b o z,v=sl b o X.length z∧∀k,k<X.length->cell h b (o+k)=some (I (X.getD k 0))∧I64 (X.getD k 0):=by
 obtain⟨b,o,z,e,_,_,hx,hc⟩:=x
 refine⟨b,o,z,e,λk hk=>⟨ints_getD hc hk,?_⟩⟩
 rw[List.getD_eq_getElem?_getD,List.getElem?_eq_getElem hk]
 exact hx _ (List.getElem_mem hk)
theorem Vr.px{h:Heap}{v:Value}{X:Pan}(x:Vr h shPanel v X):∃W H b1 o1 n1 z1,v=.agg #[I W,I H,sl b1 o1 n1 z1]:=by
 obtain⟨W,H,br⟩:=X
 obtain⟨s,rfl,_,_,r⟩:=x.panel
 obtain⟨b1,o1,z1,rfl,_⟩:=r.ints
 exact⟨W,H,b1,o1,_,z1,rfl⟩
theorem new_siz(a b:Int):siz shPanel (newA a b).1<=1048576:=by
 unfold newA
 split
 ·rename_i h
  unfold okSz at h
  simp only[Bool.and_eq_true]at h
  have h1:=inR_iff.1 h.1
  have h2:=inR_iff.1 h.2
  have ok:=newP_ok h1 h2
  have:=ok_len ok
  unfold newP at this ⊢
  rw[siz_panel]
  omega
 ·rw[siz_panel];simp
theorem rowN_leW(W:Nat):∀y,rowN W y<=y*W
 |0=>by simp[rowN]
 |y+1=>by
  have:=rowN_leW W y
  unfold rowN
  rw[Nat.succ_mul]
  split<;>omega
theorem num_64(X:Pan)(x y:Int):I64 (numA X x y).1:=by
 unfold numA
 split
 ·rename_i h
  obtain⟨ok,a1,a2⟩:=inCode_ok h
  have hw:=ok.w
  have hh:=ok.h
  obtain⟨a,b,rfl,rfl,ha,hb,hab⟩:=pt_in a1 hw hh a2
  simp only[Int.toNat_natCast]
  have:numP X.1.toNat a b<=1000:=by
   unfold numP
   have h1:=rowN_leW X.1.toNat b
   have h2:b*X.1.toNat<=16*8:=Nat.mul_le_mul (by omega) (by omega)
   omega
  unfold I64;omega
 ·unfold I64;simp
theorem c23(h:Heap)(hp:0<h.length)(v nv:Value)(w:List UInt8)(n:List Int)(J:Jrn)(hv:Vr h shJournal v J)(hs:siz shJournal J<=1048576)(hn:Vi h nv n)(l3:w=wSet->n.length=3)(l2:w=wNew->n.length=2):ACall Gam 23 [v,S w,nv] h λr h'=>Grows h h'∧∃r0,r=.tuple #[r0,I (cmdA J w n).2]∧Vr h' shJournal r0 (cmdA J w n).1:=by
 have hv0:=hv
 obtain⟨A,eA⟩:∃A,A=cmdA J w n:=⟨_,rfl⟩
 rw[<-eA]
 obtain⟨W,H,b1,o1,n1,z1,b2,o2,n2,z2,b3,o3,n3,z3,rfl,hpan⟩:=hv.jx
 refine ACall_intro g23 rfl ?_
 unfold fn23
 rw[awp_seq,awp_reg]
 generalize hK:seqQ Gam _ _ 0=K
 simp(disch:=omega)
 subst hK
 simp only[seqQ_zero]
 rw[awp_seq]
 generalize hK:seqQ Gam _ _=K
 by_cases e1:w=[117,110,100,111]
 ·subst e1
  have a:A=undoAns J:=by rw[eA];simp[cmdA,wUndo]
  subst a
  simp(disch:=omega)
  refine callW_of (c134 h hp _ _ hv0 hs) ?_
  rintro _ h1⟨g1,r0,rfl,o,_⟩
  try refine⟨λe=>(by first|exact g1|cases e),?_⟩
  have ov:=o.vr
  obtain⟨W',H',b1',o1',n1',z1',b2',o2',n2',z2',b3',o3',n3',z3',rfl,_⟩:=ov.jx
  simp(disch:=omega)
  subst hK
  simp(disch:=omega)[resOf,resAll,resOne,aField]
  first|exact⟨g1,ov⟩|exact⟨g1,_,rfl,ov⟩
 by_cases e2:w=[114,101,100,111]
 ·subst e2
  have a:A=redoAns J:=by rw[eA];simp[cmdA,wUndo,wRedo]
  subst a
  simp(disch:=omega)
  refine callW_of (c123 h hp _ _ hv0 hs) ?_
  rintro _ h1⟨g1,r0,rfl,o,_⟩
  try refine⟨λe=>(by first|exact g1|cases e),?_⟩
  have ov:=o.vr
  obtain⟨W',H',b1',o1',n1',z1',b2',o2',n2',z2',b3',o3',n3',z3',rfl,_⟩:=ov.jx
  simp(disch:=omega)
  subst hK
  simp(disch:=omega)[resOf,resAll,resOne,aField]
  first|exact⟨g1,ov⟩|exact⟨g1,_,rfl,ov⟩
 by_cases e3:w=[115,113,117,97,115,104]
 ·subst e3
  have a:A=sqAns J:=by rw[eA];simp[cmdA,wUndo,wRedo,wSquash]
  subst a
  simp(disch:=omega)
  refine callW_of (c131 h hp _ _ hv0 hs) ?_
  rintro _ h1⟨g1,r0,rfl,o,_⟩
  try refine⟨λe=>(by first|exact g1|cases e),?_⟩
  have ov:=o.vr
  obtain⟨W',H',b1',o1',n1',z1',b2',o2',n2',z2',b3',o3',n3',z3',rfl,_⟩:=ov.jx
  simp(disch:=omega)
  subst hK
  simp(disch:=omega)[resOf,resAll,resOne,aField]
  first|exact⟨g1,ov⟩|exact⟨g1,_,rfl,ov⟩
 by_cases e4:w=[115,101,116]
 ·subst e4
  have a:A=setA J (n.getD 0 0) (n.getD 1 0) (n.getD 2 0):=by rw[eA];simp[cmdA,wUndo,wRedo,wSquash,wSet]
  have nl:=l3 rfl
  obtain⟨nb,no,nz,rfl,hc⟩:=hn.at
  obtain⟨q0,i0⟩:=hc 0 (by omega)
  obtain⟨q1,i1⟩:=hc 1 (by omega)
  obtain⟨q2,i2⟩:=hc 2 (by omega)
  rw[nl]
  rw[Nat.add_zero]at q0
  obtain⟨x,ex⟩:∃x,x=n.getD 0 0:=⟨_,rfl⟩
  obtain⟨y,ey⟩:∃y,y=n.getD 1 0:=⟨_,rfl⟩
  obtain⟨k,ek⟩:∃k,k=n.getD 2 0:=⟨_,rfl⟩
  rw[<-ex]at q0 i0 a
  rw[<-ey]at q1 i1 a
  rw[<-ek]at q2 i2 a
  have n64:=num_64 J.1 x y
  unfold setA at a
  have c103':=c103 h _ J.1 x y hpan
  obtain⟨NA,eN⟩:∃NA,NA=numA J.1 x y:=⟨_,rfl⟩
  rw[<-eN]at a c103' n64
  simp(disch:=omega)[q0,q1]
  refine callW_of c103' ?_
  rintro _ h1⟨rfl,rfl⟩
  try refine⟨λe=>(by first|cases e),?_⟩
  by_cases qc:NA.2=0
  ·rw[if_pos qc]at a
   subst a
   simp(disch:=omega)[qc,q2]
   refine callW_of (c82 h1 hp _ _ hv0 hs NA.1 n64 k i2) ?_
   rintro _ h2⟨g2,r0,rfl,o,_⟩
   try refine⟨λe=>(by first|exact g2|cases e),?_⟩
   have ov:=o.vr
   obtain⟨W',H',b1',o1',n1',z1',b2',o2',n2',z2',b3',o3',n3',z3',rfl,_⟩:=ov.jx
   simp(disch:=omega)
   subst hK
   simp(disch:=omega)[resOf,resAll,resOne,aField]
   first|exact⟨g2,ov⟩|exact⟨g2,_,rfl,ov⟩
  ·rw[if_neg qc]at a
   subst a
   simp(disch:=omega)[qc]
   subst hK
   simp(disch:=omega)[resOf,resAll,resOne,aField]
   first|exact⟨Grows.refl _,VoJ.no.vr (lo:=0) (hi:=0)⟩|exact⟨Grows.refl _,_,rfl,VoJ.no.vr (lo:=0) (hi:=0)⟩
 by_cases e5:w=[110,101,119]
 ·subst e5
  have a:A=newJA (n.getD 0 0) (n.getD 1 0):=by rw[eA];simp[cmdA,wUndo,wRedo,wSquash,wSet,wNew]
  have nl:=l2 rfl
  obtain⟨nb,no,nz,rfl,hc⟩:=hn.at
  obtain⟨q0,i0⟩:=hc 0 (by omega)
  obtain⟨q1,i1⟩:=hc 1 (by omega)
  rw[nl]
  rw[Nat.add_zero]at q0
  obtain⟨x,ex⟩:∃x,x=n.getD 0 0:=⟨_,rfl⟩
  obtain⟨y,ey⟩:∃y,y=n.getD 1 0:=⟨_,rfl⟩
  rw[<-ex]at q0 i0 a
  rw[<-ey]at q1 i1 a
  unfold newJA at a
  have c102':=c102 h hp x y
  have ns:=new_siz x y
  obtain⟨NA,eN⟩:∃NA,NA=newA x y:=⟨_,rfl⟩
  rw[<-eN]at a c102' ns
  simp(disch:=omega)[q0,q1]
  refine callW_of c102' ?_
  rintro _ h1⟨g1,r0,rfl,o⟩
  try refine⟨λe=>(by first|exact g1|cases e),?_⟩
  have ov:=o.vr
  have ov0:=ov
  obtain⟨W',H',b1',o1',n1',z1',rfl⟩:=ov.px
  by_cases qc:NA.2=0
  ·rw[if_pos qc]at a
   subst a
   simp(disch:=omega)[qc]
   refine callW_of (c101 h1 (pos_of hp g1) _ _ ov0 ns) ?_
   rintro _ h2⟨g2,r0,rfl,o,_⟩
   try refine⟨λe=>(by first|exact g2|cases e),?_⟩
   have ov:=o.vr
   obtain⟨W',H',b1',o1',n1',z1',b2',o2',n2',z2',b3',o3',n3',z3',rfl,_⟩:=ov.jx
   simp(disch:=omega)
   subst hK
   simp(disch:=omega)[resOf,resAll,resOne,aField]
   first|exact⟨g1.trans g2,ov⟩|exact⟨g1.trans g2,_,rfl,ov⟩
  ·rw[if_neg qc]at a
   subst a
   simp(disch:=omega)[qc]
   subst hK
   simp(disch:=omega)[resOf,resAll,resOne,aField]
   first|exact⟨g1,VoJ.no.vr (lo:=0) (hi:=0)⟩|exact⟨g1,_,rfl,VoJ.no.vr (lo:=0) (hi:=0)⟩
 have a:A=(J,0):=by rw[eA];simp[cmdA,wUndo,wRedo,wSquash,wSet,wNew,e1,e2,e3,e4,e5]
 subst a
 simp(disch:=omega)[e1,e2,e3,e4,e5]
 subst hK
 simp(disch:=omega)[resOf,resAll,resOne,aField]
 first|exact⟨Grows.refl _,hv0⟩|exact⟨Grows.refl _,_,rfl,hv0⟩
theorem b_lens(X:Pan):(lensA X).1.length<=300∧∀x∈(lensA X).1,I64 x:=by
 unfold lensA
 split
 ·rename_i h
  have ok:=okP_iff.1 h
  have:=curveN_lim ok
  refine⟨by rw[lensI_len];omega,λx hx=>?_⟩
  have:=lensI_bd ok (Nat.le_refl _) x hx
  unfold I64;omega
 ·simp
theorem b_pass(X:Pan)(c:Int):(passesA X c).1.length<=300∧∀p∈(passesA X c).1,I64 p.1:=by
 refine⟨by have:=passesA_len X c;omega,?_⟩
 unfold passesA
 split
 ·rename_i h
  have ok:=okP_iff.1 h
  have hb:X.2.2.length<=112:=by obtain⟨W,H,br⟩:=X;exact ok_len ok
  split
  ·intro p hp
   have:=passL_bd hb p hp
   unfold I64;omega
  ·simp
 ·simp
theorem b_code(X:Pan):(codeA X).1.length<=40∧(∀R∈(codeA X).1,R.length<=256∧∀x∈R,-113<=x∧x<=113)∧(codeA X).1.flatten.length<=1000000:=by
 have key:(codeA X).1.length<=40∧(∀R∈(codeA X).1,R.length<=256∧∀x∈R,-113<=x∧x<=113):=by
  unfold codeA
  split
  ·rename_i h
   have ok:=okP_iff.1 h
   split
   ·simp
   ·exact⟨by simp only[codeL_len];omega,codeL_bd ok (Nat.le_refl _)⟩
  ·simp
 refine⟨key.1,key.2,?_⟩
 have fl:∀L:List (List Int),(∀R∈L,R.length<=256)->L.flatten.length<=256*L.length:=by
  intro L
  induction L with
  |nil=>simp
  |cons a r ih=>
   intro h
   have h1:=h a (by simp)
   have h2:=ih λR hR=>h R (by simp[hR])
   simp only[List.flatten_cons,List.length_append,List.length_cons]
   omega
 have:=fl _ λR hR=>(key.2 R hR).1
 omega
theorem b_br(X:Pan):(brA X).1.2.length<=100000:=by
 unfold brA
 split
 ·rename_i h
  have n:=sumB_neat (cr:=crN X.2.2) (brCode_ok h).1 (brCode_ok h).2 (p2N (crN X.2.2).length)
  by_cases e:(brP X).2=[]
  ·simp only[e];simp
  ·have:=n.bd e
   unfold brP
   simp only
   omega
 ·simp
theorem b_along(J:Jrn)(h:okJ J=true):(alongA J).1.length<=51∧∀x∈(alongA J).1,I64 x:=by
 refine⟨?_,(along_siz J).2⟩
 unfold alongA
 rw[if_pos h]
 have:=(okJ_iff.1 h).2.1
 simp only[alongL_len]
 omega
theorem b_fr(X:Pan)(x:Int):(frA X x).1.1.length<=16∧(∀y∈natI (frA X x).1.1,I64 y)∧I64 ((frA X x).1.2:Nat):=by
 unfold frA
 split
 ·rename_i h
  have ok:=okP_iff.1 h
  have hh:=ok.h
  have hw:=ok.w
  split
  ·have n:=frN_ok (X:=X) (2*X.1.toNat-1-x.toNat)
   refine⟨by simp only[n.1.len];omega,?_,?_⟩
   ·intro y hy
    obtain⟨a,ha,rfl⟩:=List.mem_map.1 hy
    obtain⟨i,hi,e⟩:=List.getElem_of_mem ha
    simp only[n.1.len]at hi
    have:=n.1.lt i hi
    rw[List.getD_eq_getElem?_getD,List.getElem?_eq_getElem (by rw[n.1.len];exact hi)]at this
    simp only[Option.getD_some,e]at this
    unfold I64;omega
   ·have h1:=n.2
    have h2:(2*X.1.toNat-1-x.toNat)*(2*X.2.1.toNat)<=16*16:=Nat.mul_le_mul (by omega) (by omega)
    unfold I64;simp only;omega
  ·simp[natI,I64]
 ·simp[natI,I64]
theorem b_few(X:Pan)(c e:Int):EdB (fewA X c e).1:=by
 have nil:EdB []:=⟨by simp,by simp⟩
 unfold fewA
 split
 ·rename_i h
  have h8:X.2.2.length<=12∧0<=e∧e<=3:=by
   unfold seCode at h
   split at h
   ·split at h
    ·rename_i q
     split at h
     ·omega
     ·exact⟨by omega,q.2⟩
    ·omega
   ·omega
  split
  ·rename_i x hx
   exact fewN_bd (by omega) (by omega) _ hx
  ·exact nil
 ·exact nil
theorem b_cnt(X:Pan):I64 (cntA X).1:=by
 unfold cntA
 split
 ·rename_i h
  have ok:=okP_iff.1 h
  have hh:=ok.h
  have hw:=ok.w
  have n:=colN_ok (X:=X) (2*X.1.toNat-1)
  have l:=loopsN_le (B:=nbN (2*X.2.1.toNat)) n.1 (nbN_ok (by omega))
  have h2:(2*X.1.toNat-1)*(2*X.2.1.toNat)<=16*16:=Nat.mul_le_mul (by omega) (by omega)
  have h3:=n.2
  unfold I64;simp only;omega
 ·unfold I64;simp
theorem b_wr(X:Pan):I64 (writheA X).1:=by
 unfold writheA
 split
 ·rename_i h
  have ok:=okP_iff.1 h
  have nc:nCross X.2.2<=112:=by obtain⟨W,H,br⟩:=X;exact nCross_le ok
  have hl:(signsP X).length=nCross X.2.2:=by simp[signsP]
  have hx:∀x∈signsP X,-1000<=x∧x<=1000:=by
   intro x hx
   unfold signsP at hx
   obtain⟨k,_,rfl⟩:=List.mem_map.1 hx
   have:=signW_bd ((dirP X).ov.getD k (0,0,0,0)) ((dirP X).un.getD k (0,0,0,0))
   omega
  have s:=sum_bd hx (signsP X).length (Nat.le_refl _)
  rw[List.take_length]at s
  unfold I64;simp only;omega
 ·unfold I64;simp
theorem b_link(X:Pan)(a b:Int):I64 (linkA X a b).1:=by
 unfold linkA
 split
 ·unfold I64;simp
 ·rename_i h
  split
  ·unfold I64;simp
  ·have okX:okP X=true:=by
    cases q:okP X
    ·exact absurd (by unfold curveC;simp[q]) h
    ·rfl
   have ok:=okP_iff.1 okX
   have nc:nCross X.2.2<=112:=by obtain⟨W,H,br⟩:=X;exact nCross_le ok
   have t:=(linkN_ok ok (nCross X.2.2) (Nat.le_refl _)).1
   obtain⟨R,eR⟩:∃R,R=(linkN X (nCross X.2.2)).getD a.toNat []:=⟨_,rfl⟩
   rw[<-eR]
   have hR:∀x∈R,-224<=x∧x<=224:=by
    rw[eR,List.getD_eq_getElem?_getD]
    by_cases q:a.toNat<(linkN X (nCross X.2.2)).length
    ·rw[List.getElem?_eq_getElem q]
     intro x hx
     have:=(t.row _ q).2 x hx
     omega
    ·rw[List.getElem?_eq_none (by omega)]
     simp
   have hx:-224<=R.getD b.toNat 0∧R.getD b.toNat 0<=224:=by
    rw[List.getD_eq_getElem?_getD]
    by_cases q:b.toNat<R.length
    ·rw[List.getElem?_eq_getElem q];exact hR _ (List.getElem_mem q)
    ·rw[List.getElem?_eq_none (by omega)];simp
   obtain⟨y,ey⟩:∃y,y=R.getD b.toNat 0:=⟨_,rfl⟩
   rw[<-ey]at hx
   have hq:(y.tdiv 2).natAbs<=y.natAbs:=by
    rcases Int.le_total 0 y with q|q
    ·rw[Int.tdiv_eq_ediv_of_nonneg q];omega
    ·obtain⟨z,rfl⟩:∃z,y=-z:=⟨-y,by omega⟩
     rw[Int.neg_tdiv,Int.tdiv_eq_ediv_of_nonneg (by omega)];omega
   have:-224<=y.tdiv 2∧y.tdiv 2<=224:=by omega
   unfold I64;simp only[<-ey];omega
noncomputable def countT(J:Jrn):List UInt8:=decS (curveN J.1:Nat)++[32]++decS (cntA J.1).1
noncomputable def colT(J:Jrn)(x:Int):List UInt8:=pairT (natI (frA J.1 x).1.1)++[32]++decS ((frA J.1 x).1.2:Nat)
noncomputable def picT(X:Pan):List (List UInt8):=picP X (2*X.2.1.toNat+1)++[[111,107,32]++decS ((2*X.2.1.toNat+1:Nat):Int)]
/-- What the commands tell that change nothing. -/
noncomputable def tellA(J:Jrn)(w:List UInt8)(n:List Int):List (List UInt8)×Int:=
 if w=wPicture then(picT J.1,0)else if w=wCount then([countT J],(cntA J.1).2)else if w=wLengths then([listT (lensA J.1).1],(lensA J.1).2)
 else if w=wColumn then([colT J (n.getD 0 0)],(frA J.1 (n.getD 0 0)).2)else if w=wSearch then([noneT (edT (fewA J.1 (n.getD 0 0) (n.getD 1 0)).1)],(fewA J.1 (n.getD 0 0) (n.getD 1 0)).2)
 else if w=wPasses then([noneT (passT (passesA J.1 (n.getD 0 0)).1)],(passesA J.1 (n.getD 0 0)).2)else if w=wCode then([codeT (codeA J.1).1],(codeA J.1).2)
 else if w=wWrithe then([decS (writheA J.1).1],(writheA J.1).2)else if w=wLink then([decS (linkA J.1 (n.getD 0 0) (n.getD 1 0)).1],(linkA J.1 (n.getD 0 0) (n.getD 1 0)).2)
 else if w=wBracket then([polyT (brA J.1).1],(brA J.1).2)else([listT (alongA J).1],(alongA J).2)
theorem noneT_len(t:List UInt8):(noneT t).length<=t.length+4:=by unfold noneT;split<;>simp
theorem listT_len{X:List Int}(hx:∀x∈X,I64 x)(hl:X.length<=300):(listT X).length<=7000:=by
 have h1:=join_lenC X hx X.length (Nat.le_refl _)
 rw[List.take_length]at h1
 have h2:=noneT_len (joinS [44] (X.map decS))
 unfold listT;omega
theorem pairT_len{L:List Int}(hx:∀x∈L,I64 x):(pairT L).length<=400:=by
 unfold pairT
 split
 ·rename_i h
  have h0:=pairOk_len h
  have h1:=join_lenC L hx L.length (Nat.le_refl _)
  rw[List.take_length]at h1
  omega
 ·simp
theorem curve_64{X:Pan}(ok:OkP X):I64 ((curveN X:Nat):Int):=by have:=curveN_lim ok;unfold I64;omega
def BdL(L:List (List UInt8)):Prop:=1<=L.length∧L.length<=64∧∀l∈L,l.length<=300000
theorem BdL.one{l:List UInt8}(h:l.length<=300000):BdL [l]:=⟨by simp,by simp,by simpa using h⟩
theorem codeT_len(X:Pan):(codeT (codeA X).1).length<=300000:=by
 obtain⟨h1,h2,_⟩:=b_code X
 unfold codeT
 split
 ·split
  ·simp
  ·have:=join_bd (sep:=[59]) (n:=5400) ((codeA X).1.map rowT) (by
    intro x hx
    obtain⟨R,hR,rfl⟩:=List.mem_map.1 hx
    refine rowT_bd (h2 R hR).1 λx hx=>?_
    have:=(h2 R hR).2 x hx
    unfold I64;omega)
   simp only[List.length_map,List.length_singleton]at this
   omega
 ·simp
theorem polyT_len(p:Poly):(polyT p).length<=300000:=by
 unfold polyT
 split
 ·rename_i h
  have ok:=polyOk_t h
  split
  ·simp
  ·have:=txT_len (lo:=p.1) (cs:=p.2) ok p.2.length (Nat.le_refl _)
   have:=ok.n
   omega
 ·simp
theorem tell_bd{J:Jrn}(w:List UInt8)(n:List Int)(ok:okJ J=true):BdL (tellA J w n).1:=by
 have okX:=(okJ_iff.1 ok).1
 have ok':=okP_iff.1 okX
 have hw:=ok'.w
 have hh:=ok'.h
 unfold tellA
 split
 ·refine⟨by simp[picT],by simp only[picT,List.length_append,picP_len,List.length_singleton];omega,?_⟩
  intro l hl
  rcases List.mem_append.1 hl with hl|hl
  ·unfold picP at hl
   obtain⟨y,_,rfl⟩:=List.mem_map.1 hl
   rw[lineP_len];omega
  ·rw[List.mem_singleton.1 hl]
   have:=(decS_len (n:=((2*J.1.2.1.toNat+1:Nat):Int)) (by unfold I64;omega)).2
   simp only[List.length_append,List.length_cons,List.length_nil];omega
 split
 ·refine BdL.one ?_
  have h1:=(decS_len (curve_64 ok')).2
  have h2:=(decS_len (b_cnt J.1)).2
  unfold countT
  simp only[List.length_append,List.length_cons,List.length_nil];omega
 split
 ·refine BdL.one ?_
  have h1:=b_lens J.1
  have:=listT_len h1.2 h1.1
  omega
 split
 ·refine BdL.one ?_
  have h1:=b_fr J.1 (n.getD 0 0)
  have:=pairT_len h1.2.1
  have h2:=(decS_len h1.2.2).2
  unfold colT
  simp only[List.length_append,List.length_cons,List.length_nil];omega
 split
 ·refine BdL.one ?_
  have h1:=b_few J.1 (n.getD 0 0) (n.getD 1 0)
  have h2:=edT_len h1 _ (Nat.le_refl _)
  rw[List.take_length]at h2
  have h3:=h1.1
  have h4:=noneT_len (edT (fewA J.1 (n.getD 0 0) (n.getD 1 0)).1)
  omega
 split
 ·refine BdL.one ?_
  have h1:=b_pass J.1 (n.getD 0 0)
  have h2:=passT_len _ h1.2 _ (Nat.le_refl _)
  rw[List.take_length]at h2
  have h4:=noneT_len (passT (passesA J.1 (n.getD 0 0)).1)
  unfold passT at h4 ⊢
  have:=h1.1
  omega
 split
 ·exact BdL.one (codeT_len _)
 split
 ·refine BdL.one ?_
  have:=(decS_len (b_wr J.1)).2
  omega
 split
 ·refine BdL.one ?_
  have:=(decS_len (b_link J.1 (n.getD 0 0) (n.getD 1 0))).2
  omega
 split
 ·exact BdL.one (polyT_len _)
 ·refine BdL.one ?_
  have h1:=b_along J ok
  have:=listT_len h1.2 (by omega)
  omega
theorem one_text(h:Heap)(t:List UInt8):aBuildSlice 1 1 h [(0,.agg #[S []]),(1,S t)]=some (sl h.length 0 1 1,h++[⟨[S t],true⟩]):=by simp[aBuildSlice]
theorem Buf.single{h h1:Heap}{t:List UInt8}(g:Grows h h1):Buf h (h1++[⟨[S t],true⟩]) (sl h1.length 0 1 1) 1 (texts [t]):=.inr ⟨h1.length,1,rfl,by simp[texts],g.le,by simp[texts]⟩
theorem c24(h:Heap)(hp:0<h.length)(v nv:Value)(w:List UInt8)(n:List Int)(J:Jrn)(hv:Vr h shJournal v J)(ok:okJ J=true)(hn:Vi h nv n)(l2:w=wSearch∨w=wLink->n.length=2)(l1:w=wColumn∨w=wPasses->n.length=1):ACall Gam 24 [v,S w,nv] h λr h'=>Grows h h'∧∃lv,r=.tuple #[lv,I (tellA J w n).2]∧Buf h h' lv 1 (texts (tellA J w n).1):=by
 have hv0:=hv
 have hs:=okJ_siz ok
 have okX:=okP_iff.1 (okJ_iff.1 ok).1
 have hh8:=okX.h
 have b_al:=b_along J ok
 obtain⟨A,eA⟩:∃A,A=tellA J w n:=⟨_,rfl⟩
 rw[<-eA]
 obtain⟨W,H,b1,o1,n1,z1,b2,o2,n2,z2,b3,o3,n3,z3,rfl,hpan⟩:=hv.jx
 obtain⟨X,eX⟩:∃X,X=J.1:=⟨_,rfl⟩
 rw[<-eX]at hpan okX hh8
 refine ACall_intro g24 rfl ?_
 unfold fn24
 rw[awp_seq,awp_reg]
 generalize hK:seqQ Gam _ _ 0=K
 simp(disch:=omega)
 subst hK
 simp only[seqQ_zero]
 rw[awp_seq,awp_reg]
 generalize hK:seqQ Gam _ _ 0=K
 simp(disch:=omega)
 subst hK
 simp only[seqQ_zero]
 rw[awp_seq]
 generalize hK:seqQ Gam _ _=K
 by_cases e0:w=[112,105,99,116,117,114,101]
 ·subst e0
  have a:A=(picT J.1,0):=by rw[eA];simp[tellA,wPicture,wCount,wLengths,wColumn,wSearch,wPasses,wCode,wWrithe,wLink,wBracket]
  unfold picT at a
  rw[<-eX]at a
  have c110':=c110 h hp _ X hpan okX
  obtain⟨k,ek⟩:∃k,k=2*X.2.1.toNat+1:=⟨_,rfl⟩
  have hk:k<=17:=by omega
  rw[<-ek]at c110' a
  subst a
  simp(disch:=omega)
  refine callW_of c110' ?_
  rintro _ h1⟨g1,lv,rfl,hb⟩
  try refine⟨λe=>(by first|exact g1|cases e),?_⟩
  have hb0:=hb
  obtain⟨lb,rfl,hlc⟩:=hb.texts1
  rw[picP_len]at hb0 ⊢
  simp(disch:=omega)
  refine callW_of (c75 _ (show I64 (k:Int)by unfold I64;omega) h1 (pos_of hp g1)) ?_
  rintro _ h2⟨rfl,g2⟩
  try refine⟨λe=>(by first|exact g2|cases e),?_⟩
  have dl:=(decS_len (n:=(k:Int)) (by unfold I64;omega)).2
  have f1:(decS (k:Int)).length+3<=4611686018427387904:=by omega
  have f2:3+(decS (k:Int)).length<=4611686018427387904:=by omega
  have f3:(decS (k:Int)).length<=4611686018427387901:=by omega
  have G:=g1.trans g2
  simp(disch:=omega)[f1,f2,f3]
  refine append_word hp (by rw[picP_len];omega) G (hb0.grow g2) λv3 h3 g3 b3=>?_
  try simp(disch:=omega)
  obtain⟨lb3,rfl,_⟩:=b3.texts1
  try subst hK
  simp(disch:=omega)[resOf,resAll,resOne,aField]
  try simp only[List.cons_append,List.nil_append]at b3
  first|exact⟨g3,by simpa using b3⟩|exact⟨g3,_,rfl,by simpa using b3⟩
 by_cases e1:w=[99,111,117,110,116]
 ·subst e1
  have a:A=([countT J],(cntA J.1).2):=by rw[eA];simp[tellA,wPicture,wCount,wLengths,wColumn,wSearch,wPasses,wCode,wWrithe,wLink,wBracket]
  have i64:=b_cnt X
  have c64:=curve_64 okX
  rw[<-eX]at a
  unfold countT at a
  rw[<-eX]at a
  obtain⟨N,eN⟩:∃N,N=cntA X:=⟨_,rfl⟩
  have c71':=c71 h hp _ X hpan
  have c154':=λh hp v hv=>c154 h hp v X hv okX
  obtain⟨C,eC⟩:∃C:Int,C=(curveN X:Nat):=⟨_,rfl⟩
  rw[<-eN]at c71' a i64
  rw[<-eC]at c154' a c64
  subst a
  simp(disch:=omega)
  refine callW_of c71' ?_
  rintro _ h1⟨g1,rfl⟩
  try refine⟨λe=>(by first|exact g1|cases e),?_⟩
  simp(disch:=omega)
  refine callW_of (c154' h1 (pos_of hp g1) _ (hpan.grow g1)) ?_
  rintro _ h2⟨g2,rfl⟩
  try refine⟨λe=>(by first|exact g2|cases e),?_⟩
  have g12:=g1.trans g2
  try simp(disch:=omega)
  refine callW_of (c75 _ c64 h2 (pos_of hp g12)) ?_
  rintro _ h3⟨rfl,g3⟩
  try refine⟨λe=>(by first|exact g3|cases e),?_⟩
  have g13:=g12.trans g3
  have d1:=(decS_len c64).2
  have d2:=(decS_len i64).2
  have f1:(decS C).length<=4611686018427387903:=by omega
  have f2:(decS C).length+1+(decS N.1).length<=4611686018427387904:=by omega
  have f3:(decS C).length+(1+(decS N.1).length)<=4611686018427387904:=by omega
  have f4:(decS C).length+((decS N.1).length+1)<=4611686018427387904:=by omega
  simp(disch:=omega)[f1]
  refine callW_of (c75 _ i64 h3 (pos_of hp g13)) ?_
  rintro _ h4⟨rfl,g4⟩
  try refine⟨λe=>(by first|exact g4|cases e),?_⟩
  have G:=g13.trans g4
  simp(disch:=omega)[f2,f3,f4,one_text]
  subst hK
  simp(disch:=omega)[resOf,resAll,resOne,aField]
  refine⟨G.trans ⟨_,rfl⟩,?_⟩
  have:=Buf.single (t:=decS C++32::decS N.1) G
  simpa using this
 by_cases e2:w=[108,101,110,103,116,104,115]
 ·subst e2
  have a:A=([listT (lensA J.1).1],(lensA J.1).2):=by rw[eA];simp[tellA,wPicture,wCount,wLengths,wColumn,wSearch,wPasses,wCode,wWrithe,wLink,wBracket]
  rw[<-eX]at a
  obtain⟨hl,h64⟩:=b_lens X
  have c73':=c73 h hp _ X hpan
  obtain⟨N,eN⟩:∃N,N=lensA X:=⟨_,rfl⟩
  rw[<-eN]at c73' a hl h64
  subst a
  simp(disch:=omega)
  refine callW_of c73' ?_
  rintro _ h1⟨lv,rfl,r,⟨rb,ro,rn,ry,rfl⟩,g1⟩
  try refine⟨λe=>(by first|exact g1|cases e),?_⟩
  simp(disch:=omega)
  refine callW_of (c156cw h1 (pos_of hp g1) _ N.1 (Vi.rw r (by rw[maxLen_eq];omega) h64) (by omega)) ?_
  rintro _ h2⟨g2,rfl⟩
  try refine⟨λe=>(by first|exact g2|cases e),?_⟩
  have G:=g1.trans g2
  try simp(disch:=omega)
  refine callW_of (c178 _ h2) ?_
  rintro _ _⟨rfl,rfl⟩
  try refine⟨λe=>(by cases e),?_⟩
  try subst hK
  simp(disch:=omega)[one_text,resOf,resAll,resOne,aField]
  first|exact⟨G.trans ⟨_,rfl⟩,Buf.single G⟩|exact⟨G.trans ⟨_,rfl⟩,_,rfl,Buf.single G⟩
 by_cases e3:w=[99,111,108,117,109,110]
 ·subst e3
  have a:A=([colT J (n.getD 0 0)],(frA J.1 (n.getD 0 0)).2):=by rw[eA];simp[tellA,wPicture,wCount,wLengths,wColumn,wSearch,wPasses,wCode,wWrithe,wLink,wBracket]
  have nl:=l1 (.inl rfl)
  obtain⟨nb,no,nz,rfl,hc⟩:=hn.at
  rw[nl]
  obtain⟨q0,i0⟩:=hc 0 (by omega)
  rw[Nat.add_zero]at q0
  obtain⟨x,ex⟩:∃x,x=n.getD 0 0:=⟨_,rfl⟩
  rw[<-ex]at q0 i0 a
  rw[<-eX]at a
  unfold colT at a
  rw[<-eX]at a
  obtain⟨hl,h64,k64⟩:=b_fr X x
  have c85':=c85 h hp _ X x hpan i0
  obtain⟨N,eN⟩:∃N,N=frA X x:=⟨_,rfl⟩
  rw[<-eN]at c85' a hl h64 k64
  subst a
  simp(disch:=omega)[q0]
  refine callW_of c85' ?_
  rintro _ h1⟨g1,cw,rfl,r⟩
  try refine⟨λe=>(by first|exact g1|cases e),?_⟩
  obtain⟨rb,ro,rn,ry,rfl⟩:=r.sl
  simp(disch:=omega)
  refine callW_of (c109w h1 (pos_of hp g1) _ _ (Vi.rw r (by rw[maxLen_eq,natI_len];omega) h64)) ?_
  rintro _ h2⟨g2,rfl⟩
  try refine⟨λe=>(by first|exact g2|cases e),?_⟩
  have g12:=g1.trans g2
  have d1:=pairT_len h64
  have d2:=(decS_len k64).2
  obtain⟨C,eC⟩:∃C:Int,C=(N.1.2:Nat):=⟨_,rfl⟩
  rw[<-eC]at d2 k64 ⊢
  obtain⟨P,eP⟩:∃P,P=pairT (natI N.1.1):=⟨_,rfl⟩
  rw[<-eP]at d1 ⊢
  have f1:P.length<=4611686018427387903:=by omega
  have f2:P.length+1+(decS C).length<=4611686018427387904:=by omega
  have f3:P.length+(1+(decS C).length)<=4611686018427387904:=by omega
  have f4:P.length+((decS C).length+1)<=4611686018427387904:=by omega
  simp(disch:=omega)[f1]
  refine callW_of (c75 _ k64 h2 (pos_of hp g12)) ?_
  rintro _ h4⟨rfl,g4⟩
  try refine⟨λe=>(by first|exact g4|cases e),?_⟩
  have G:=g12.trans g4
  simp(disch:=omega)[f2,f3,f4,one_text]
  subst hK
  simp(disch:=omega)[resOf,resAll,resOne,aField]
  refine⟨G.trans ⟨_,rfl⟩,?_⟩
  have:=Buf.single (t:=P++32::decS C) G
  rw[<-eP,<-eC]
  simpa using this
 by_cases e4:w=[115,101,97,114,99,104]
 ·subst e4
  have a:A=([noneT (edT (fewA J.1 (n.getD 0 0) (n.getD 1 0)).1)],(fewA J.1 (n.getD 0 0) (n.getD 1 0)).2):=by rw[eA];simp[tellA,wPicture,wCount,wLengths,wColumn,wSearch,wPasses,wCode,wWrithe,wLink,wBracket]
  have nl:=l2 (.inl rfl)
  obtain⟨nb,no,nz,rfl,hc⟩:=hn.at
  rw[nl]
  obtain⟨q0,i0⟩:=hc 0 (by omega)
  rw[Nat.add_zero]at q0
  obtain⟨x,ex⟩:∃x,x=n.getD 0 0:=⟨_,rfl⟩
  rw[<-ex]at q0 i0 a
  obtain⟨q1,i1⟩:=hc 1 (by omega)
  obtain⟨y,ey⟩:∃y,y=n.getD 1 0:=⟨_,rfl⟩
  rw[<-ey]at q1 i1 a
  rw[<-eX]at a
  have hb:=b_few X x y
  have c83':=c83 h hp _ X x y hpan
  obtain⟨N,eN⟩:∃N,N=fewA X x y:=⟨_,rfl⟩
  rw[<-eN]at c83' a hb
  subst a
  simp(disch:=omega)[q0,q1]
  refine callW_of c83' ?_
  rintro _ h1⟨g1,rb,ro,rn,ry,rfl,r⟩
  try refine⟨λe=>(by first|exact g1|cases e),?_⟩
  simp(disch:=omega)
  refine callW_of (c158 h1 (pos_of hp g1) _ N.1 r hb) ?_
  rintro _ h2⟨g2,rfl⟩
  try refine⟨λe=>(by first|exact g2|cases e),?_⟩
  have G:=g1.trans g2
  try simp(disch:=omega)
  refine callW_of (c178 _ h2) ?_
  rintro _ _⟨rfl,rfl⟩
  try refine⟨λe=>(by cases e),?_⟩
  try subst hK
  simp(disch:=omega)[one_text,resOf,resAll,resOne,aField]
  first|exact⟨G.trans ⟨_,rfl⟩,Buf.single G⟩|exact⟨G.trans ⟨_,rfl⟩,_,rfl,Buf.single G⟩
 by_cases e5:w=[112,97,115,115,101,115]
 ·subst e5
  have a:A=([noneT (passT (passesA J.1 (n.getD 0 0)).1)],(passesA J.1 (n.getD 0 0)).2):=by rw[eA];simp[tellA,wPicture,wCount,wLengths,wColumn,wSearch,wPasses,wCode,wWrithe,wLink,wBracket]
  have nl:=l1 (.inr rfl)
  obtain⟨nb,no,nz,rfl,hc⟩:=hn.at
  rw[nl]
  obtain⟨q0,i0⟩:=hc 0 (by omega)
  rw[Nat.add_zero]at q0
  obtain⟨x,ex⟩:∃x,x=n.getD 0 0:=⟨_,rfl⟩
  rw[<-ex]at q0 i0 a
  rw[<-eX]at a
  obtain⟨hl,h64⟩:=b_pass X x
  have c112':=c112 h hp _ X x hpan
  obtain⟨N,eN⟩:∃N,N=passesA X x:=⟨_,rfl⟩
  rw[<-eN]at c112' a hl h64
  subst a
  simp(disch:=omega)[q0]
  refine callW_of c112' ?_
  rintro _ h1⟨lv,rfl,r,⟨rb,ro,rn,ry,rfl⟩,g1⟩
  try refine⟨λe=>(by first|exact g1|cases e),?_⟩
  simp(disch:=omega)
  refine callW_of (c113 h1 (pos_of hp g1) _ N.1 r (by omega) h64) ?_
  rintro _ h2⟨g2,rfl⟩
  try refine⟨λe=>(by first|exact g2|cases e),?_⟩
  have G:=g1.trans g2
  try simp(disch:=omega)
  refine callW_of (c178 _ h2) ?_
  rintro _ _⟨rfl,rfl⟩
  try refine⟨λe=>(by cases e),?_⟩
  try subst hK
  simp(disch:=omega)[one_text,resOf,resAll,resOne,aField]
  first|exact⟨G.trans ⟨_,rfl⟩,Buf.single G⟩|exact⟨G.trans ⟨_,rfl⟩,_,rfl,Buf.single G⟩
 by_cases e6:w=[99,111,100,101]
 ·subst e6
  have a:A=([codeT (codeA J.1).1],(codeA J.1).2):=by rw[eA];simp[tellA,wPicture,wCount,wLengths,wColumn,wSearch,wPasses,wCode,wWrithe,wLink,wBracket]
  rw[<-eX]at a
  obtain⟨hl,h64,hf⟩:=b_code X
  have c68':=c68 h hp _ X hpan
  obtain⟨N,eN⟩:∃N,N=codeA X:=⟨_,rfl⟩
  rw[<-eN]at c68' a hl h64 hf
  subst a
  simp(disch:=omega)
  refine callW_of c68' ?_
  rintro _ h1⟨lv,rfl,r,g1⟩
  try refine⟨λe=>(by first|exact g1|cases e),?_⟩
  have r0:=r
  obtain⟨rb,ro,ry,rfl,_⟩:=r
  simp(disch:=omega)
  refine callW_of (c69 h1 (pos_of hp g1) _ N.1 r0 (by omega) h64 hf) ?_
  rintro _ h2⟨g2,rfl⟩
  try refine⟨λe=>(by first|exact g2|cases e),?_⟩
  have G:=g1.trans g2
  try subst hK
  simp(disch:=omega)[one_text,resOf,resAll,resOne,aField]
  first|exact⟨G.trans ⟨_,rfl⟩,Buf.single G⟩|exact⟨G.trans ⟨_,rfl⟩,_,rfl,Buf.single G⟩
 by_cases e7:w=[119,114,105,116,104,101]
 ·subst e7
  have a:A=([decS (writheA J.1).1],(writheA J.1).2):=by rw[eA];simp[tellA,wPicture,wCount,wLengths,wColumn,wSearch,wPasses,wCode,wWrithe,wLink,wBracket]
  rw[<-eX]at a
  have i64:=b_wr X
  have c144':=c144 h hp _ X hpan
  obtain⟨N,eN⟩:∃N,N=writheA X:=⟨_,rfl⟩
  rw[<-eN]at c144' a i64
  subst a
  simp(disch:=omega)
  refine callW_of c144' ?_
  rintro _ h1⟨g1,rfl⟩
  try refine⟨λe=>(by first|exact g1|cases e),?_⟩
  simp(disch:=omega)
  refine callW_of (c75 _ i64 h1 (pos_of hp g1)) ?_
  rintro _ h2⟨rfl,g2⟩
  try refine⟨λe=>(by first|exact g2|cases e),?_⟩
  have G:=g1.trans g2
  try subst hK
  simp(disch:=omega)[one_text,resOf,resAll,resOne,aField]
  first|exact⟨G.trans ⟨_,rfl⟩,Buf.single G⟩|exact⟨G.trans ⟨_,rfl⟩,_,rfl,Buf.single G⟩
 by_cases e8:w=[108,105,110,107]
 ·subst e8
  have a:A=([decS (linkA J.1 (n.getD 0 0) (n.getD 1 0)).1],(linkA J.1 (n.getD 0 0) (n.getD 1 0)).2):=by rw[eA];simp[tellA,wPicture,wCount,wLengths,wColumn,wSearch,wPasses,wCode,wWrithe,wLink,wBracket]
  have nl:=l2 (.inr rfl)
  obtain⟨nb,no,nz,rfl,hc⟩:=hn.at
  rw[nl]
  obtain⟨q0,i0⟩:=hc 0 (by omega)
  rw[Nat.add_zero]at q0
  obtain⟨x,ex⟩:∃x,x=n.getD 0 0:=⟨_,rfl⟩
  rw[<-ex]at q0 i0 a
  obtain⟨q1,i1⟩:=hc 1 (by omega)
  obtain⟨y,ey⟩:∃y,y=n.getD 1 0:=⟨_,rfl⟩
  rw[<-ey]at q1 i1 a
  rw[<-eX]at a
  have i64:=b_link X x y
  have c96':=c96 h hp _ X x y hpan
  obtain⟨N,eN⟩:∃N,N=linkA X x y:=⟨_,rfl⟩
  rw[<-eN]at c96' a i64
  subst a
  simp(disch:=omega)[q0,q1]
  refine callW_of c96' ?_
  rintro _ h1⟨g1,rfl⟩
  try refine⟨λe=>(by first|exact g1|cases e),?_⟩
  simp(disch:=omega)
  refine callW_of (c75 _ i64 h1 (pos_of hp g1)) ?_
  rintro _ h2⟨rfl,g2⟩
  try refine⟨λe=>(by first|exact g2|cases e),?_⟩
  have G:=g1.trans g2
  try subst hK
  simp(disch:=omega)[one_text,resOf,resAll,resOne,aField]
  first|exact⟨G.trans ⟨_,rfl⟩,Buf.single G⟩|exact⟨G.trans ⟨_,rfl⟩,_,rfl,Buf.single G⟩
 by_cases e9:w=[98,114,97,99,107,101,116]
 ·subst e9
  have a:A=([polyT (brA J.1).1],(brA J.1).2):=by rw[eA];simp[tellA,wPicture,wCount,wLengths,wColumn,wSearch,wPasses,wCode,wWrithe,wLink,wBracket]
  rw[<-eX]at a
  have hl:=b_br X
  have c63':=c63 h hp _ X hpan
  obtain⟨N,eN⟩:∃N,N=brA X:=⟨_,rfl⟩
  rw[<-eN]at c63' a hl
  subst a
  simp(disch:=omega)
  refine callW_of c63' ?_
  rintro _ h1⟨g1,lv,rfl,pv,s,rfl,rb,ro,rn,ry,rfl⟩
  try refine⟨λe=>(by first|exact g1|cases e),?_⟩
  simp(disch:=omega)
  refine callW_of (c117 h1 (pos_of hp g1) _ N.1 pv hl) ?_
  rintro _ h2⟨g2,rfl⟩
  try refine⟨λe=>(by first|exact g2|cases e),?_⟩
  have G:=g1.trans g2
  try subst hK
  simp(disch:=omega)[one_text,resOf,resAll,resOne,aField]
  first|exact⟨G.trans ⟨_,rfl⟩,Buf.single G⟩|exact⟨G.trans ⟨_,rfl⟩,_,rfl,Buf.single G⟩
 have a:A=([listT (alongA J).1],(alongA J).2):=by rw[eA];simp[tellA,wPicture,wCount,wLengths,wColumn,wSearch,wPasses,wCode,wWrithe,wLink,wBracket,e0,e1,e2,e3,e4,e5,e6,e7,e8,e9]
 have c74':=c74 h hp _ J hv0 hs
 obtain⟨hl,h64⟩:=b_al
 obtain⟨N,eN⟩:∃N,N=alongA J:=⟨_,rfl⟩
 rw[<-eN]at c74' a hl h64
 subst a
 simp(disch:=omega)[e0,e1,e2,e3,e4,e5,e6,e7,e8,e9]
 subst hK
 simp(disch:=omega)
 refine callW_of c74' ?_
 rintro _ h1⟨g1,r0,rfl,vo,_⟩
 try refine⟨λe=>(by first|exact g1|cases e),?_⟩
 have vi:=Vi.vr vo.vr
 obtain⟨rb,ro,ry,rfl,_⟩:=vo.vr.ints
 simp(disch:=omega)
 refine callW_of (c156cw h1 (pos_of hp g1) _ N.1 vi (by omega)) ?_
 rintro _ h2⟨g2,rfl⟩
 try refine⟨λe=>(by first|exact g2|cases e),?_⟩
 have G:=g1.trans g2
 try simp(disch:=omega)
 refine callW_of (c178 _ h2) ?_
 rintro _ _⟨rfl,rfl⟩
 try refine⟨λe=>(by cases e),?_⟩
 simp(disch:=omega)[one_text,resOf,resAll,resOne,aField]
 first|exact⟨G.trans ⟨_,rfl⟩,Buf.single G⟩|exact⟨G.trans ⟨_,rfl⟩,_,rfl,Buf.single G⟩
end Am

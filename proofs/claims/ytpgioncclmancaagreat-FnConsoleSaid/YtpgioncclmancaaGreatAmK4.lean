/- Contracts: AmJ8, AmE1, AmW1, AmW2, AmW3, AmW4, AmW5, AmJ9, AmJ10. -/
import Derived.Test.YtpgioncclmancaaGreatAmK3
import Derived.Test.YtpgioncclmancaaGreatAmK2
set_option linter.unusedVariables false
set_option linter.unusedSimpArgs false
set_option maxHeartbeats 4000000
set_option maxRecDepth 40000
namespace Am
open Go
theorem wf_vr{h:Heap}{v:Value}{X:Jrn}(x:Vr h shJournal v X)(hs:siz shJournal X<=1048576):Jwf X:=by
 obtain⟨⟨W,H,br⟩,p,f⟩:=X
 rw[siz_journal]at hs
 obtain⟨s,sp,sf,rfl,w1,w2,r1,r2,r3⟩:=x.journal
 obtain⟨_,_,_,_,_,_,hx1,_⟩:=r1.ints
 obtain⟨_,_,_,_,_,_,hx2,_⟩:=r2.trips
 obtain⟨_,_,_,_,_,_,hx3,_⟩:=r3.trips
 exact⟨w1,w2,hx1,hx2,hx3,by simp only;omega,by simp only;omega,by simp only;omega⟩
theorem slice_text{h:Heap}{s:List UInt8}{a b:Nat}(h1:a<=b)(h2:b<=s.length):aSlice 0 h (S s) (some (I a)) (some (I b)) none=some (S ((s.take b).drop a),h):=by
 simp[aSlice,bound,ByteArray.size]
 omega
theorem slice_from{h:Heap}{s:List UInt8}{a:Nat}(h1:a<=s.length):aSlice 0 h (S s) (some (I a)) none none=some (S (s.drop a),h):=by
 simp[aSlice,bound,ByteArray.size,h1]
theorem slice_to{h:Heap}{s:List UInt8}{b:Nat}(h1:b<=s.length):aSlice 0 h (S s) none (some (I b)) none=some (S (s.take b),h):=by
 simp[aSlice,bound,ByteArray.size,h1]
def splitG(b:UInt8)(cur:List UInt8):List UInt8->List (List UInt8)
 |[]=>[cur]
 |c::r=>if c=b then cur::splitG b [] r else splitG b (cur++[c]) r
def splitS(b:UInt8)(s:List UInt8):List (List UInt8):=splitG b [] s
theorem splitG_len(b:UInt8):∀(s cur:List UInt8),1<=(splitG b cur s).length∧(splitG b cur s).length<=s.length+1
 |[],cur=>by simp[splitG]
 |c::r,cur=>by
  simp only[splitG]
  split
  ·have:=splitG_len b r []
   simp;omega
  ·have:=splitG_len b r (cur++[c])
   simp;omega
theorem splitG_sum(b:UInt8):∀(s cur:List UInt8),∀w∈splitG b cur s,w.length<=cur.length+s.length
 |[],cur,w,hw=>by simp[splitG]at hw;subst hw;simp
 |c::r,cur,w,hw=>by
  simp only[splitG]at hw
  split at hw
  ·rcases List.mem_cons.1 hw with rfl|hw
   ·simp
   ·have:=splitG_sum b r [] w hw
    simp at this ⊢;omega
  ·have:=splitG_sum b r (cur++[c]) w hw
   simp at this ⊢;omega
theorem u8_eq{a b:UInt8}:((a.toNat:Int)=(b.toNat:Int))↔a=b:=by
 constructor
 ·intro h;exact UInt8.toNat_inj.1 (by omega)
 ·rintro rfl;rfl
theorem take_drop_snoc{α:Type}{s:List α}{f i:Nat}(h1:f<=i)(h2:i<s.length):(s.take (i+1)).drop f=(s.take i).drop f++[s[i]]:=by
 rw[List.take_succ_eq_append_getElem h2,List.drop_append_of_le_length (by simp;omega)]
theorem split_ok{f:Nat}(hf:f=189∨f=189)(s:List UInt8)(b:UInt8)(hs:s.length<=1048576)(h:Heap)(hp:0<h.length):ACall Gam f [S s,U b.toNat] h λr h'=>Grows h h'∧Buf h h' r 1 (texts (splitS b s)):=by
 obtain rfl:f=189:=by omega
 ·refine ACall_intro g189 rfl ?_
  unfold fn189
  simp(disch:=omega)
  refine awp_loop (λ(i:Nat) σ h'=>i<=s.length∧Grows h h'∧σ 0=S s∧σ 1=U b.toNat∧σ 10=I s.length∧σ 11=I i∧∃(from_:Nat) (done:List (List UInt8)),from_<=i∧done.length<=i∧σ 6=I from_∧Buf h h' (σ 5) 1 (texts done)∧done++splitG b ((s.take i).drop from_) (s.drop i)=splitS b s) (λi=>s.length-i) 0 ?_ ?_
  ·exact⟨by omega,Grows.refl _,by simp,by simp,by simp,by simp,0,[],by omega,by simp,by simp,by simp;exact Buf.nil,by simp[splitS]⟩
  rintro i σ h'⟨hi,hg,q0,q1,q10,q11,fr,done,hfi,hdl,q6,hB,hd⟩
  simp(disch:=omega)[q10,q11]
  refine fork_dec (λhlt=>?_) (λhge=>?_)
  ·have i1:i<s.length:=by omega
   rw[List.drop_eq_getElem_cons i1]at hd
   simp only[splitG]at hd
   simp(disch:=omega)[q0,q1,q11,i1]
   refine fork_dec (λhe=>?_) (λhe=>?_)
   ·rw[u8_eq]at he
    rw[if_pos he]at hd
    have hsl:=slice_text (h:=h') hfi (show i<=s.length by omega)
    simp(disch:=omega)[q0,q6,hsl]
    refine append_word hp (by omega) hg hB λv' h'' g1 b1=>?_
    simp(disch:=omega)[q0,q1,q10,q11,wrap64]
    refine⟨i+1,⟨by omega,g1,by omega,i+1,by omega,done++[(s.take i).drop fr],by simpa using hdl,by omega,b1,?_⟩,by omega⟩
    ·have:(s.take (i+1)).drop (i+1)=[]:=List.drop_eq_nil_of_le (by simp;omega)
     rw[this]
     simpa using hd
   ·rw[u8_eq]at he
    rw[if_neg he]at hd
    simp(disch:=omega)[q0,q1,q10,q11,wrap64]
    refine⟨i+1,⟨by omega,hg,by omega,fr,by omega,done,by omega,q6,hB,?_⟩,by omega⟩
    ·rw[take_drop_snoc hfi i1];exact hd
  ·have hin:i=s.length:=by omega
   subst hin
   rw[List.drop_length,List.take_length]at hd
   simp only[splitG]at hd
   have hsl:=slice_from (h:=h') hfi
   simp(disch:=omega)[q0,q6,hsl]
   refine append_word hp (by omega) hg hB λv' h'' g1 b1=>?_
   rw[hd]at b1
   obtain⟨rb,rn,ry,e⟩:∃b n y,v'=sl b 0 n y:=by
    rcases b1 with⟨_,e⟩|⟨b,n,e,_⟩
    ·exact⟨0,0,1,e⟩
    ·exact⟨b,n,1,e⟩
   subst e
   try simp(disch:=omega)
   exact⟨g1,b1⟩
def kindB(c:UInt8):Int:=if c=43 then 0 else if c=124 then 1 else if c=45 then 2 else -1
theorem kindB_rng(c:UInt8):-1<=kindB c∧kindB c<=2:=by unfold kindB;split<;>(try split)<;>(try split)<;>omega
theorem c174(c:UInt8)(h:Heap):ACall Gam 174 [U c.toNat] h λr h'=>r=I (kindB c)∧h'=h:=by
 have e1:((((43:UInt8).toNat:Nat)):Int)=(c.toNat:Int)↔c=43:=by rw[u8_eq];exact eq_comm
 have e2:((((124:UInt8).toNat:Nat)):Int)=(c.toNat:Int)↔c=124:=by rw[u8_eq];exact eq_comm
 have e3:((((45:UInt8).toNat:Nat)):Int)=(c.toNat:Int)↔c=45:=by rw[u8_eq];exact eq_comm
 refine ACall_intro g174 rfl ?_
 unfold fn174
 simp(disch:=omega)
 refine awp_loop (λ(i:Nat) σ h'=>i<=3∧h'=h∧σ 0=U c.toNat∧σ 4=I i∧(0<i->c≠43)∧(1<i->c≠124)∧(2<i->c≠45)) (λi=>3-i) 0 ?_ ?_
 ·exact⟨by omega,rfl,by simp,by simp,by omega,by omega,by omega⟩
 rintro i σ h'⟨hi,rfl,q0,q4,n1,n2,n3⟩
 simp(disch:=omega)[q4]
 refine fork_dec (λhlt=>?_) (λhge=>?_)
 ·have hc:i=0∨i=1∨i=2:=by omega
  rcases hc with rfl|rfl|rfl
  ·simp(disch:=omega)[q0,q4]
   refine fork_dec (λh1=>?_) (λh1=>?_)
   ·have h1:=e1.1 h1
    simp[kindB,h1]
   ·simp(disch:=omega)[q0,q4,wrap64]
    exact⟨1,⟨by omega,by omega,λ_ e=>h1 (e1.2 e),by omega,by omega⟩,by omega⟩
  ·have:=n1 (by omega)
   simp(disch:=omega)[q0,q4]
   refine fork_dec (λh1=>?_) (λh1=>?_)
   ·have h1:=e2.1 h1
    simp[kindB,h1]
   ·simp(disch:=omega)[q0,q4,wrap64]
    exact⟨2,⟨by omega,by omega,λ_=>this,λ_ e=>h1 (e2.2 e),by omega⟩,by omega⟩
  ·have:=n1 (by omega)
   have:=n2 (by omega)
   simp(disch:=omega)[q0,q4]
   refine fork_dec (λh1=>?_) (λh1=>?_)
   ·have h1:=e3.1 h1
    simp[kindB,h1]
   ·simp(disch:=omega)[q0,q4,wrap64]
    exact⟨3,⟨by omega,by omega,λ_=>by assumption,λ_=>by assumption,λ_ e=>h1 (e3.2 e)⟩,by omega⟩
 ·simp[kindB,n1 (by omega),n2 (by omega),n3 (by omega)]
def dgs(s:List UInt8):List UInt8:=if s.head?=some 45 then s.drop 1 else s
def isDig(c:UInt8):Bool:=decide ((48:Int)<=c.toNat)&&decide ((c.toNat:Int)<=57)
def valN(l:List UInt8):Nat:=l.foldl (λn c=>10*n+(c.toNat-48)) 0
def rdV(s:List UInt8):Int:=if(dgs s).length<s.length then -(valN (dgs s):Int)else valN (dgs s)
def rdOk(s:List UInt8):Bool:=decide (1<=(dgs s).length)&&(decide ((dgs s).length<=18)&&((dgs s).all isDig&&decide (decS (rdV s)=s)))
def rdDec(s:List UInt8):Int×Bool:=if rdOk s then(rdV s,true)else(0,false)
theorem valN_snoc(l:List UInt8)(c:UInt8):valN (l++[c])=10*valN l+(c.toNat-48):=by simp[valN]
theorem valN_take{l:List UInt8}{k:Nat}(hk:k<l.length):valN (l.take (k+1))=10*valN (l.take k)+(l[k].toNat-48):=by
 rw[List.take_succ_eq_append_getElem hk,valN_snoc]
theorem valN_lt{l:List UInt8}(k:Nat)(hk:k<=l.length)(ha:(l.take k).all isDig=true):valN (l.take k)+1<=10^k:=by
 induction k with
 |zero=>simp[valN]
 |succ k ih=>
  have k1:k<l.length:=by omega
  rw[List.take_succ_eq_append_getElem k1,List.all_append,Bool.and_eq_true]at ha
  have:=ih (by omega) ha.1
  rw[valN_take k1,Nat.pow_succ]
  have h2:=ha.2
  simp[isDig]at h2
  omega
theorem valN_bd{l:List UInt8}{k:Nat}(hk:k<=l.length)(hl:l.length<=18)(ha:(l.take k).all isDig=true):valN (l.take k)<=999999999999999999:=by
 have h1:=valN_lt k hk ha
 have h2:10^k<=10^18:=Nat.pow_le_pow_right (by omega) (by omega)
 have h3:(10:Nat)^18=1000000000000000000:=by decide
 omega
theorem valN_bd'{l:List UInt8}{k:Nat}(hk:k<l.length)(hl:l.length<=18)(ha:(l.take k).all isDig=true):valN (l.take k)<=99999999999999999:=by
 have h1:=valN_lt k (by omega) ha
 have h2:10^k<=10^17:=Nat.pow_le_pow_right (by omega) (by omega)
 have h3:(10:Nat)^17=100000000000000000:=by decide
 omega
theorem dgs_len(s:List UInt8):(dgs s).length<=s.length∧s.length<=(dgs s).length+1:=by
 unfold dgs
 split
 ·simp;omega
 ·omega
theorem rdDec_64(s:List UInt8):I64 (rdDec s).1:=by
 unfold rdDec
 split
 ·rename_i h
  simp only[rdOk,Bool.and_eq_true,decide_eq_true_eq]at h
  have:=valN_bd (l:=dgs s) (k:=(dgs s).length) (Nat.le_refl _) h.2.1 (by rw[List.take_length];exact h.2.2.1)
  rw[List.take_length]at this
  simp only[rdV]
  unfold I64
  split<;>omega
 ·unfold I64;omega
theorem all_take_dig{l:List UInt8}{k:Nat}(hk:k<l.length)(h:(l.take k).all isDig=true)(h1:isDig l[k]=true):(l.take (k+1)).all isDig=true:=by
 rw[List.take_succ_eq_append_getElem hk,List.all_append];simp[h,h1]
theorem all_dig_not{l:List UInt8}{k:Nat}(hk:k<l.length)(h1:isDig l[k]=false):l.all isDig=false:=by
 rw[List.all_eq_false]
 exact⟨l[k],List.getElem_mem hk,by simp[h1]⟩
theorem dgs_first{s:List UInt8}:(∃h:0<s.length,s[0]=45)∧dgs s=s.drop 1∨(∀h:0<s.length,s[0]≠45)∧dgs s=s:=by
 cases s with
 |nil=>right;exact⟨by simp,rfl⟩
 |cons c r=>
  by_cases h:c=45
  ·left;subst h;exact⟨⟨by simp,rfl⟩,rfl⟩
  ·right;exact⟨λ_=>h,by simp[dgs,h]⟩
theorem c118(s:List UInt8)(hs:s.length<=1048576)(h:Heap)(hp:0<h.length):ACall Gam 118 [S s] h λr h'=>Grows h h'∧r=.tuple #[I (rdDec s).1,B (rdDec s).2]:=by
 have hd:=dgs_len s
 refine ACall_intro g118 rfl ?_
 unfold fn118
 rw[awp_seq,awp_reg]
 generalize hK:seqQ Gam _ _ 0=K
 simp(disch:=omega)
 subst hK
 simp only[seqQ_zero]
 rw[awp_seq,awp_reg]
 generalize hK:seqQ Gam _ _ 0=K
 simp(disch:=omega)
 subst hK
 simp only[seqQ_zero]
 rw[awp_seq]
 generalize hK:seqQ Gam _ _=K
 have key:∀σ,σ 0=S s->σ 4=S (dgs s)->σ 2=I 0->σ 3=B false->K 0 σ h:=by
  intro σ q0 q4 q2 q3
  subst hK
  simp only[seqQ_zero]
  rw[awp_seq]
  generalize hK:seqQ Gam _ _=K
  simp(disch:=omega)[q0,q4]
  refine fork_dec (λh1=>?_) (λh1=>?_)
  ·have e:rdDec s=(0,false):=by
    have:¬1<=(dgs s).length:=by omega
    simp[rdDec,rdOk,this]
   subst hK
   rw[e]
   simp(disch:=omega)[h1]
   exact Grows.refl _
  simp(disch:=omega)[h1,q0,q4]
  refine fork_dec (λh2=>?_) (λh2=>?_)
  ·have e:rdDec s=(0,false):=by
    have:¬(dgs s).length<=18:=by omega
    simp[rdDec,rdOk,this]
   subst hK
   rw[e]
   simp(disch:=omega)
   exact Grows.refl _
  simp(disch:=omega)
  subst hK
  simp only[seqQ_zero]
  rw[awp_seq,awp_reg]
  generalize hK:seqQ Gam _ _ 0=K
  simp(disch:=omega)
  subst hK
  simp only[seqQ_zero]
  rw[awp_seq]
  generalize hK:seqQ Gam _ _=K
  simp(disch:=omega)[q4]
  obtain⟨d,hdd⟩:∃d,d=dgs s:=⟨_,rfl⟩
  rw[<-hdd]at hd q4 h1 h2 ⊢
  refine awp_loop (λ(k:Nat) σ' h'=>k<=d.length∧h'=h∧σ' 0=S s∧σ' 4=S d∧σ' 2=I 0∧σ' 3=B false∧σ' 5=I (valN (d.take k))∧σ' 27=I d.length∧σ' 28=I k∧(d.take k).all isDig=true) (λk=>d.length-k) 0 ?_ ?_
  ·exact⟨by omega,rfl,by simp[q0],by simp[q4],by simp[q2],by simp[q3],by simp[valN],by simp[q4],by simp,by simp⟩
  rintro k σ' h'⟨hk,rfl,p0,p4,p2,p3,p5,p27,p28,hall⟩
  simp(disch:=omega)[p4,p27,p28]
  refine fork_dec (λhlt=>?_) (λhge=>?_)
  ·have k1:k<d.length:=by omega
   have hv:=valN_bd' k1 (by omega) hall
   simp(disch:=omega)[p0,p2,p3,p4,p5,p27,p28,k1]
   refine fork_dec (λh3=>?_) (λh3=>?_)
   ·have hn:isDig d[k]=false:=by
     have:¬(48:Int)<=d[k].toNat:=by omega
     simp[isDig,this]
    have e:rdDec s=(0,false):=by simp[rdDec,rdOk,<-hdd,all_dig_not k1 hn]
    subst hK
    rw[e]
    simp(disch:=omega)[h3]
    exact Grows.refl _
   simp(disch:=omega)[h3,p0,p2,p3,p4,p5,p27,p28,k1]
   refine fork_dec (λh4=>?_) (λh4=>?_)
   ·have hn:isDig d[k]=false:=by
     have:¬(d[k].toNat:Int)<=57:=by omega
     simp[isDig,this]
    have e:rdDec s=(0,false):=by simp[rdDec,rdOk,<-hdd,all_dig_not k1 hn]
    subst hK
    rw[e]
    simp(disch:=omega)
    exact Grows.refl _
   have hd1:isDig d[k]=true:=by simp[isDig];omega
   simp(disch:=omega)[p0,p2,p3,p4,p5,p27,p28,k1,wrap64,wrap8]
   refine⟨k+1,⟨by omega,?_,by omega,List.all_eq_true.1 (all_take_dig k1 hall hd1)⟩,by omega⟩
   rw[valN_take k1];omega
  ·have hkn:k=d.length:=by omega
   subst hkn
   have hv:=valN_bd (by omega) (by omega) hall
   rw[List.take_length]at hall hv p5
   simp(disch:=omega)
   subst hK
   simp only[seqQ_zero]
   rw[awp_seq]
   generalize hK:seqQ Gam _ _=K
   have key2:∀σ,σ 0=S s->σ 5=I (rdV s)->σ 2=I 0->σ 3=B false->K 0 σ h':=by
    intro σ r0 r5 r2 r3
    have hb:I64 (rdV s):=by
     unfold rdV I64
     rw[<-hdd]
     split<;>omega
    subst hK
    simp only[seqQ_zero]
    simp(disch:=omega)[r0,r5]
    refine callW_of (c75 (rdV s) hb _ hp) ?_
    rintro _ h2⟨rfl,g2⟩
    simp(disch:=omega)[r0]
    refine fork_dec (λhe=>?_) (λhe=>?_)
    ·have e:rdDec s=(rdV s,true):=by
      simp[rdDec,rdOk,<-hdd,hall,he]
      omega
     rw[e]
     simp(disch:=omega)[r5]
     exact g2
    ·have e:rdDec s=(0,false):=by simp[rdDec,rdOk,he]
     rw[e]
     simp(disch:=omega)
     exact g2
   simp(disch:=omega)[p0,p4]
   refine fork_dec (λhlt=>?_) (λhlt=>?_)
   ·have e:rdV s=-(valN d:Int):=by unfold rdV;rw[<-hdd,if_pos (by omega)]
    simp(disch:=omega)[p5,wrap64]
    exact key2 _ (by simp[p0]) (by simp[e]) (by simp[p2]) (by simp[p3])
   ·have e:rdV s=(valN d:Int):=by unfold rdV;rw[<-hdd,if_neg (by omega)]
    simp(disch:=omega)
    exact key2 _ (by simp[p0]) (by simp[p5,e]) (by simp[p2]) (by simp[p3])
 rcases dgs_first (s:=s)with⟨⟨hpos,h45⟩,e⟩|⟨hno,e⟩
 ·have hsl:=slice_from (h:=h) (s:=s) (a:=1) (by omega)
  have e45:(s[0].toNat:Int)=45:=by rw[h45];rfl
  simp(disch:=omega)[hpos,e45]
  rw[show((1:Nat):Int)=1 from rfl]at hsl
  simp(disch:=omega)[hsl]
  exact key _ (by simp) (by simp[e]) (by simp) (by simp)
 ·by_cases hpos:0<s.length
  ·have hne:¬(s[0].toNat:Int)=45:=λx=>hno hpos (u8_eq (b:=45) |>.1 x)
   simp(disch:=omega)[hpos,hne]
   exact key _ (by simp) (by simp[e]) (by simp) (by simp)
  ·simp(disch:=omega)[hpos]
   exact key _ (by simp) (by simp[e]) (by simp) (by simp)
def at8(s:List UInt8)(i:Nat):UInt8:=s.getD i 0
theorem at8_eq{s:List UInt8}{i:Nat}(h:i<s.length):s[i]=at8 s i:=by simp[at8,h]
theorem at8_of{s:List UInt8}{i:Nat}(h:i<s.length):s[i]?=some (at8 s i):=by simp[at8,h]
theorem kindB_64(c:UInt8):I64 (kindB c):=by have:=kindB_rng c;unfold I64;omega
@[simp high] theorem add_str {n:Nat} {a b:List UInt8} (h:a.length+b.length<=4611686018427387904):aBin .add n (S a) (S b)=some (S (a++b)):=by
 simp[h]
def panH(W H:Int):List UInt8:=decS W++[120]++decS H++[58]
def panT(X:Pan):List UInt8:=panH X.1 X.2.1++X.2.2.map signB
def sgT(br:List Int)(k:Nat):List UInt8:=(br.take k).map signB
theorem sgT_zero(br:List Int):sgT br 0=[]:=rfl
theorem sgT_succ{br:List Int}{k:Nat}(h:k<br.length):sgT br (k+1)=sgT br k++[signB br[k]]:=by unfold sgT;rw[List.take_succ_eq_append_getElem h,List.map_append];rfl
theorem sgT_len(br:List Int)(k:Nat):(sgT br k).length<=br.length:=by simp[sgT];omega
theorem sgT_all(br:List Int):sgT br br.length=br.map signB:=by simp[sgT]
theorem panH_len{W H:Int}(w1:I64 W)(w2:I64 H):(panH W H).length<=42∧panH W H≠[]:=by
 have h1:=decS_len w1
 have h2:=decS_len w2
 refine⟨by simp[panH];omega,by simp[panH]⟩
theorem panT_len{X:Pan}(w1:I64 X.1)(w2:I64 X.2.1):(panT X).length<=42+X.2.2.length:=by
 have:=panH_len w1 w2
 simp[panT];omega
theorem c182w(h:Heap)(hp:0<h.length)(v:Value)(W H:Int)(br:List Int)(hv:Vr h shPanel v (W,H,br))(hb:∀x∈br,0<=x∧x<=2)(hl:br.length<=1048576):ACall Gam 182 [v] h λr h'=>Grows h h'∧r=S (panT (W,H,br)):=by
 obtain⟨s,rfl,w1,w2,r1⟩:=hv.panel
 obtain⟨b0,o0,z0,rfl,_,hm0,hx0,hc0⟩:=r1.ints
 have l1:=decS_len w1
 have l2:=decS_len w2
 have lh:=panH_len w1 w2
 refine ACall_intro g182 rfl ?_
 unfold fn182
 rw[awp_seq,awp_reg]
 generalize hK:seqQ Gam _ _ 0=K
 simp(disch:=omega)
 subst hK
 simp only[seqQ_zero]
 rw[awp_seq,awp_reg]
 generalize hK:seqQ Gam _ _ 0=K
 simp(disch:=omega)
 refine callW_of (c75 W w1 h hp) ?_
 rintro _ h1⟨rfl,g1⟩
 simp(disch:=(first|omega|(simp only[List.length_append,List.length_cons,List.length_nil];omega)))
 refine callW_of (c75 H w2 h1 (pos_of hp g1)) ?_
 rintro _ h2⟨rfl,g2⟩
 have G2:=g1.trans g2
 simp(disch:=(first|omega|(simp only[List.length_append,List.length_cons,List.length_nil];omega)))
 subst hK
 simp only[seqQ_zero]
 have eH:decS W++120::(decS H++[58])=panH W H:=by simp[panH]
 try rw[eH]
 simp(disch:=omega)
 refine awp_loop (λ(k:Nat) σ h'=>k<=br.length∧h'=h2∧σ 3=S (panH W H++sgT br k)∧σ 16=sl b0 o0 br.length z0∧σ 17=I br.length∧σ 18=I k) (λk=>br.length-k) 0 ?_ ?_
 ·exact⟨by omega,rfl,by simp[panH,sgT_zero],by simp,by simp,by simp⟩
 rintro k σ h'⟨hk,rfl,q3,q16,q17,q18⟩
 simp(disch:=omega)[q17,q18]
 refine fork_dec (λhlt=>?_) (λhge=>?_)
 ·have k1:k<br.length:=by omega
  have cb:=ints_cell (hc0.imp id (grows_cellsAt G2)) k1
  have hr:=hb _ (List.getElem_mem k1)
  have hms:=mark_slice (h:=h') (a:=br[k]) (inR_iff.2 hr)
  have hlen:=sgT_len br k
  have e1:IntKind.i64.wrap (br[k]+1)=br[k]+1:=wrap64 (by omega) (by omega)
  simp(disch:=(first|omega|(simp only[List.length_append,List.length_cons,List.length_nil];omega))) [q3,q16,q17,q18,k1,cb,e1,hms,wrap64]
  exact⟨k+1,⟨by omega,by rw[sgT_succ k1],by omega⟩,by omega⟩
 ·have hkn:k=br.length:=by omega
  subst hkn
  rw[sgT_all]at q3
  simp(disch:=omega)[q3]
  exact⟨G2,rfl⟩
def deskT(X:Jrn):List UInt8:=panT X.1++[32]++decS X.2.1.length++[32]++decS X.2.2.length
def deskAns(X:Jrn):List UInt8:=if okJ X then deskT X else[]
theorem len_64{n:Nat}(h:n<=1048576):I64 (n:Int):=by unfold I64;omega
theorem c157(h:Heap)(hp:0<h.length)(v0:Value)(W H:Int)(br:List Int)(p f:List Trip)(hv0:Vr h shJournal v0 ((W,H,br),p,f))(hb:∀x∈br,0<=x∧x<=2)(hl:br.length<=1048576)(lp:p.length<=1048576)(lf:f.length<=1048576):
  ACall Gam 157 [v0] h λr h'=>Grows h h'∧r=S (deskT ((W,H,br),p,f)):=by
 obtain⟨s,sp,sf,rfl,w1,w2,r1,r2,r3⟩:=hv0.journal
 obtain⟨pb,po,pz,rfl,_⟩:=r2.trips
 obtain⟨fb,fo,fz,rfl,_⟩:=r3.trips
 have rp:Vr h shPanel (.agg #[I W,I H,s]) (W,H,br):=Vr.of_panel w1 w2 r1
 have lt:=panT_len (X:=(W,H,br)) w1 w2
 simp only at lt
 have d1:=decS_len (len_64 lp)
 have d2:=decS_len (len_64 lf)
 refine ACall_intro g157 rfl ?_
 unfold fn157
 simp(disch:=omega)
 refine callW_of (c182w h hp _ W H br rp hb hl) ?_
 rintro _ h1⟨g1,rfl⟩
 simp(disch:=(first|omega|(simp only[List.length_append,List.length_cons,List.length_nil];omega)))
 refine callW_of (c75 _ (len_64 lp) h1 (pos_of hp g1)) ?_
 rintro _ h2⟨rfl,g2⟩
 have G2:=g1.trans g2
 simp(disch:=(first|omega|(simp only[List.length_append,List.length_cons,List.length_nil];omega)))
 refine callW_of (c75 _ (len_64 lf) h2 (pos_of hp G2)) ?_
 rintro _ h3⟨rfl,g3⟩
 simp(disch:=(first|omega|(simp only[List.length_append,List.length_cons,List.length_nil];omega))) [deskT]
 exact G2.trans g3
theorem c77(h:Heap)(hp:0<h.length)(v0:Value)(X0:Jrn)(hv0:Vr h shJournal v0 X0)(hs0:siz shJournal X0<=1048576):
  ACall Gam 77 [v0] h λr h'=>Grows h h'∧r=S (deskAns X0):=by
 obtain⟨⟨W,H,br⟩,p,f⟩:=X0
 have hv0':=hv0
 obtain⟨s,sp,sf,rfl,w1,w2,r1,r2,r3⟩:=hv0.journal
 refine ACall_intro g77 rfl ?_
 unfold fn77
 simp(disch:=omega)
 refine callW_of (c138 h hp _ _ hv0' hs0) ?_
 rintro _ h1⟨g1,rfl⟩
 cases q:okJ ((W,H,br),p,f)
 ·simp(disch:=omega)[deskAns,q]
  exact g1
 obtain⟨ok,hle,_⟩:=okJ_parts q
 have hbl:=ok_len ok
 simp(disch:=omega)
 refine callW_of (c157 h1 (pos_of hp g1) _ W H br p f (hv0'.grow g1) ok.b (by omega) (by omega) (by omega)) ?_
 rintro _ h2⟨g2,rfl⟩
 simp(disch:=omega)[deskAns,q]
 exact g1.trans g2
/-- JM with its parts named. -/
def JMx(h:Heap)(lo jb:Nat)(X:Jrn)(rest:List Value)(b1 z1 b2 z2 b3 z3:Nat):Prop:=
 h[jb]?=some ⟨[I X.1.1,I X.1.2.1,sl b1 0 X.1.2.2.length z1,sl b2 0 X.2.1.length z2,sl b3 0 X.2.2.length z3],true⟩∧lo<=jb∧0<lo∧(z1=1∨b1=0∧X.1.2.2=[])∧
 (X.1.2.2=[]∨h[b1]?=some ⟨ints X.1.2.2,true⟩∧lo<=b1∧b1≠jb∧b1≠b2∧b1≠b3)∧
 (X.2.1=[]∧b2=0∨z2=3∧h[b2]?=some ⟨trips X.2.1++rest,true⟩∧lo<=b2∧b2≠jb∧b2≠b3)∧
 (X.2.2=[]∧b3=0∨z3=3∧h[b3]?=some ⟨trips X.2.2,true⟩∧lo<=b3∧b3≠jb)∧Jwf X
theorem JMx.jm{h:Heap}{lo jb:Nat}{X:Jrn}{rest:List Value}{b1 z1 b2 z2 b3 z3:Nat}(x:JMx h lo jb X rest b1 z1 b2 z2 b3 z3):JM h lo jb X rest:=⟨_,_,_,_,_,_,x⟩
theorem JMx.brs{h:Heap}{lo jb:Nat}{W H:Int}{br:List Int}{p f:List Trip}{rest:List Value}{b1 z1 b2 z2 b3 z3:Nat}(x:JMx h lo jb ((W,H,br),p,f) rest b1 z1 b2 z2 b3 z3){k:Nat}{v:Int}(hk:k<br.length)(hv:I64 v):
  ∃h',storeAt h b1 k [I v]=some h'∧JMx h' lo jb ((W,H,br.set k v),p,f) rest b1 z1 b2 z2 b3 z3∧Mod lo h.length h h'∧h'.length=h.length:=by
 obtain⟨hjb,hlo,hpos,hz1,i1,i2,i3,w1,w2,x1,x2,x3,y1,y2,y3⟩:=x
 simp only at hjb hz1 i1 i2 i3 w1 w2 x1 x2 x3 y1 y2 y3
 have hne:br≠[]:=by intro e;rw[e]at hk;simp at hk
 obtain⟨hb1,j1,j2,j3,j4⟩:=i1.resolve_left hne
 have hl:=at_lt hb1
 refine⟨_,store_int hb1 hk,⟨?_,hlo,hpos,?_,.inr ⟨?_,j1,j2,j3,j4⟩,i2.imp id λe=>⟨e.1,?_,e.2.2.1,e.2.2.2.1,e.2.2.2.2⟩,i3.imp id λe=>⟨e.1,?_,e.2.2.1,e.2.2.2⟩,⟨w1,w2,?_,x2,x3,by simpa using y1,y2,y3⟩⟩,⟨by simp,?_⟩,by simp⟩
 ·rw[set_other (by omega),hjb];simp
 ·exact .inl (hz1.resolve_right λe=>hne e.2)
 ·simp[hl]
 ·rw[set_other (by omega)];exact e.2.1
 ·rw[set_other (by omega)];exact e.2.1
 ·intro y hy
  rcases List.mem_or_eq_of_mem_set hy with hy|rfl
  ·exact x1 y hy
  ·exact hv
 ·intro c hc hn
  rw[set_other (by omega)]
theorem JMx.past{h h1:Heap}{lo jb:Nat}{W H:Int}{br:List Int}{p f p':List Trip}{rest rest':List Value}{b1 z1 b2 z2 b3 z3 nb:Nat}(x:JMx h lo jb ((W,H,br),p,f) rest b1 z1 b2 z2 b3 z3)
  (hl:h.length<=h1.length) (hk:∀c,c<h.length->c≠b2∨b2=0->h1[c]?=h[c]?) (hn:h1[nb]?=some ⟨trips p'++rest',true⟩) (hnb:h.length<=nb∨nb=b2∧p≠[]) (hp:∀t∈p',T64 t) (hpl:p'.length<=1048576):
  ∃h',storeAt h1 jb 3 [sl nb 0 p'.length 3]=some h'∧JMx h' lo jb ((W,H,br),p',f) rest' b1 z1 nb 3 b3 z3∧Mod lo h.length h h'∧h'.length=h1.length:=by
 obtain⟨hjb,hlo,hpos,hz1,i1,i2,i3,w1,w2,x1,x2,x3,y1,y2,y3⟩:=x
 simp only at hjb hz1 i1 i2 i3 w1 w2 x1 x2 x3 y1 y2 y3
 have hjl:=at_lt hjb
 have j2:jb≠b2∨b2=0:=by rcases i2 with e|e<;>omega
 have hj1:h1[jb]?=some ⟨[I W,I H,sl b1 0 br.length z1,sl b2 0 p.length z2,sl b3 0 f.length z3],true⟩:=by rw[hk jb hjl j2];exact hjb
 have hs:=store_one (v:=sl nb 0 p'.length 3) (o:=3) hj1 (by simp)
 refine⟨_,hs,⟨?_,hlo,hpos,hz1,i1.imp id λe=>⟨?_,e.2.1,e.2.2.1,?_,e.2.2.2.2⟩,.inr ⟨rfl,?_,?_,?_,?_⟩,i3.imp id λe=>⟨e.1,?_,e.2.2.1,e.2.2.2⟩,⟨w1,w2,x1,hp,x3,y1,hpl,y3⟩⟩,⟨by simp;exact hl,?_⟩,by simp⟩
 ·simp[at_lt hj1]
 ·rw[set_other (by omega),hk b1 (at_lt e.1) (by omega)];exact e.1
 ·have:=at_lt e.1
  rcases hnb with e'|e'
  ·omega
  ·omega
 ·have hne:nb≠jb:=by
   rcases hnb with e'|e'
   ·omega
   ·have:=i2.resolve_left λe=>e'.2 e.1
    omega
  rw[set_other hne];exact hn
 ·rcases hnb with e'|e'
  ·omega
  ·have:=i2.resolve_left λe=>e'.2 e.1
   omega
 ·rcases hnb with e'|e'
  ·omega
  ·have:=i2.resolve_left λe=>e'.2 e.1
   omega
 ·rcases hnb with e'|e'
  ·rcases i3 with e|e
   ·omega
   ·have:=at_lt e.2.1;omega
  ·have:=i2.resolve_left λe=>e'.2 e.1
   omega
 ·rw[set_other (by omega),hk b3 (at_lt e.2.1) (by rcases i2 with e'|e'<;>omega)];exact e.2.1
 ·intro c hc hn
  rw[set_other (by omega),hk c hc (by rcases i2 with e'|e'<;>omega)]
theorem JMx.fut{h h1:Heap}{lo jb:Nat}{W H:Int}{br:List Int}{p f f':List Trip}{rest:List Value}{b1 z1 b2 z2 b3 z3 nb:Nat}(x:JMx h lo jb ((W,H,br),p,f) rest b1 z1 b2 z2 b3 z3)
  (hl:h.length<=h1.length) (hk:∀c,c<h.length->c≠b3∨b3=0->h1[c]?=h[c]?) (hn:nb=0∧f'=[]∨h1[nb]?=some ⟨trips f',true⟩∧h.length<=nb) (hp:∀t∈f',T64 t) (hpl:f'.length<=1048576):
  ∃h',storeAt h1 jb 4 [sl nb 0 f'.length 3]=some h'∧JMx h' lo jb ((W,H,br),p,f') rest b1 z1 b2 z2 nb 3∧Mod lo h.length h h'∧h'.length=h1.length:=by
 obtain⟨hjb,hlo,hpos,hz1,i1,i2,i3,w1,w2,x1,x2,x3,y1,y2,y3⟩:=x
 simp only at hjb hz1 i1 i2 i3 w1 w2 x1 x2 x3 y1 y2 y3
 have hjl:=at_lt hjb
 have j2:jb≠b3∨b3=0:=by rcases i3 with e|e<;>omega
 have hj1:h1[jb]?=some ⟨[I W,I H,sl b1 0 br.length z1,sl b2 0 p.length z2,sl b3 0 f.length z3],true⟩:=by rw[hk jb hjl j2];exact hjb
 have hs:=store_one (v:=sl nb 0 f'.length 3) (o:=4) hj1 (by simp)
 refine⟨_,hs,⟨?_,hlo,hpos,hz1,i1.imp id λe=>⟨?_,e.2.1,e.2.2.1,e.2.2.2.1,?_⟩,i2.imp id λe=>⟨e.1,?_,e.2.2.1,e.2.2.2.1,?_⟩,?_,⟨w1,w2,x1,x2,hp,y1,y2,hpl⟩⟩,⟨by simp;exact hl,?_⟩,by simp⟩
 ·simp[at_lt hj1]
 ·rw[set_other (by omega),hk b1 (at_lt e.1) (by omega)];exact e.1
 ·have:=at_lt e.1
  rcases hn with e'|e'<;>omega
 ·rw[set_other (by omega),hk b2 (at_lt e.2.1) (by omega)];exact e.2.1
 ·have:=at_lt e.2.1
  rcases hn with e'|e'<;>omega
 ·rcases hn with e'|e'
  ·exact .inl ⟨e'.2,e'.1⟩
  ·exact .inr ⟨rfl,by rw[set_other (by omega)];exact e'.1,by omega,by omega⟩
 ·intro c hc hn
  rw[set_other (by omega),hk c hc (by rcases i3 with e'|e'<;>omega)]
theorem JMx.cells{h:Heap}{lo jb:Nat}{X:Jrn}{rest:List Value}{b1 z1 b2 z2 b3 z3:Nat}(x:JMx h lo jb X rest b1 z1 b2 z2 b3 z3):
  cell h jb 2=some (sl b1 0 X.1.2.2.length z1)∧cell h jb 3=some (sl b2 0 X.2.1.length z2)∧cell h jb 4=some (sl b3 0 X.2.2.length z3):=by
 have:=x.1
 simp[cell,this]
theorem trip_first{h:Heap}{b:Nat}{s:Trip}{f:List Trip}{r:List Value}{w:Bool}(hb:h[b]?=some ⟨trips (s::f)++r,w⟩):cellsAt h b 0 3=some [I s.1,I s.2.1,I s.2.2]:=by
 rw[cellsAt_of hb (by simp[trips_cons])]
 simp[trips_cons]
theorem trip_last{h:Heap}{b:Nat}{s:Trip}{p:List Trip}{r:List Value}{w:Bool}(hb:h[b]?=some ⟨trips (p++[s])++r,w⟩):cellsAt h b (p.length*3) 3=some [I s.1,I s.2.1,I s.2.2]:=by
 rw[cellsAt_of hb (by simp[trips_append,trips_cons,trips_nil,trips_len];omega)]
 rw[trips_append,List.append_assoc,List.drop_append_of_le_length (by rw[trips_len];omega),List.drop_of_length_le (by rw[trips_len];omega)]
 simp[trips_cons,trips_nil]
theorem Mod.tr{lo:Nat}{a b c:Heap}(x:Mod lo a.length a b)(y:Mod lo b.length b c):Mod lo a.length a c:=
 ⟨Nat.le_trans x.1 y.1,λk hk hn=>by rw[y.2 k (Nat.lt_of_lt_of_le hk x.1) (by omega),x.2 k hk hn]⟩
theorem c310(h:Heap)(b:Nat)(s:Trip)(f:List Trip)(hb:h[b]?=some ⟨trips (s::f),true⟩)(h0:b≠0):
  ACall Gam 310 [sl b 0 (f.length+1) 3,I 0,I 1] h λr h'=>r=sl h.length 0 f.length 3∧h'=h.set b ⟨[],false⟩++[⟨trips f,true⟩]:=by
 have hd:primDelete 3 [sl b 0 (f.length+1) 3,I 0,I 1] h=some (sl h.length 0 f.length 3,h.set b ⟨[],false⟩++[⟨trips f,true⟩]):=by
  simp[primDelete,hb,h0]
  refine⟨by omega,?_⟩
  rw[cellsAt_all hb (by simp[trips_cons,trips_len];omega)]
  simp[trips_cons]
 exact ACall_prim g310 rfl rfl hd ⟨rfl,rfl⟩
theorem c317(h:Heap)(b c z:Nat)(s:Trip)(f:List Trip)(hb:f=[]∧b=0∨z=3∧b≠0∧h[b]?=some ⟨trips f,true⟩)(hc:h[c]?=some ⟨trips [s],true⟩)(hne:c≠b)(hf:f.length<=1048576):
  ACall Gam 317 [sl b 0 f.length z,I 0,sl c 0 1 3] h λr h'=>r=sl h.length 0 (f.length+1) 3∧h.length<h'.length∧(∀k,k<h.length->k≠b∨b=0->h'[k]?=h[k]?)∧h'[h.length]?=some ⟨trips (s::f),true⟩:=by
 have hn:newCells 3 h (sl c 0 1 3)=some [I s.1,I s.2.1,I s.2.2]:=by
  simp only[newCells,if_neg (show ¬(1:Nat)=0 by omega)]
  rw[cellsAt_all hc (by rw[trips_len];rfl)]
  simp[trips_cons,trips_nil]
 rcases hb with⟨rfl,rfl⟩|⟨rfl,h0,hb⟩
 ·have hi:primInsert 3 [sl 0 0 0 z,I 0,sl c 0 1 3] h=some (sl h.length 0 1 3,h++[⟨[I s.1,I s.2.1,I s.2.2],true⟩]):=by
   simp[primInsert,hn,maxSize,hne]
  exact ACall_prim g317 rfl rfl hi ⟨rfl,by simp,λk hk _=>List.getElem?_append_left hk,by simp[trips_cons,trips_nil]⟩
 ·have hi:primInsert 3 [sl b 0 f.length 3,I 0,sl c 0 1 3] h=some (sl h.length 0 (f.length+1) 3,h.set b ⟨[],false⟩++[⟨trips (s::f),true⟩]):=by
   simp only[primInsert,hn]
   rw[if_neg (by simp[maxSize];omega),if_neg h0]
   simp only[hb,hc]
   rw[if_pos ⟨trivial,trivial,trivial⟩,cellsAt_all hb (by rw[trips_len];omega)]
   simp[trips_cons]
  exact ACall_prim g317 rfl rfl hi ⟨rfl,by simp,λk hk hn=>by rw[List.getElem?_append_left (by simpa using hk),set_other (by omega)],by simp⟩
theorem c1(h:Heap)(lo jb:Nat)(W H:Int)(br:List Int)(p f:List Trip)(a x y:Int)(rest:List Value)(hJ:JM h lo jb ((W,H,br),p,(a,x,y)::f) rest)(ha:0<=a)(hb:a<br.length)(hp:p.length<=1000)(hf:f.length<=1000):
  ACall Gam 1 [pt jb 0] h λ_ h'=>Mod lo h.length h h'∧JM h' lo jb ((W,H,br.set a.toNat y),p++[(a,x,y)],f) []:=by
 obtain⟨b1,z1,b2,z2,b3,z3,hJ⟩:=hJ
 have hJ:JMx h lo jb ((W,H,br),p,(a,x,y)::f) rest b1 z1 b2 z2 b3 z3:=hJ
 obtain⟨an,rfl⟩:=Int.eq_ofNat_of_zero_le ha
 rw[Int.toNat_natCast]
 have han:an<br.length:=by omega
 have wf:=hJ.2.2.2.2.2.2.2
 have wft:T64 ((an:Int),x,y):=wf.f _ (by simp)
 have wfb:∀t∈f,T64 t:=λt ht=>wf.f _ (by simp[ht])
 have wfp:∀t∈p,T64 t:=wf.p
 obtain⟨k2,k3,k4⟩:=hJ.cells
 simp only[List.length_cons]at k2 k3 k4
 obtain⟨z3e,hb3,_⟩:=hJ.2.2.2.2.2.2.1.resolve_left (by simp)
 have hb30:b3≠0:=by omega
 have c3:=trip_first (r:=[]) (by rw[List.append_nil];exact hb3)
 simp only at c3
 refine ACall_intro g1 rfl ?_
 unfold fn1
 rw[awp_seq,awp_reg]
 generalize hK:seqQ Gam _ _ 0=K
 simp(disch:=omega)[k4,c3]
 subst hK
 simp only[seqQ_zero]
 rw[awp_seq,awp_reg]
 generalize hK:seqQ Gam _ _ 0=K
 obtain⟨h1,s1,J1,m1,e1⟩:=hJ.brs han wft.2.2
 simp(disch:=omega)[k2,han,s1]
 subst hK
 simp only[seqQ_zero]
 rw[awp_seq,awp_reg]
 generalize hK:seqQ Gam _ _ 0=K
 obtain⟨k2,k3,k4⟩:=J1.cells
 simp only[List.length_cons,List.length_set]at k2 k3 k4
 have i3:=J1.2.2.2.2.2.2.1.resolve_left (by simp)
 simp(disch:=omega)[k4]
 have hb:=i3.2.1
 simp only at hb
 rw[z3e]
 refine callW_of (c310 h1 b3 _ f hb hb30) ?_
 rintro _ h2⟨rfl,e2⟩
 obtain⟨h6,s6,J6,m6,e6⟩:=J1.fut (h1:=h2) (f':=f) (nb:=h1.length) (by rw[e2];simp) (λc hc hn=>by rw[e2,List.getElem?_append_left (by simpa using hc),set_other (by omega)]) (.inr ⟨by rw[e2];simp,Nat.le_refl _⟩) wfb (by omega)
 simp(disch:=omega)[s6]
 subst hK
 simp only[seqQ_zero]
 obtain⟨k2,k3,k4⟩:=J6.cells
 simp only[List.length_cons,List.length_set]at k2 k3 k4
 simp(disch:=omega)[k3,aBuildSlice]
 have i2:=J6.2.2.2.2.2.1
 simp only at i2
 refine append_rest (cs:=trips p) (rest:=rest) (new:=[I an,I x,I y]) ?_ ?_ ?_ (by omega) (by simp) (by simp) (by rw[trips_len];simp[maxSize];omega) ?_
 ·rcases i2 with⟨e1,e2⟩|⟨e1,e2,e3,e4,e5⟩
  ·left;exact⟨by rw[e1];rfl,by rw[e1];rfl,e2⟩
  ·right
   refine⟨by have:=J1.2.2.1;omega,by rw[trips_len];omega,?_⟩
   rw[List.getElem?_append_left (at_lt e2)];exact e2
 ·rcases i2 with⟨e1,e2⟩|⟨e1,e2,e3,e4,e5⟩
  ·exact .inl e2
  ·exact .inr e1
 ·simp[newCells]
  rw[cellsAt_of (k:=⟨[I an,I x,I y],true⟩) (by simp) (by simp)]
  simp
 intro h3 hl3 hk3 hn3
 simp only[List.length_append,List.length_cons,List.length_nil]at hl3 hk3 hn3
 obtain⟨h4,s4,J4,m4,e4⟩:=J6.past (h1:=h3) (p':=p++[((an:Int),x,y)]) (rest':=[]) (nb:=h6.length+1) (by omega) (λc hc hn=>by rw[hk3 c (by omega) hn,List.getElem?_append_left (by omega)])
  (by rw[hn3];simp[trips_append,trips_cons,trips_nil]) (.inl (by omega)) (by
   intro t ht
   rcases List.mem_append.1 ht with ht|ht
   ·exact wfp t ht
   ·simp at ht;subst ht;exact wft) (by simp;omega)
 simp only[List.length_append,List.length_cons,List.length_nil,Nat.zero_add]at s4
 simp(disch:=omega)[s4]
 exact⟨m1.tr (m6.tr m4),J4.jm⟩
theorem c2(h:Heap)(lo jb:Nat)(W H:Int)(br:List Int)(p f:List Trip)(a x y:Int)(rest:List Value)(hJ:JM h lo jb ((W,H,br),p++[(a,x,y)],f) rest)(ha:0<=a)(hb:a<br.length)(hp:p.length<=1000)(hf:f.length<=1000):
  ACall Gam 2 [pt jb 0] h λ_ h'=>Mod lo h.length h h'∧JM h' lo jb ((W,H,br.set a.toNat x),p,(a,x,y)::f) (trips [(a,x,y)]++rest):=by
 obtain⟨b1,z1,b2,z2,b3,z3,hJ⟩:=hJ
 have hJ:JMx h lo jb ((W,H,br),p++[(a,x,y)],f) rest b1 z1 b2 z2 b3 z3:=hJ
 obtain⟨an,rfl⟩:=Int.eq_ofNat_of_zero_le ha
 rw[Int.toNat_natCast]
 have han:an<br.length:=by omega
 have wf:=hJ.2.2.2.2.2.2.2
 have wft:T64 ((an:Int),x,y):=wf.p _ (by simp)
 have wfb:∀t∈f,T64 t:=wf.f
 have wfp:∀t∈p,T64 t:=λt ht=>wf.p _ (by simp[ht])
 obtain⟨k2,k3,k4⟩:=hJ.cells
 simp only[List.length_append,List.length_cons,List.length_nil,Nat.zero_add]at k2 k3 k4
 obtain⟨z2e,hb2,_⟩:=hJ.2.2.2.2.2.1.resolve_left (by simp)
 simp only at hb2
 have cl:=trip_last hb2
 simp only at cl
 refine ACall_intro g2 rfl ?_
 unfold fn2
 rw[awp_seq,awp_reg]
 generalize hK:seqQ Gam _ _ 0=K
 have e1:((p.length:Int)+1-1)=p.length:=by omega
 simp(disch:=omega)[k3,e1,wrap64]
 subst hK
 simp only[seqQ_zero]
 rw[awp_seq,awp_reg]
 generalize hK:seqQ Gam _ _ 0=K
 have hlt:((p.length:Int)<p.length+1)=True:=by simp;omega
 simp(disch:=omega)[k3,e1,cl,wrap64,hlt]
 subst hK
 simp only[seqQ_zero]
 rw[awp_seq,awp_reg]
 generalize hK:seqQ Gam _ _ 0=K
 obtain⟨h1,s1,J1,m1,l1⟩:=hJ.brs han wft.2.1
 simp(disch:=omega)[k2,han,s1]
 subst hK
 simp only[seqQ_zero]
 rw[awp_seq,awp_reg]
 generalize hK:seqQ Gam _ _ 0=K
 obtain⟨k2,k3,k4⟩:=J1.cells
 simp only[List.length_append,List.length_cons,List.length_nil,Nat.zero_add,List.length_set]at k2 k3 k4
 have i2:=J1.2.2.2.2.2.1.resolve_left (by simp)
 simp only at i2
 obtain⟨h2,s2,J2,m2,l2⟩:=J1.past (h1:=h1) (p':=p) (rest':=trips [((an:Int),x,y)]++rest) (nb:=b2) (Nat.le_refl _) (λc _ _=>rfl) (by rw[i2.2.1];simp[trips_append]) (.inr ⟨rfl,by simp⟩) wfp (by omega)
 have es:aSlice 7 h1 (sl b2 0 (p.length+1) 3) none (some (I p.length)) none=some (sl b2 0 p.length 3,h1):=by
  simp[aSlice,bound]
 rw[z2e]at k3
 simp(disch:=omega)[k3,e1,wrap64,es,s2]
 subst hK
 simp only[seqQ_zero]
 obtain⟨k2,k3,k4⟩:=J2.cells
 simp only[List.length_append,List.length_cons,List.length_nil,Nat.zero_add,List.length_set]at k2 k3 k4
 have k4':cell (h2++[⟨[I an,I x,I y],true⟩]) jb 4=some (sl b3 0 f.length z3):=by
  simp only[cell]at k4 ⊢
  rw[List.getElem?_append_left (at_lt J2.1)];exact k4
 simp(disch:=omega)[aBuildSlice,k4]
 have i3:=J2.2.2.2.2.2.2.1
 simp only at i3
 have hi:=c317 (h2++[⟨[I an,I x,I y],true⟩]) b3 h2.length z3 ((an:Int),x,y) f (i3.imp id λe=>⟨e.1,by have:=J2.2.2.1;omega,push_at e.2.1⟩) (by simp[trips_cons,trips_nil]) (by
  have:=at_lt J2.1
  rcases i3 with e|e
  ·omega
  ·have:=at_lt e.2.1;omega) (by omega)
 refine callW_of hi ?_
 rintro _ h5⟨rfl,hl5,hk5,hn5⟩
 simp only[List.length_append,List.length_cons,List.length_nil]at hl5 hk5 hn5
 obtain⟨h6,s6,J6,m6,e6⟩:=J2.fut (h1:=h5) (f':=((an:Int),x,y)::f) (nb:=h2.length+1) (by omega) (λc hc hn=>by rw[hk5 c (by omega) hn,List.getElem?_append_left (by omega)]) (.inr ⟨hn5,by omega⟩) (by
   intro t ht
   rcases List.mem_cons.1 ht with rfl|ht
   ·exact wft
   ·exact wfb t ht) (by simp;omega)
 simp only[List.length_cons]at s6
 simp(disch:=omega)[s6]
 exact⟨m1.tr (m2.tr m6),J6.jm⟩
/-- All steps fit the branches; there are not many. -/
structure JK (X:Jrn):Prop where
 p:∀t∈X.2.1,0<=t.1∧t.1<X.1.2.2.length
 f:∀t∈X.2.2,0<=t.1∧t.1<X.1.2.2.length
 n:X.2.1.length+X.2.2.length<=50
theorem runB_keys:∀(l:List Trip) (br:List Int),(runB l br).isSome=true->∀t∈l,0<=t.1∧t.1<br.length
 |[],_,_=>by simp
 |s::l,br,h=>by
  unfold runB at h
  by_cases hc:(okStep br.length s&&decide (at0 br s.1.toNat=s.2.2))=true
  ·rw[if_pos hc]at h
   have:=runB_keys l _ h
   rw[List.length_set]at this
   intro t ht
   rcases List.mem_cons.1 ht with rfl|ht
   ·exact(okStep_iff.1 (by simp at hc;exact hc.1)).1
   ·exact this t ht
  ·rw[if_neg hc]at h;simp at h
theorem runF_keys:∀(l:List Trip) (br:List Int),(runF l br).isSome=true->∀t∈l,0<=t.1∧t.1<br.length
 |[],_,_=>by simp
 |s::l,br,h=>by
  unfold runF at h
  by_cases hc:(okStep br.length s&&decide (at0 br s.1.toNat=s.2.1))=true
  ·rw[if_pos hc]at h
   have:=runF_keys l _ h
   rw[List.length_set]at this
   intro t ht
   rcases List.mem_cons.1 ht with rfl|ht
   ·exact(okStep_iff.1 (by simp at hc;exact hc.1)).1
   ·exact this t ht
  ·rw[if_neg hc]at h;simp at h
theorem JK.of{X:Jrn}(h:okJ X=true):JK X:=by
 unfold okJ at h
 simp only[Bool.and_eq_true,decide_eq_true_eq]at h
 exact⟨λt ht=>runB_keys _ _ h.2.2.1 t (by simpa using ht),runF_keys _ _ h.2.2.2,h.2.1⟩
def redoJ(X:Jrn):Jrn:=match X.2.2 with
 |[]=>X
 |s::f=>((X.1.1,X.1.2.1,X.1.2.2.set s.1.toNat s.2.2),X.2.1++[s],f)
def redoAns(X:Jrn):Jrn×Int:=if okJ X then(if X.2.2=[]then(noJ,6)else(redoJ X,0))else(noJ,1)
theorem redoJ_len(X:Jrn):(redoJ X).1.2.2.length=X.1.2.2.length∧(redoJ X).2.1.length+(redoJ X).2.2.length=X.2.1.length+X.2.2.length:=by
 unfold redoJ
 split
 ·exact⟨rfl,rfl⟩
 ·rename_i h;simp[h];omega
theorem ok_siz{X Y:Jrn}(h:okJ X=true)(hb:Y.1.2.2.length=X.1.2.2.length)(hn:Y.2.1.length+Y.2.2.length<=50):siz shJournal Y<=16777216:=by
 obtain⟨⟨W,H,br⟩,p,f⟩:=X
 obtain⟨⟨W',H',br'⟩,p',f'⟩:=Y
 obtain⟨ok,hle,_⟩:=okJ_parts h
 have:=ok_len ok
 simp only at hb hn
 rw[siz_journal];omega
theorem redo_siz(X:Jrn):siz shJournal (redoAns X).1<=16777216:=by
 unfold redoAns
 split
 ·rename_i h
  split
  ·rw[noJ_siz];omega
  ·exact ok_siz h (redoJ_len X).1 (by have:=(redoJ_len X).2;have:=(JK.of h).n;simp only at*;omega)
 ·rw[noJ_siz];omega
theorem redo_i(h:Heap)(lo jb:Nat)(X:Jrn)(rest:List Value)(hJ:JM h lo jb X rest)(hk:JK X)(hne:X.2.2≠[]):
  ACall Gam 1 [pt jb 0] h λ_ h'=>Mod lo h.length h h'∧JM h' lo jb (redoJ X) []:=by
 obtain⟨⟨W,H,br⟩,p,f'⟩:=X
 cases f' with
 |nil=>exact absurd rfl hne
 |cons s f'=>
  obtain⟨a,x,y⟩:=s
  have k1:=hk.f (a,x,y) (by simp)
  have k2:=hk.n
  simp only[List.length_cons]at k1 k2
  exact c1 h lo jb W H br p f' a x y rest hJ k1.1 k1.2 (by omega) (by omega)
theorem c123(h:Heap)(hp:0<h.length)(v0:Value)(X0:Jrn)(hv0:Vr h shJournal v0 X0)(hs0:siz shJournal X0<=1048576):
  ACall Gam 123 [v0] h λr h'=>Grows h h'∧∃r0,r=.tuple #[r0,I (redoAns X0).2]∧Vo h' h.length h'.length shJournal r0 (redoAns X0).1∧siz shJournal (redoAns X0).1<=16777216:=by
 have hsz:=redo_siz X0
 have wf:=wf_vr hv0 hs0
 obtain⟨⟨W,H,br⟩,p,f⟩:=X0
 obtain⟨s,sp,sf,rfl,w1,w2,r1,r2,r3⟩:=hv0.journal
 refine ACall_intro g123 rfl ?_
 unfold fn123
 rw[awp_seq,awp_reg]
 generalize hK:seqQ Gam _ _ 0=K
 simp(disch:=omega)
 subst hK
 simp only[seqQ_zero]
 rw[awp_seq]
 generalize hK:seqQ Gam _ _=K
 simp(disch:=omega)
 have hv0':=hv0
 obtain⟨pb,po,pz,e3,hpm,_⟩:=trips_at r3
 rw[maxLen_eq]at hpm
 subst e3
 refine callW_of (c138 h hp _ _ hv0' hs0) ?_
 rintro _ h1⟨G1,rfl⟩
 cases q:okJ ((W,H,br),p,f)
 ·have e:redoAns ((W,H,br),p,f)=(noJ,1):=by simp[redoAns,q]
  subst hK
  rw[e]at hsz ⊢
  simp(disch:=omega)[resOf,resAll,resOne,aField]
  exact⟨G1,Vo.no_journal,hsz⟩
 simp(disch:=omega)
 subst hK
 simp only[seqQ_zero]
 rw[awp_seq]
 generalize hK:seqQ Gam _ _=K
 simp(disch:=omega)
 refine fork_dec (λh3=>?_) (λh3=>?_)
 ·have h3:f=[]:=List.length_eq_zero_iff.1 (by simpa using h3)
  have e:redoAns ((W,H,br),p,f)=(noJ,6):=by unfold redoAns;rw[q];simp[h3]
  subst hK
  rw[e]at hsz ⊢
  simp(disch:=omega)[resOf,resAll,resOne,aField]
  exact⟨G1,Vo.no_journal,hsz⟩
 have hfe:f≠[]:=by intro e;subst e;simp at h3
 have e:redoAns ((W,H,br),p,f)=(redoJ ((W,H,br),p,f),0):=by unfold redoAns;rw[q];simp[hfe]
 simp(disch:=omega)
 subst hK
 rw[e]at hsz ⊢
 simp only[seqQ_zero]
 rw[awp_seq,awp_reg]
 generalize hK:seqQ Gam _ _ 0=K
 simp(disch:=omega)
 refine callW_of (c148 h1 (pos_of hp G1) _ _ (hv0'.grow G1) hs0) ?_
 rintro _ h2 x5
 obtain⟨b1,z1,b2,z2,b3,z3,rfl,hJ⟩:=JM.own (pos_of hp G1) x5 wf
 have g2:=x5.1
 simp only at hJ
 have hsb:storeAt (h2++[⟨[I 0,I 0,sl 0 0 0 0,sl 0 0 0 0,sl 0 0 0 0],true⟩]) h2.length 0 [I W,I H,sl b1 0 br.length z1,sl b2 0 p.length z2,sl b3 0 f.length z3]=some (h2++[⟨[I W,I H,sl b1 0 br.length z1,sl b2 0 p.length z2,sl b3 0 f.length z3],true⟩]):=store_box rfl
 simp(disch:=omega)[hsb]
 subst hK
 simp only[seqQ_zero]
 rw[awp_seq,awp_reg]
 generalize hK:seqQ Gam _ _ 0=K
 simp(disch:=omega)
 obtain⟨h3,e3⟩:∃h3,h3=h2++[⟨[I W,I H,sl b1 0 br.length z1,sl b2 0 p.length z2,sl b3 0 f.length z3],true⟩]:=⟨_,rfl⟩
 rw[<-e3]at hJ ⊢
 have G3:Grows h1 h3:=g2.trans ⟨_,e3⟩
 refine callW_of (redo_i h3 h1.length h2.length _ [] hJ (JK.of q) hfe) ?_
 rintro _ h4⟨md,hJ2⟩
 simp(disch:=omega)
 subst hK
 simp only[seqQ_zero]
 have L1:=G1.le
 obtain⟨cs,hk,hl,ov⟩:=hJ2.vo
 have cw:cellsAt h4 h2.length 0 5=some cs:=cellsAt_all hk hl.symm
 have G4:=md.grows G3 (Nat.le_refl _)
 simp(disch:=omega)[cw,hl,resOf,resAll,resOne,aField]
 have et:cs.take 5=cs:=List.take_of_length_le (by omega)
 try rw[et]
 exact⟨G1.trans G4,ov.wide L1 (Nat.le_refl _),hsz⟩
end Am

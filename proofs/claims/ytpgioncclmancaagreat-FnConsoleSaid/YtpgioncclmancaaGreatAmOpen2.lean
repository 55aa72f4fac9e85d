/- The open region: the proof. -/
import Derived.Test.YtpgioncclmancaaGreatAmOpen
set_option linter.unusedVariables false
set_option linter.unusedSimpArgs false
namespace Am
open Go
section
variable {A : Seat} {loc pb : List Nat} {env : List (Nat × Nat)} {ops : Array Oper} {l : List Oper} {m : Nat} {call : Caller} {Sq : Nat -> Nat -> Value} {Hq : Nat -> Heap} {V : Nat -> Value} {base lo : Nat}
def Calm(Hq:Nat->Heap)(k:Nat):Prop:=Grows (Hq k) (Hq (k+1))
theorem calm_chain{i j:Nat}(hij:i<=j)(hc:∀k,i<=k->k<j->Calm Hq k):Grows (Hq i) (Hq j):=by
 obtain⟨d,rfl⟩:∃d,j=i+d:=⟨j-i,by omega⟩
 induction d with
 |zero=>exact Grows.refl _
 |succ d ih=>exact(ih (by omega) λk h1 h2=>hc k h1 (by omega)).trans (hc (i+d) (by omega) (by omega))
theorem next_mover(Hq:Nat->Heap)(n:Nat):∀(r k:Nat),k+r=n->∃R,k<=R∧R<=n∧(R<n->¬Calm Hq R)∧∀j,k<=j->j<R->Calm Hq j
 |0,k,h=>⟨k,Nat.le_refl _,by omega,λh'=>by omega,λj h1 h2=>by omega⟩
 |r+1,k,h=>by
  by_cases hc:Calm Hq k
  ·obtain⟨R,h1,h2,h3,h4⟩:=next_mover Hq n r (k+1) (by omega)
   refine⟨R,by omega,h2,h3,λj hj1 hj2=>?_⟩
   by_cases he:j=k
   ·rw[he];exact hc
   ·exact h4 j (by omega) hj2
  ·exact⟨k,Nat.le_refl _,by omega,λ_=>hc,λj h1 h2=>by omega⟩
abbrev Dof(listed:Array Bool):Nat->Bool:=λj=>listed.getD j false
/-- Some operations have run: what holds. -/
structure OInv (A:Seat) (pb:List Nat) (env:List (Nat×Nat)) (ops:Array Oper) (l:List Oper) (m:Nat) (Sq:Nat->Nat->Value) (Hq:Nat->Heap) (V:Nat->Value) (base lo:Nat) (φ0:Phi) (w0:World)
  (D:Nat->Bool) (R:Nat) (tm:Array Value) (w:World) (φ:Phi):Prop where
 closed:∀(j:Nat) (o:Oper),ops[j]?=some o->D j=true->∀e∈o.after,Region.binds .any e=true->D e.on=true
 le:R<=ops.size
 mover:R<ops.size->¬Calm Hq R∧D R=false
 past:∀j,j<R->¬Calm Hq j->D j=true
 tmsz:tm.size=m
 slots:SR A pb env φ (valD l (Sq 0) V D ops.size) tm w lo
 heap:∃Hv,HeapR A φ Hv w base∧Grows (Hq R) Hv∧Hv.length=(Hq ops.size).length∧∀k,R<=k->k<ops.size->D k=true->∀b,(Hq k).length<=b->b<(Hq (k+1)).length->Hv[b]?=(Hq (k+1))[b]?
 nones:∀k,k<ops.size->D k=false->∀b,(Hq k).length<=b->b<(Hq (k+1)).length->φ b=none
 somes:∀k,k<ops.size->D k=true->∀b,(Hq k).length<=b->b<(Hq (k+1)).length->φ b≠none
 mode:∀k,k<ops.size->D k=true->∀(b:Nat) (x y:Blk),(Hq k)[b]?=some x->(Hq (k+1))[b]?=some y->y.rw=true->x.rw=true
 ext:ExtW lo φ0 (Hq 0) w0 (Hq ops.size).length φ w
variable {φ0 : Phi} {w0 : World} {D : Nat -> Bool} {R : Nat} {tm : Array Value} {w : World} {φ : Phi}
theorem OInv.modeTo(I:OInv A pb env ops l m Sq Hq V base lo φ0 w0 D R tm w φ)(hl:∀i j,i<=j->j<=ops.size->(Hq i).length<=(Hq j).length):∀k,k<=R->∀(b:Nat) (x y:Blk),(Hq 0)[b]?=some x->(Hq k)[b]?=some y->y.rw=true->x.rw=true:=by
 intro k
 induction k with
 |zero=>intro _ b x y hx hy hr;rw[hx]at hy;injection hy with hy;subst hy;exact hr
 |succ k ih=>
  intro hk b x y hx hy hr
  have hle:=I.le
  have hb:b<(Hq k).length:=Nat.lt_of_lt_of_le (List.getElem?_eq_some_iff.1 hx).1 (hl 0 k (by omega) (by omega))
  have hz:=List.getElem?_eq_getElem hb
  by_cases hc:Calm Hq k
  ·have:(Hq k)[b]?=some y:=by rw[<-Grows.get hc hb];exact hy
   exact ih (by omega) b x y hx this hr
  ·exact ih (by omega) b x _ hx hz (I.mode k (by omega) (I.past k (by omega) hc) b _ y hz hy hr)
theorem writtenD(R:RegOk A loc pb env ops l m)(h0:∀d,own loc d=true->Sq 0 d=poison):
  ∀k,k<=ops.size->∀e a,boxOf env e=some a->valD l (Sq 0) V D k e≠poison->∃(j:Nat) (x:Oper),D j=true∧ops[j]?=some x∧x.dst=some e:=by
 intro k
 induction k with
 |zero=>intro _ e a he hp;exact absurd (h0 e (R.own e a he)) hp
 |succ k ih=>
  intro hk e a he hp
  have hok:ops[k]?=some ops[k]:=Array.getElem?_eq_getElem (by omega)
  obtain⟨p,p0,h1,h2,h3,h4,h5⟩:=R.op k _ hok
  rw[valD]at hp
  cases hD:D k with
  |false=>
   rw[if_neg (by rw[hD];simp)]at hp
   exact ih (by omega) e a he hp
  |true=>
   rw[if_pos hD]at hp
   by_cases hd:dstL l k=some e
   ·have hpd:p.dst=some e:=by simpa [dstL,h1]using hd
    have:=(nOper_facts R.wf h2).2 e (by rw[<-h3];exact hpd) (R.wf e a he).2
    exact⟨k,_,hD,hok,this⟩
   ·rw[updO_other hd]at hp
    exact ih (by omega) e a he hp
/-- ONE OPERATION OF AN OPEN REGION. -/
theorem open_step(RO:RegOk A loc pb env ops l m)(RP:RegOpen env ops l)(hE:EqOk A)(hC:CallOk A base call)(hL:CallLen call)(hq:RunSeq qzP call l Sq Hq V)(h0:∀d,own loc d=true->Sq 0 d=poison)
  (hp0:0<(Hq 0).length) (hb:base<=lo) (hlo:lo<=w0.heap.size) {Q:Exit->Act->World->Prop} {ds:List Deferred} (I:OInv A pb env ops l m Sq Hq V base lo φ0 w0 D R tm w φ)
  {i:Nat} {o:Oper} (hi:ops[i]?=some o) (hDi:D i=false) (hedge:∀e∈o.after,Region.binds .any e=true->D e.on=true) {K:Act->World->Prop} {D':Nat->Bool} (hD':∀j,D' j=if j=i then true else D j)
  (hK:∀R' tm' w' φ',OInv A pb env ops l m Sq Hq V base lo φ0 w0 D' R' tm' w' φ'->K ⟨tm',ds⟩ w'):wpOp A.P ops Q i K ⟨tm,ds⟩ w:=by
 have hin:i<ops.size:=(Array.getElem?_eq_some_iff.1 hi).1
 have hln:=RO.len
 have hlen:∀i j,i<=j->j<=ops.size->(Hq i).length<=(Hq j).length:=λi j h1 h2=>hq.mono hL h1 (by omega)
 obtain⟨p,p0,h1,h2,h3,h4,h5⟩:=RO.op i o hi
 obtain⟨hr,hs⟩:=hq.step i p h1
 have hIle:=I.le
 -- what stands before i has run
 have hbit:∀j,bit ops i j->D j=true:=λj hj=>
  before_listed (D:=λj=>D j=true) RP.edges (λj o hj hd=>I.closed j o hj hd) i j o hi hedge hj
 have hbit':∀j,j<ops.size->D j=true->bit ops j i->False:=λj hj hd hbt=>by
  have:=before_listed (D:=λj=>D j=true) RP.edges (λj o hj hd=>I.closed j o hj hd) j i ops[j] (Array.getElem?_eq_getElem hj) (I.closed j _ (Array.getElem?_eq_getElem hj) hd) hbt
  rw[hDi]at this;cases this
 -- the slots that it reads
 have hread:∀t∈readsN p,valD l (Sq 0) V D ops.size t=Sq i t:=by
  intro t ht
  refine(valD_read (D:=D) hq (k:=i) (t:=t) (by omega) ?_ ?_ ops.size (by omega)).2 (by omega)
  ·intro j hj hd
   have hjl:j<l.length:=by omega
   have hjx:=List.getElem?_eq_getElem hjl
   rcases RP.apart j i _ p hj hjx h1 with hbt|⟨ha,_⟩
   ·exact hbit j hbt
   ·exact absurd ht (ha t (by simpa [dstL,hjx]using hd)).1
  ·intro j hj hd
   by_cases he:j=i
   ·rw[he];exact hDi
   ·by_cases hjl:j<l.length
    ·have hjx:=List.getElem?_eq_getElem hjl
     rcases RP.apart i j p _ (by omega) h1 hjx with hbt|⟨_,hb2⟩
     ·cases hdj:D j with
      |false=>rfl
      |true=>exact(hbit' j (by omega) hdj hbt).elim
     ·exact absurd ht (hb2 t (by simpa [dstL,hjx]using hd))
    ·simp[dstL,List.getElem?_eq_none (Nat.le_of_not_lt hjl)]at hd
 have hrun:∀g,runS qzP call (valD l (Sq 0) V D ops.size) g (bare p)=runS qzP call (Sq i) g (bare p):=λg=>runS_congr rfl hread
 have hpd:dstL l i=p.dst:=by simp[dstL,h1]
 have hput:valD l (Sq 0) V D' ops.size=updO (valD l (Sq 0) V D ops.size) (bare p).dst (V i):=by
  show _=updO _ p.dst _
  rw[valD_put (k:=i) hDi hD' ?_ ops.size,if_neg (by omega),hpd]
  intro t j ht hj hd
  by_cases hjl:j<l.length
  ·have hjx:=List.getElem?_eq_getElem hjl
   rcases RP.apart i j p _ hj h1 hjx with hbt|⟨ha,_⟩
   ·cases hdj:D j with
    |false=>rfl
    |true=>exact(hbit' j (by omega) hdj hbt).elim
   ·exact absurd (by simpa [dstL,hjx]using hd) (ha t (by rw[<-hpd];exact ht)).2
  ·simp[dstL,List.getElem?_eq_none (Nat.le_of_not_lt hjl)]at hd
 have hside:∀a,o.dst=some a->∀e,boxOf env e=some a->valD l (Sq 0) V D ops.size e=poison:=by
  intro a ha e he
  by_cases hp:valD l (Sq 0) V D ops.size e=poison
  ·exact hp
  ·exfalso
   obtain⟨j,x,hj,hx,hxd⟩:=writtenD RO h0 ops.size (Nat.le_refl _) e a he hp
   have hjl:j<ops.size:=(Array.getElem?_eq_some_iff.1 hx).1
   have hji:j≠i:=λe'=>by rw[e',hDi]at hj;cases hj
   rcases Nat.lt_or_ge j i with hlt|hge
   ·exact(RO.env j i x o e a hlt hx hi hxd he).2 ha
   ·rcases RP.first i j o x a e hi hx ha hxd he with hlt|hbt
    ·omega
    ·exact hbit' j hjl hj hbt
 have hdst:∀d,o.dst=some d->d<(⟨tm,ds⟩:Act).tmps.size:=λd hd=>by
  rw[show(⟨tm,ds⟩:Act).tmps.size=m from I.tmsz];exact RO.dst i o d hi hd
 have hlow:lo<=w.heap.size:=Nat.le_trans hlo I.ext.size
 have hclosed':∀(j:Nat) (o:Oper),ops[j]?=some o->D' j=true->∀e∈o.after,Region.binds .any e=true->D' e.on=true:=by
  intro j o' hj hd e he hbd
  rw[hD']at hd ⊢
  split
  ·rfl
  ·split at hd
   ·rename_i hji
    subst hji
    rw[hi]at hj;injection hj with hj;subst hj
    exact hedge e he hbd
   ·exact I.closed j o' hj hd e he hbd
 have hdis:∀k b,k<ops.size->k≠i->(Hq k).length<=b->b<(Hq (k+1)).length->b<(Hq i).length∨(Hq (i+1)).length<=b:=by
  intro k b hk hki hb1 hb2
  rcases Nat.lt_or_ge k i with h|h
  ·have:=hlen (k+1) i (by omega) (by omega);omega
  ·have:=hlen (i+1) k (by omega) (by omega);omega
 -- a mover stands before or behind all others that do not hang on their slots alone
 have hmove:∀r,r<ops.size->¬Calm Hq r->∀(j:Nat) (q:Oper),l[j]?=some q->j≠r->slotOnly q.op=true∨(j<r∧bit ops r j)∨(r<=j∧(bit ops j r∨laysOnly q.op=true))∨(j<r∧∃n y rp,q.op=.load n y∧l[r]?=some rp∧sideOf rp.type=some y∧∀(m:Nat) (z:Oper),j<=m->m<r->l[m]?=some z->z.dst≠slotNo y):=by
  intro r hrn hnc
  have hrl:r<l.length:=by omega
  have hrx:=List.getElem?_eq_getElem hrl
  have hrr:=(hq.step r _ hrx).1
  rcases RP.kind r _ hrx with hk|hk|⟨hk1,hk2⟩|⟨y,hy,hk⟩
  ·obtain⟨e,_⟩:=runS_free (.inl hk) hrr
   exact absurd (by unfold Calm;rw[e];exact Grows.refl _) hnc
  ·intro j q hq' hjr
   rcases hk j q hq' hjr with h|h|h
   ·exact .inl h
   ·exact .inr (.inl h)
   ·exact .inr (.inr (.inl h))
  ·exact absurd (runS_calm hk1 hk2 hrr) hnc
  ·intro j q hq' hjr
   rcases hk j q hq' hjr with h|h|h|⟨h1,⟨n,h2⟩,h3⟩
   ·exact .inl h
   ·exact .inr (.inl h)
   ·exact .inr (.inr (.inl h))
   ·exact .inr (.inr (.inr ⟨h1,n,y,_,h2,hrx,hy,h3⟩))
 have hmover_free:∀r q,l[r]?=some q->¬Calm Hq r->slotOnly q.op=false:=by
  intro r q hrx hnc
  cases hso:slotOnly q.op with
  |false=>rfl
  |true=>
   obtain⟨e,_⟩:=runS_free (.inl hso) (hq.step r _ hrx).1
   exact absurd (by unfold Calm;rw[e];exact Grows.refl _) hnc
 obtain⟨Hv,HH,gv,lv,mv⟩:=I.heap
 have hRn:(Hq R).length<=(Hq ops.size).length:=hlen R ops.size hIle (Nat.le_refl _)
 have h0R:(Hq 0).length<=(Hq R).length:=hlen 0 R (by omega) hIle
 have modeV:∀(g:Heap),(∀b,b<(Hq 0).length->g[b]?=(Hq R)[b]?)->∀(b:Nat) (x y:Blk),(Hq 0)[b]?=some x->g[b]?=some y->y.rw=true->x.rw=true:=by
  intro g hg b x y hx hy hr
  rw[hg b (List.getElem?_eq_some_iff.1 hx).1]at hy
  exact I.modeTo hlen R (Nat.le_refl _) b x y hx hy hr
 by_cases hfree:Hq (i+1)=Hq i∧runS qzP call (Sq i) Hv p=some (V i,Hv)
 · -- whatever the heap, or as it reads
  obtain⟨hsame,hrunV⟩:=hfree
  have hcalm:Calm Hq i:=by unfold Calm;rw[hsame];exact Grows.refl _
  have hrR:runS qzP call (valD l (Sq 0) V D ops.size) Hv (bare p)=some (V i,Hv):=by rw[hrun];exact runS_bare hrunV
  refine step_oper (a:=⟨tm,ds⟩) (p:=bare p) hE hC RO.wf I.slots HH hb hlow (λb h1 h2=>by omega) hi h2 h3 h4 h5 hside hdst hrR ?_
  rintro tm' w'⟨hsz,φ',S',H',X',_⟩
  rw[<-hput]at S'
  have hsm:∀b,φ' b=φ b:=λb=>X'.same b (by omega)
  refine hK R tm' w' φ' ⟨hclosed',I.le,?_,?_,hsz.trans I.tmsz,S',⟨Hv,H',gv,lv,?_⟩,?_,?_,?_,?_⟩
  ·intro hR
   obtain⟨q1,q2⟩:=I.mover hR
   refine⟨q1,?_⟩
   rw[hD',if_neg (λe=>q1 (by rw[e];exact hcalm))];exact q2
  ·intro j hj hnc
   rw[hD'];split
   ·rfl
   ·exact I.past j hj hnc
  ·intro k hk1 hk hd b hb1 hb2
   rw[hD']at hd
   split at hd
   ·rename_i hki;rw[hki,hsame]at hb2;rw[hki]at hb1;omega
   ·exact mv k hk1 hk hd b hb1 hb2
  ·intro k hk hd b hb1 hb2
   rw[hD']at hd
   split at hd
   ·cases hd
   ·rw[hsm];exact I.nones k hk hd b hb1 hb2
  ·intro k hk hd b hb1 hb2
   rw[hD']at hd
   split at hd
   ·rename_i hki;rw[hki,hsame]at hb2;rw[hki]at hb1;omega
   ·rw[hsm];exact I.somes k hk hd b hb1 hb2
  ·intro k hk hd b x y hx hy hrw
   rw[hD']at hd
   split at hd
   ·rename_i hki;rw[hki]at hx hy;rw[hsame,hx]at hy;injection hy with hy;subst hy;exact hrw
   ·exact I.mode k hk hd b x y hx hy hrw
  ·exact I.ext.step hlo X' (by omega) (Nat.le_refl _) (by omega) (modeV Hv λb hb=>gv.get (by omega))
 ·have hso:slotOnly p.op=false:=by
   cases hso:slotOnly p.op with
   |false=>rfl
   |true=>
    obtain⟨hsame,hall⟩:=runS_free (.inl hso) hr
    exact absurd ⟨hsame,hall _⟩ hfree
  have hwant:wantS (Sq i) p.guard≠some false:=by
   intro hw
   obtain⟨hsame,hall⟩:=runS_free (.inr hw) hr
   exact hfree ⟨hsame,hall _⟩
  -- a reader beside movers that leave its block reads as it should
  have hreader:∀n y,p.op=.load n y->i<=R->False:=by
   intro n y hop hiR
   have h4:p.type<4:=by
    rcases RP.flat i p h1 with hm|hm
    ·rw[hop]at hm;simp[mayTurn]at hm
    ·exact hm
   obtain⟨hsame,⟨a,ha,hab⟩,hall⟩:=runS_load h4 hop hwant hr
   have hci:Calm Hq i:=by unfold Calm;rw[hsame];exact Grows.refl _
   have chain:∀k,i<=k->k<=R->(Hq k)[a.block]?=(Hq i)[a.block]?:=by
    intro k hk1
    obtain⟨d,rfl⟩:∃d,k=i+d:=⟨k-i,by omega⟩
    clear hk1
    induction d with
    |zero=>intro _;rfl
    |succ d ih=>
     intro hk2
     have ih:=ih (by omega)
     rw[<-ih]
     have hlb:a.block<(Hq (i+d)).length:=Nat.lt_of_lt_of_le hab (hlen i (i+d) (by omega) (by omega))
     by_cases hc:Calm Hq (i+d)
     ·exact Grows.get hc hlb
     ·have hne:i≠i+d:=λe=>hc (by rw[<-e];exact hci)
      have hdj:=I.past (i+d) (by omega) hc
      rcases hmove (i+d) (by omega) hc i p h1 hne with hk|⟨_,hk⟩|⟨hk,_⟩|⟨_,n',y',rp,hop',hrp,hsd,hnw⟩
      ·rw[hso]at hk;cases hk
      ·exact(hbit' (i+d) (by omega) hdj hk).elim
      ·omega
      ·rw[hop]at hop'
       injection hop' with _ hyy
       subst hyy
       have hsa:=runS_side hsd hc (hq.step (i+d) rp hrp).1
       have hval:∀m,i<=m->m<=i+d->evs (Sq m) y=evs (Sq i) y:=by
        intro m hm1
        obtain⟨e,rfl⟩:∃e,m=i+e:=⟨m-i,by omega⟩
        clear hm1
        induction e with
        |zero=>intro _;rfl
        |succ e ihe=>
         intro hm2
         rw[<-ihe (by omega)]
         have hml:i+e<l.length:=by omega
         have hmx:=List.getElem?_eq_getElem hml
         have hnw':=hnw (i+e) _ (by omega) (by omega) hmx
         have hsq:=seq_next hq hml
         rw[show i+(e+1)=i+e+1 by omega,hsq]
         cases y with
         |tmp t=>exact updO_other (by simpa [dstL,hmx,slotNo]using hnw')
         |global t=>exact updO_other (by simpa [dstL,hmx,slotNo]using hnw')
         |_=>rfl
       rw[hval (i+d) (by omega) (Nat.le_refl _),ha]at hsa
       exact sameAt_iff.1 hsa
   refine hfree ⟨hsame,hall Hv ?_⟩
   rw[ha]
   have e1:=chain R hiR (Nat.le_refl _)
   have hlR:a.block<(Hq R).length:=Nat.lt_of_lt_of_le hab (hlen i R hiR hIle)
   have e2:=gv.get hlR
   exact sameAt_iff.2 (e2.trans e1)
  by_cases hearly:R<i
  · -- it lays a block ahead of its time
   have hly:laysOnly p.op=true:=by
    obtain⟨q1,q2⟩:=I.mover (by omega)
    rcases hmove R (by omega) q1 i p h1 (by omega)with hk|⟨hk,_⟩|⟨_,hk|hk⟩|⟨hk,_⟩
    ·rw[hso]at hk;cases hk
    ·omega
    ·rw[hbit R hk]at q2;cases q2
    ·exact hk
    ·omega
   have ht4:p.type<4:=by
    rcases RP.flat i p h1 with hm|hm
    ·exfalso
     cases ho:p.op<;>rw[ho]at hly hm<;>simp[laysOnly,mayTurn]at hly hm
    ·exact hm
   obtain⟨new,enew,hall⟩:=runS_lays ht4 hly hwant hr
   obtain⟨hs,es⟩:∃hs,hs=Hv.take (Hq i).length:=⟨_,rfl⟩
   have hin':(Hq i).length<=(Hq ops.size).length:=hlen i ops.size (by omega) (Nat.le_refl _)
   have hin2:(Hq (i+1)).length<=(Hq ops.size).length:=hlen (i+1) ops.size (by omega) (Nat.le_refl _)
   have hRi:(Hq R).length<=(Hq i).length:=hlen R i (by omega) (by omega)
   have ls:hs.length=(Hq i).length:=by rw[es,List.length_take];omega
   have ls':(hs++new).length=(Hq (i+1)).length:=by rw[enew,List.length_append,List.length_append,ls]
   have hsl:∀b,b<(Hq i).length->hs[b]?=Hv[b]?:=λb hb=>by rw[es,List.getElem?_take_of_lt hb]
   have gs:Grows hs Hv:=grows_at (by omega) λb hb=>(hsl b (by omega)).symm
   have Hst:HeapR A φ hs w base:=HeapR.shorter gs (by have:=hlen 0 i (by omega) (by omega);omega) HH
   have hrS:runS qzP call (valD l (Sq 0) V D ops.size) hs (bare p)=some (V i,hs++new):=by rw[hrun];exact runS_bare (hall hs ls)
   have hnn:∀b,hs.length<=b->b<(hs++new).length->φ b=none:=λb hb1 hb2=>I.nones i hin hDi b (by omega) (by omega)
   refine step_oper (a:=⟨tm,ds⟩) (p:=bare p) hE hC RO.wf I.slots Hst hb hlow hnn hi h2 h3 h4 h5 hside hdst hrS ?_
   rintro tm' w'⟨hsz,φ',S',H',X',hfr⟩
   rw[<-hput]at S'
   have hfr':Ext w.heap.size φ hs w φ' (hs++new) w':=by
    rcases hfr with hf|hf
    ·rw[show slotOnly (bare p).op=false from hso]at hf;cases hf
    ·exact hf
   have hlow':∀b,b<(Hq i).length->((hs++new)++Hv.drop (hs++new).length)[b]?=Hv[b]?:=λb hb=>by
    rw[over_low (by rw[List.length_append];omega),List.getElem?_append_left (by omega)];exact hsl b hb
   refine hK R tm' w' φ' ⟨hclosed',I.le,?_,?_,hsz.trans I.tmsz,S',⟨_,HeapR.over gs hnn HH H' hfr',?_,?_,?_⟩,?_,?_,?_,?_⟩
   ·intro hR
    obtain⟨q1,q2⟩:=I.mover hR
    refine⟨q1,?_⟩
    rw[hD',if_neg (by omega)];exact q2
   ·intro j hj hnc
    rw[hD'];split
    ·rfl
    ·exact I.past j hj hnc
   ·refine grows_at (by rw[over_len (by omega)];omega) λb hb=>?_
    rw[hlow' b (by omega)];exact gv.get hb
   ·rw[over_len (by omega)];exact lv
   ·intro k hk1 hk hd b hb1 hb2
    rw[hD']at hd
    split at hd
    ·rename_i hki
     subst hki
     rw[over_low (by omega),enew,List.getElem?_append_right (by omega),List.getElem?_append_right hb1,ls]
    ·rename_i hki
     rw[<-mv k hk1 hk hd b hb1 hb2]
     rcases hdis k b hk hki hb1 hb2 with hq|hq
     ·exact hlow' b hq
     ·exact over_high (by omega)
   ·intro k hk hd b hb1 hb2
    rw[hD']at hd
    split at hd
    ·cases hd
    ·rename_i hki
     rw[X'.same b (by have:=hdis k b hk hki hb1 hb2;omega)];exact I.nones k hk hd b hb1 hb2
   ·intro k hk hd b hb1 hb2
    rw[hD']at hd
    split at hd
    ·rename_i hki;rw[hki]at hb1 hb2;exact X'.newd b (by omega) (by omega)
    ·rename_i hki
     rw[X'.same b (by have:=hdis k b hk hki hb1 hb2;omega)];exact I.somes k hk hd b hb1 hb2
   ·intro k hk hd b x y hx hy hrw
    rw[hD']at hd
    split at hd
    ·rename_i hki
     rw[hki]at hx hy
     rw[enew,List.getElem?_append_left (List.getElem?_eq_some_iff.1 hx).1,hx]at hy
     injection hy with hy;subst hy;exact hrw
    ·exact I.mode k hk hd b x y hx hy hrw
   ·exact I.ext.step hlo X' (by omega) (by rw[List.length_append];omega) (by omega) (modeV hs λb hb=>by rw[hsl b (by omega)];exact gv.get (by omega))
  have hiR:i<=R:=by omega
  by_cases hcalm:Calm Hq i
  · -- it lays blocks, or reads
   have hne:i<R:=by
    rcases Nat.lt_or_ge i R with h|h
    ·exact h
    ·have:i=R:=by omega
     obtain⟨q1,_⟩:=I.mover (by omega)
     rw[<-this]at q1
     exact absurd hcalm q1
   have hch:∀j,i<=j->j<R->Calm Hq j:=by
    intro j hj1 hj2
    by_cases hc:Calm Hq j
    ·exact hc
    ·exfalso
     have hdj:=I.past j hj2 hc
     have hji:i≠j:=λe=>hc (by rw[<-e];exact hcalm)
     rcases hmove j (by omega) hc i p h1 hji with hk|⟨_,hk⟩|⟨hk,_⟩|⟨_,n,y,_,hop,_⟩
     ·rw[hso]at hk;cases hk
     ·exact hbit' j (by omega) hdj hk
     ·omega
     ·exact hreader n y hop hiR
   have hg1:Grows (Hq i) (Hq (i+1)):=hcalm
   have hg2:Grows (Hq (i+1)) Hv:=(calm_chain (by omega) λk h1 h2=>hch k (by omega) h2).trans gv
   have hpos:0<(Hq i).length:=Nat.lt_of_lt_of_le hp0 (hlen 0 i (by omega) (by omega))
   have hHi:HeapR A φ (Hq i) w base:=HeapR.shorter (hg1.trans hg2) hpos HH
   have hrI:runS qzP call (valD l (Sq 0) V D ops.size) (Hq i) (bare p)=some (V i,Hq (i+1)):=by rw[hrun];exact runS_bare hr
   refine step_oper (a:=⟨tm,ds⟩) (p:=bare p) hE hC RO.wf I.slots hHi hb hlow (I.nones i hin hDi) hi h2 h3 h4 h5 hside hdst hrI ?_
   rintro tm' w'⟨hsz,φ',S',H',X',hfr⟩
   rw[<-hput]at S'
   have hfr':Ext w.heap.size φ (Hq i) w φ' (Hq (i+1)) w':=by
    rcases hfr with hf|hf
    ·rw[show slotOnly (bare p).op=false from hso]at hf;cases hf
    ·exact hf
   have HV:=HeapR.over (hg1.trans hg2) (I.nones i hin hDi) HH H' hfr'
   rw[over_self hg2]at HV
   refine hK R tm' w' φ' ⟨hclosed',I.le,?_,?_,hsz.trans I.tmsz,S',⟨Hv,HV,gv,lv,?_⟩,?_,?_,?_,?_⟩
   ·intro hR
    obtain⟨q1,q2⟩:=I.mover hR
    refine⟨q1,?_⟩
    rw[hD',if_neg (by omega)];exact q2
   ·intro j hj hnc
    rw[hD'];split
    ·rfl
    ·exact I.past j hj hnc
   ·intro k hk1 hk hd b hb1 hb2
    rw[hD',if_neg (by omega)]at hd
    exact mv k hk1 hk hd b hb1 hb2
   ·intro k hk hd b hb1 hb2
    rw[hD']at hd
    split at hd
    ·cases hd
    ·rename_i hki
     rw[X'.same b (hdis k b hk hki hb1 hb2)];exact I.nones k hk hd b hb1 hb2
   ·intro k hk hd b hb1 hb2
    rw[hD']at hd
    split at hd
    ·rename_i hki;rw[hki]at hb1 hb2;exact X'.newd b hb1 hb2
    ·rename_i hki
     rw[X'.same b (hdis k b hk hki hb1 hb2)];exact I.somes k hk hd b hb1 hb2
   ·intro k hk hd b x y hx hy hrw
    rw[hD']at hd
    split at hd
    ·rename_i hki;rw[hki]at hx hy;exact X'.mode b x y hx hy hrw
    ·exact I.mode k hk hd b x y hx hy hrw
   ·exact I.ext.step hlo X' (hlen 0 i (by omega) (by omega)) (hlen i (i+1) (by omega) (by omega)) (hlen (i+1) ops.size (by omega) (Nat.le_refl _)) (I.modeTo hlen i (by omega))
  · -- it turns a block
   have hiR':i=R:=by
    rcases Nat.lt_or_ge i R with h|h
    ·have:=I.past i h hcalm
     rw[hDi]at this;cases this
    ·omega
   subst hiR'
   have hrI:runS qzP call (valD l (Sq 0) V D ops.size) (Hq i) (bare p)=some (V i,Hq (i+1)):=by rw[hrun];exact runS_bare hr
   have hpos:0<(Hq i).length:=Nat.lt_of_lt_of_le hp0 h0R
   refine step_oper (a:=⟨tm,ds⟩) (p:=bare p) hE hC RO.wf I.slots (HeapR.shorter gv hpos HH) hb hlow (I.nones i hin hDi) hi h2 h3 h4 h5 hside hdst hrI ?_
   rintro tm' w'⟨hsz,φ',S',H',X',hfr⟩
   rw[<-hput]at S'
   have hfr':Ext w.heap.size φ (Hq i) w φ' (Hq (i+1)) w':=by
    rcases hfr with hf|hf
    ·rw[show slotOnly (bare p).op=false from hso]at hf;cases hf
    ·exact hf
   have HV:=HeapR.over gv (I.nones i hin hDi) HH H' hfr'
   obtain⟨R',r1,r2,r3,r4⟩:=next_mover Hq ops.size (ops.size-(i+1)) (i+1) (by omega)
   have hi1:(Hq (i+1)).length<=(Hq ops.size).length:=hlen (i+1) ops.size (by omega) (Nat.le_refl _)
   have hR1:(Hq (i+1)).length<=(Hq R').length:=hlen (i+1) R' r1 r2
   have hR2:(Hq R').length<=(Hq ops.size).length:=hlen R' ops.size r2 (Nat.le_refl _)
   have gR:Grows (Hq (i+1)) (Hq R'):=calm_chain r1 r4
   have HV':HeapR A φ' (Hq R'++Hv.drop (Hq R').length) w' base:=by
    refine HV.swap (by rw[List.length_append];have:=hlen 0 R' (by omega) r2;omega) λb l hl=>?_
    by_cases hb1:b<(Hq (i+1)).length
    ·rw[over_low (by omega),over_low hb1];exact gR.get hb1
    ·by_cases hb2:b<(Hq R').length
     ·obtain⟨k,k1,k2,k3,k4⟩:=which (f:=λk=>(Hq k).length) r1 (Nat.le_of_not_lt hb1) hb2
      rw[X'.same b (.inr (Nat.le_of_not_lt hb1))]at hl
      cases hdk:D k with
      |false=>
       have:=I.nones k (by omega) hdk b k3 k4
       rw[this]at hl;cases hl
      |true=>
       have e1:=mv k (by omega) (by omega) hdk b k3 k4
       have gk:Grows (Hq (k+1)) (Hq R'):=calm_chain (by omega) λj h1 h2=>r4 j (by omega) h2
       rw[over_low hb2,over_high (Nat.le_of_not_lt hb1),e1]
       exact gk.get k4
     ·rw[over_high (Nat.le_of_not_lt hb2),over_high (Nat.le_of_not_lt hb1)]
   refine hK R' tm' w' φ' ⟨hclosed',r2,?_,?_,hsz.trans I.tmsz,S',⟨_,HV',?_,?_,?_⟩,?_,?_,?_,?_⟩
   ·intro hR
    refine⟨r3 hR,?_⟩
    rw[hD',if_neg (by omega)]
    cases hdR:D R' with
    |false=>rfl
    |true=>
     exfalso
     rcases hmove R' hR (r3 hR) i p h1 (by omega)with hs|⟨_,hs⟩|⟨hs,_⟩|⟨_,n,y,_,hop,_⟩
     ·rw[hso]at hs;cases hs
     ·exact hbit' R' hR hdR hs
     ·omega
     ·exact hreader n y hop (Nat.le_refl _)
   ·intro j hj hnc
    rw[hD'];split
    ·rfl
    ·rename_i hji
     rcases Nat.lt_or_ge j i with h|h
     ·exact I.past j h hnc
     ·exact absurd (r4 j (by omega) hj) hnc
   ·exact⟨_,rfl⟩
   ·rw[over_len (by omega)];exact lv
   ·intro k hk1 hk hd b hb1 hb2
    rw[hD',if_neg (by omega)]at hd
    have:=hlen R' k hk1 (by omega)
    rw[over_high (by omega)]
    exact mv k (by omega) hk hd b hb1 hb2
   ·intro k hk hd b hb1 hb2
    rw[hD']at hd
    split at hd
    ·cases hd
    ·rename_i hki
     rw[X'.same b (hdis k b hk hki hb1 hb2)];exact I.nones k hk hd b hb1 hb2
   ·intro k hk hd b hb1 hb2
    rw[hD']at hd
    split at hd
    ·rename_i hki;rw[hki]at hb1 hb2;exact X'.newd b hb1 hb2
    ·rename_i hki
     rw[X'.same b (hdis k b hk hki hb1 hb2)];exact I.somes k hk hd b hb1 hb2
   ·intro k hk hd b x y hx hy hrw
    rw[hD']at hd
    split at hd
    ·rename_i hki;rw[hki]at hx hy;exact X'.mode b x y hx hy hrw
    ·exact I.mode k hk hd b x y hx hy hrw
   ·exact I.ext.step hlo X' (hlen 0 i (by omega) (by omega)) (hlen i (i+1) (by omega) (by omega)) (hlen (i+1) ops.size (by omega) (Nat.le_refl _)) (I.modeTo hlen i (Nat.le_refl _))
theorem filter_set:∀(bs:List Bool) (i:Nat),bs[i]?=some false->((bs.set i true).filter (! ·)).length+1=(bs.filter (! ·)).length
 |[],i,h=>by simp at h
 |b::r,0,h=>by simp at h;subst h;simp
 |b::r,i+1,h=>by
  have:=filter_set r i (by simpa using h)
  cases b<;>simp[List.filter_cons]<;>omega
theorem ready_nil{listed:Array Bool}(hsz:listed.size=ops.size)(he:edgesOk ops=true)(hr:Region.ready .any ops listed=[]):∀j,j<ops.size->Dof listed j=true:=by
 intro j
 induction j using Nat.strongRecOn with
 |_ j ih=>
  intro hj
  cases hd:Dof listed j with
  |true=>rfl
  |false=>
   exfalso
   have hmem:j∈Region.ready .any ops listed:=by
    rw[mem_ready]
    have hjl:j<listed.size:=by omega
    refine⟨?_,ops[j],Array.getElem?_eq_getElem hj,λe hem hb=>?_⟩
    ·simp only[Dof,Array.getD_eq_getD_getElem?,Array.getElem?_eq_getElem hjl,Option.getD_some]at hd ⊢
     exact hd
    ·have hon:e.on<j:=by
      unfold edgesOk at he
      simp only[List.all_eq_true,List.mem_range]at he
      have:=he j hj
      simp only[Array.getElem?_eq_getElem hj,List.all_eq_true]at this
      have:=this e (by simpa using hem)
      simpa [hb]using this
     exact ih e.on hon (by omega)
   rw[hr]at hmem
   cases hmem
theorem open_any(RO:RegOk A loc pb env ops l m)(RP:RegOpen env ops l)(hE:EqOk A)(hC:CallOk A base call)(hL:CallLen call)(hq:RunSeq qzP call l Sq Hq V)(h0:∀d,own loc d=true->Sq 0 d=poison)
  (hp0:0<(Hq 0).length) (hb:base<=lo) (hlo:lo<=w0.heap.size) {Q:Exit->Act->World->Prop} {ds:List Deferred}
  (hQ:∀(tm:Array Value) (w:World) (φ:Phi),tm.size=m->SR A pb env φ (Sq ops.size) tm w lo->HeapR A φ (Hq ops.size) w base->Ext lo φ0 (Hq 0) w0 φ (Hq ops.size) w->Q .normal ⟨tm,ds⟩ w):
  ∀(fuel:Nat) (listed:Array Bool),listed.size=ops.size->(listed.toList.filter (! ·)).length<=fuel->∀(R:Nat) (tm:Array Value) (w:World) (φ:Phi),OInv A pb env ops l m Sq Hq V base lo φ0 w0 (Dof listed) R tm w φ->
   wpAny A.P .any ops Q fuel listed ⟨tm,ds⟩ w:=by
 have hln:=RO.len
 have hlen:∀i j,i<=j->j<=ops.size->(Hq i).length<=(Hq j).length:=λi j h1 h2=>hq.mono hL h1 (by omega)
 have fin:∀(listed:Array Bool),listed.size=ops.size->∀(R:Nat) (tm:Array Value) (w:World) (φ:Phi),OInv A pb env ops l m Sq Hq V base lo φ0 w0 (Dof listed) R tm w φ->(∀j,j<ops.size->Dof listed j=true)->Q .normal ⟨tm,ds⟩ w:=by
  intro listed hsz R tm w φ I hall
  have hR:R=ops.size:=by
   rcases Nat.lt_or_ge R ops.size with h|h
   ·have:=(I.mover h).2
    rw[hall R h]at this;cases this
   ·have:=I.le;omega
  have hS:valD l (Sq 0) V (Dof listed) ops.size=Sq ops.size:=valD_all hq ops.size (by omega) hall
  have S:=I.slots
  rw[hS]at S
  obtain⟨Hv,HH,gv,lv,_⟩:=I.heap
  rw[hR]at gv
  have H:HeapR A φ (Hq ops.size) w base:=HeapR.shorter gv (Nat.lt_of_lt_of_le hp0 (hlen 0 ops.size (by omega) (Nat.le_refl _))) HH
  refine hQ tm w φ I.tmsz S H ⟨I.ext.sub,λb h1 h2=>?_,I.ext.same,hlen 0 _ (by omega) (Nat.le_refl _),?_,I.ext.size,I.ext.os,I.ext.tape,I.ext.output,I.ext.frame,I.ext.fresh⟩
  ·obtain⟨k,k1,k2,k3,k4⟩:=which (f:=λk=>(Hq k).length) (Nat.zero_le ops.size) h1 h2
   exact I.somes k k2 (hall k k2) b k3 k4
  ·have:=I.modeTo hlen R (Nat.le_refl _)
   rw[hR]at this;exact this
 intro fuel
 induction fuel with
 |zero=>
  intro listed hsz hc R tm w φ I
  have hall:∀j,j<ops.size->Dof listed j=true:=by
   intro j hj
   have hjl:j<listed.size:=by omega
   have hnil:listed.toList.filter (! ·)=[]:=List.eq_nil_of_length_eq_zero (by omega)
   have:=List.filter_eq_nil_iff.1 hnil listed[j] (by simp)
   simp only[Dof,Array.getD_eq_getD_getElem?,Array.getElem?_eq_getElem hjl,Option.getD_some]
   simpa using this
  refine⟨?_,fin listed hsz R tm w φ I hall⟩
  cases hr:Region.ready .any ops listed with
  |nil=>rfl
  |cons i r=>
   exfalso
   have hm:i∈Region.ready .any ops listed:=by rw[hr];simp
   obtain⟨h1,o,ho,_⟩:=mem_ready.1 hm
   have hi:=(Array.getElem?_eq_some_iff.1 ho).1
   have h2:=hall i hi
   have hil:i<listed.size:=by omega
   simp only[Dof,Array.getD_eq_getD_getElem?,Array.getElem?_eq_getElem hil,Option.getD_some]at h1 h2
   rw[h1]at h2;cases h2
 |succ fuel ih=>
  intro listed hsz hc R tm w φ I
  refine⟨λhr=>fin listed hsz R tm w φ I (ready_nil hsz RP.edges hr),λi hm=>?_⟩
  obtain⟨h1,o,ho,hedge⟩:=mem_ready.1 hm
  have hi:=(Array.getElem?_eq_some_iff.1 ho).1
  have hil:i<listed.size:=by omega
  have hgi:listed[i]=false:=by simpa [Array.getD_eq_getD_getElem?,Array.getElem?_eq_getElem hil]using h1
  have hDi:Dof listed i=false:=by simp[Dof,Array.getD_eq_getD_getElem?,Array.getElem?_eq_getElem hil,hgi]
  have hD':∀j,Dof (listed.setIfInBounds i true) j=if j=i then true else Dof listed j:=by
   intro j
   by_cases h:j=i
   ·subst h;simp[Dof,Array.getD_eq_getD_getElem?,hil]
   ·have:i≠j:=λe=>h e.symm
    simp[Dof,Array.getD_eq_getD_getElem?,Array.getElem?_setIfInBounds_ne this,h]
  refine open_step RO RP hE hC hL hq h0 hp0 hb hlo I ho hDi hedge hD' λR' tm' w' φ' I'=>ih _ (by simp[hsz]) ?_ R' tm' w' φ' I'
  have hf:=filter_set listed.toList i (by simp[Array.getElem?_eq_getElem hil,hgi])
  rw[Array.toList_setIfInBounds]
  omega
/-- AN OPEN REGION. -/
theorem region_open(RO:RegOk A loc pb env ops l m)(RP:RegOpen env ops l)(hE:EqOk A)(hC:CallOk A base call)(hL:CallLen call)(hq:RunSeq qzP call l Sq Hq V)(h0:∀d,own loc d=true->Sq 0 d=poison)
  (hb:base<=lo) (hlo:lo<=w0.heap.size) {Q:Exit->Act->World->Prop} {ds:List Deferred} (htm:tm.size=m) (S:SR A pb env φ0 (Sq 0) tm w0 lo) (H:HeapR A φ0 (Hq 0) w0 base)
  (hφ:∀b,(Hq 0).length<=b->b<(Hq ops.size).length->φ0 b=none)
  (hQ:∀(tm:Array Value) (w:World) (φ:Phi),tm.size=m->SR A pb env φ (Sq ops.size) tm w lo->HeapR A φ (Hq ops.size) w base->Ext lo φ0 (Hq 0) w0 φ (Hq ops.size) w->Q .normal ⟨tm,ds⟩ w):
  wpAny A.P .any ops Q ops.size (Array.replicate ops.size false) ⟨tm,ds⟩ w0:=by
 have hln:=RO.len
 have hlen:∀i j,i<=j->j<=ops.size->(Hq i).length<=(Hq j).length:=λi j h1 h2=>hq.mono hL h1 (by omega)
 have hD:∀j,Dof (Array.replicate ops.size false) j=false:=by
  intro j
  simp only[Dof,Array.getD_eq_getD_getElem?]
  cases h:(Array.replicate ops.size false)[j]? with
  |none=>rfl
  |some b=>
   obtain⟨hlt,hv⟩:=Array.getElem?_eq_some_iff.1 h
   simp at hv;subst hv;rfl
 have hval:∀k,valD l (Sq 0) V (Dof (Array.replicate ops.size false)) k=Sq 0:=by
  intro k
  induction k with
  |zero=>rfl
  |succ k ih=>rw[valD,if_neg (by rw[hD];simp)];exact ih
 obtain⟨R,r1,r2,r3,r4⟩:=next_mover Hq ops.size ops.size 0 (by omega)
 refine open_any RO RP hE hC hL hq h0 H.pos hb hlo hQ ops.size _ (by simp) ?_ R tm w0 φ0 ⟨?_,r2,?_,?_,htm,?_,?_,?_,?_,?_,ExtW.refl hφ⟩
 ·refine Nat.le_trans (List.length_filter_le _ _) (by simp)
 ·intro j o hj hd;rw[hD]at hd;cases hd
 ·exact λhR=>⟨r3 hR,hD R⟩
 ·intro j hj hnc;exact absurd (r4 j (by omega) hj) hnc
 ·rw[hval];exact S
 ·refine⟨Hq R++(Hq ops.size).drop (Hq R).length,?_,⟨_,rfl⟩,over_len (hlen R ops.size r2 (Nat.le_refl _)),λk _ hk hd=>by rw[hD]at hd;cases hd⟩
  have hR2:=hlen R ops.size r2 (Nat.le_refl _)
  have gR:Grows (Hq 0) (Hq R):=calm_chain (by omega) r4
  refine HeapR.extend (gR.trans ⟨_,rfl⟩) (λb h1 h2=>hφ b h1 (by rw[over_len hR2]at h2;exact h2)) H
 ·intro k hk _ b hb1 hb2
  exact hφ b (Nat.le_trans (hlen 0 k (by omega) (by omega)) hb1) (Nat.lt_of_lt_of_le hb2 (hlen (k+1) ops.size (by omega) (Nat.le_refl _)))
 ·intro k hk hd;rw[hD]at hd;cases hd
 ·intro k hk hd;rw[hD]at hd;cases hd
end
end Am

/- A frame of the model beside one of 'Am'; an operation's effect on both. -/
import Derived.Test.YtpgioncclmancaaGreatAmSlots
set_option linter.unusedVariables false
set_option linter.unusedSimpArgs false
namespace Am
open Go
/-- What the slots hold, in 'Am' and in the model. Boxes of the frame's own lie in blocks of their own, above 'lo'. -/
structure SR (A:Seat) (pb:List Nat) (env:List (Nat×Nat)) (φ:Phi) (s:Nat->Value) (tm:Array Value) (w:World) (lo:Nat):Prop where
 plain:∀t,pb.contains t=false->boxOf env t=none->VR A φ (s t) (tm.getD t undef)
 box:∀a,pb.contains a=true->s a≠poison->∃cs g cur ty,s a=.agg cs∧tm.getD a undef=.pointer (some ⟨g,0,none⟩)∧lo<=g∧w.heap[g]?=some (.cells cur ty (0,0))∧
  All2 (VR0 A φ) cs.toList cur.toList∧∀b l,φ b=some l->l.g≠g
 apart:∀a a' g,pb.contains a=true->pb.contains a'=true->s a≠poison->s a'≠poison->tm.getD a undef=.pointer (some ⟨g,0,none⟩)->tm.getD a' undef=.pointer (some ⟨g,0,none⟩)->a=a'
 into:∀d a,boxOf env d=some a->s d≠poison->pb.contains a=true∧s a≠poison∧∃(off:Nat) (g:Nat),s d=I off∧tm.getD d undef=.pointer (some ⟨g,off,none⟩)∧tm.getD a undef=.pointer (some ⟨g,0,none⟩)
/-- No slot is both. -/
def EnvWf(pb:List Nat)(env:List (Nat×Nat)):Prop:=∀d a,boxOf env d=some a->pb.contains a=true∧pb.contains d=false
section
variable {A : Seat} {φ : Phi} {h : Heap} {w : World} {base lo : Nat} {loc pb : List Nat} {env : List (Nat × Nat)} {s : Nat -> Value} {tm : Array Value}
theorem getD_set{tm:Array Value}{d t:Nat}{u:Value}(hd:d<tm.size):(tm.setIfInBounds d u).getD t undef=if t=d then u else tm.getD t undef:=by
 by_cases h:t=d
 ·subst h;simp[Array.getD_eq_getD_getElem?,hd]
 ·have:d≠t:=λe=>h e.symm
  simp[Array.getD_eq_getD_getElem?,Array.getElem?_setIfInBounds_ne this,h]
/-- The world moves on; the slots stay. -/
theorem SR.move{φ':Phi}{h':Heap}{w':World}(S:SR A pb env φ s tm w lo)(hE:Ext w.heap.size φ h w φ' h' w')(hlow:∀b l,φ b=some l->l.g<w.heap.size):SR A pb env φ' s tm w' lo where
 plain:=λt h1 h2=>(S.plain t h1 h2).mono A hE.sub
 box:=λa h1 h2=>by
  obtain⟨cs,g,cur,ty,e1,e2,e3,e4,e5,e6⟩:=S.box a h1 h2
  have hg:g<w.heap.size:=(Array.getElem?_eq_some_iff.1 e4).1
  refine⟨cs,g,cur,ty,e1,e2,e3,?_,e5.mono λ_ _=>VR0.mono A hE.sub,?_⟩
  ·rw[hE.frame g hg λb l k hb _ _=>e6 b l hb];exact e4
  ·intro b l hb
   by_cases hin:h.length<=b∧b<h'.length
   ·rcases hE.fresh b l hin.1 hin.2 hb with hf|⟨b0,l0,k0,f1,_,_,f4⟩
    ·omega
    ·rw[<-f4];exact e6 b0 l0 f1
   ·rw[hE.same b (by omega)]at hb;exact e6 b l hb
 apart:=S.apart
 into:=S.into
/-- A value comes into a slot that is no box and points into none. -/
theorem SR.put{d:Nat}{v u:Value}(S:SR A pb env φ s tm w lo)(hd:d<tm.size)(h1:pb.contains d=false)(h2:boxOf env d=none)(hv:VR A φ v u):
  SR A pb env φ (upd s d v) (tm.setIfInBounds d u) w lo:=by
 have hne:∀a,pb.contains a=true->a≠d:=λa ha e=>by subst e;rw[h1]at ha;cases ha
 have hne':∀e a,boxOf env e=some a->e≠d:=λe a ha he=>by subst he;rw[h2]at ha;cases ha
 refine⟨λt ht1 ht2=>?_,λa ha hp=>?_,λa a' g ha ha' hp hp' e1 e2=>?_,λe a ha hp=>?_⟩
 ·rw[getD_set hd,upd_apply]
  split
  ·exact hv
  ·exact S.plain t ht1 ht2
 ·have:=hne a ha
  rw[upd_apply,if_neg this]at hp
  rw[upd_apply,if_neg this,getD_set hd,if_neg this]
  exact S.box a ha hp
 ·have n1:=hne a ha
  have n2:=hne a' ha'
  rw[upd_apply,if_neg n1]at hp
  rw[upd_apply,if_neg n2]at hp'
  rw[getD_set hd,if_neg n1]at e1
  rw[getD_set hd,if_neg n2]at e2
  exact S.apart a a' g ha ha' hp hp' e1 e2
 ·have n1:=hne' e a ha
  rw[upd_apply,if_neg n1]at hp
  obtain⟨k1,k2,off,g,k3,k4,k5⟩:=S.into e a ha hp
  have n2:=hne a k1
  exact⟨k1,by rw[upd_apply,if_neg n2];exact k2,off,g,by rw[upd_apply,if_neg n1];exact k3,by rw[getD_set hd,if_neg n1];exact k4,by rw[getD_set hd,if_neg n2];exact k5⟩
/-- A slot is given up. -/
theorem SR.drop{d:Nat}(S:SR A pb env φ s tm w lo)(hd:d<tm.size)(hside:∀e,boxOf env e=some d->s e=poison)(hw:EnvWf pb env)(u:Value):
  SR A pb env φ (upd s d poison) (tm.setIfInBounds d u) w lo:=by
 refine⟨λt ht1 ht2=>?_,λa ha hp=>?_,λa a' g ha ha' hp hp' e1 e2=>?_,λe a ha hp=>?_⟩
 ·rw[getD_set hd,upd_apply]
  split
  ·exact VR.poison
  ·exact S.plain t ht1 ht2
 ·by_cases n:a=d
  ·subst n;simp[upd]at hp
  ·rw[upd_apply,if_neg n]at hp
   rw[upd_apply,if_neg n,getD_set hd,if_neg n]
   exact S.box a ha hp
 ·by_cases n:a=d
  ·subst n;simp[upd]at hp
  ·by_cases n':a'=d
   ·subst n';simp[upd]at hp'
   ·rw[upd_apply,if_neg n]at hp
    rw[upd_apply,if_neg n']at hp'
    rw[getD_set hd,if_neg n]at e1
    rw[getD_set hd,if_neg n']at e2
    exact S.apart a a' g ha ha' hp hp' e1 e2
 ·by_cases n:e=d
  ·subst n;simp[upd]at hp
  ·rw[upd_apply,if_neg n]at hp
   obtain⟨k1,k2,off,g,k3,k4,k5⟩:=S.into e a ha hp
   have n2:a≠d:=λhe=>by subst he;exact hp (hside e ha)
   exact⟨k1,by rw[upd_apply,if_neg n2];exact k2,off,g,by rw[upd_apply,if_neg n];exact k3,by rw[getD_set hd,if_neg n];exact k4,by rw[getD_set hd,if_neg n2];exact k5⟩
/-- A box is made. -/
theorem SR.make{a ty:Nat}{cs:Array Value}{cur:Array Value}(S:SR A pb env φ s tm w lo)(ha:a<tm.size)(hpb:pb.contains a=true)(hside:∀e,boxOf env e=some a->s e=poison)(hw:EnvWf pb env)
  (hlow:∀b l,φ b=some l->l.g<w.heap.size) (hlo:lo<=w.heap.size) (hc:All2 (VR0 A φ) cs.toList cur.toList):
  SR A pb env φ (upd s a (.agg cs)) (tm.setIfInBounds a (.pointer (some ⟨w.heap.size,0,none⟩))) (w.alloc (.cells cur ty)) lo:=by
 have hlt:∀b,pb.contains b=true->s b≠poison->∀g,tm.getD b undef=.pointer (some ⟨g,0,none⟩)->g<w.heap.size:=by
  intro b hb hp g hg
  obtain⟨cs',g',cur',ty',e1,e2,e3,e4,e5,e6⟩:=S.box b hb hp
  rw[hg]at e2
  injection e2 with e2;injection e2 with e2;injection e2 with e2
  subst e2
  exact(Array.getElem?_eq_some_iff.1 e4).1
 refine⟨λt ht1 ht2=>?_,λb hb hp=>?_,λb b' g hb hb' hp hp' e1 e2=>?_,λe b hb hp=>?_⟩
 ·have n:t≠a:=λe=>by subst e;rw[hpb]at ht1;cases ht1
  rw[getD_set ha,upd_apply,if_neg n,if_neg n]
  exact S.plain t ht1 ht2
 ·by_cases n:b=a
  ·subst n
   refine⟨cs,w.heap.size,cur,ty,by simp[upd],by rw[getD_set ha];simp,hlo,heap_alloc_new w _,hc,λb l hb=>Nat.ne_of_lt (hlow b l hb)⟩
  ·rw[upd_apply,if_neg n]at hp
   obtain⟨cs',g',cur',ty',e1,e2,e3,e4,e5,e6⟩:=S.box b hb hp
   refine⟨cs',g',cur',ty',by rw[upd_apply,if_neg n];exact e1,by rw[getD_set ha,if_neg n];exact e2,e3,?_,e5,e6⟩
   rw[heap_alloc_old w _ g' (Array.getElem?_eq_some_iff.1 e4).1];exact e4
 ·by_cases n:b=a
  ·subst n
   by_cases n':b'=b
   ·exact n'.symm
   ·rw[getD_set ha]at e1
    simp at e1
    rw[upd_apply,if_neg n']at hp'
    rw[getD_set ha,if_neg n']at e2
    have:=hlt b' hb' hp' g e2
    omega
  ·rw[upd_apply,if_neg n]at hp
   rw[getD_set ha,if_neg n]at e1
   by_cases n':b'=a
   ·subst n'
    rw[getD_set ha]at e2
    simp at e2
    have:=hlt b hb hp g e1
    omega
   ·rw[upd_apply,if_neg n']at hp'
    rw[getD_set ha,if_neg n']at e2
    exact S.apart b b' g hb hb' hp hp' e1 e2
 ·have n:e≠a:=λhe=>by subst he;have:=(hw e b hb).2;rw[hpb]at this;cases this
  rw[upd_apply,if_neg n]at hp
  obtain⟨k1,k2,off,g,k3,k4,k5⟩:=S.into e b hb hp
  have n2:b≠a:=λhe=>by subst he;exact hp (hside e hb)
  exact⟨k1,by rw[upd_apply,if_neg n2];exact k2,off,g,by rw[upd_apply,if_neg n];exact k3,by rw[getD_set ha,if_neg n];exact k4,by rw[getD_set ha,if_neg n2];exact k5⟩
/-- A slot comes to point into a box. -/
theorem SR.point{d a off g:Nat}(S:SR A pb env φ s tm w lo)(hd:d<tm.size)(hw:EnvWf pb env)(hb:boxOf env d=some a)(hp:s a≠poison)(hg:tm.getD a undef=.pointer (some ⟨g,0,none⟩)):
  SR A pb env φ (upd s d (I off)) (tm.setIfInBounds d (.pointer (some ⟨g,off,none⟩))) w lo:=by
 obtain⟨hpa,hpd⟩:=hw d a hb
 have hne:∀a,pb.contains a=true->a≠d:=λa ha e=>by subst e;rw[hpd]at ha;cases ha
 refine⟨λt ht1 ht2=>?_,λa ha hp=>?_,λa a' g ha ha' hp hp' e1 e2=>?_,λe b he hp'=>?_⟩
 ·have n:t≠d:=λe=>by subst e;rw[hb]at ht2;cases ht2
  rw[getD_set hd,upd_apply,if_neg n,if_neg n]
  exact S.plain t ht1 ht2
 ·have:=hne a ha
  rw[upd_apply,if_neg this]at hp
  rw[upd_apply,if_neg this,getD_set hd,if_neg this]
  exact S.box a ha hp
 ·have n1:=hne a ha
  have n2:=hne a' ha'
  rw[upd_apply,if_neg n1]at hp
  rw[upd_apply,if_neg n2]at hp'
  rw[getD_set hd,if_neg n1]at e1
  rw[getD_set hd,if_neg n2]at e2
  exact S.apart a a' g ha ha' hp hp' e1 e2
 ·by_cases n:e=d
  ·subst n
   rw[hb]at he;injection he with he;subst he
   have n2:=hne a hpa
   exact⟨hpa,by rw[upd_apply,if_neg n2];exact hp,off,g,by simp[upd],by rw[getD_set hd];simp,by rw[getD_set hd,if_neg n2];exact hg⟩
  ·rw[upd_apply,if_neg n]at hp'
   obtain⟨k1,k2,off,g,k3,k4,k5⟩:=S.into e b he hp'
   have n2:=hne b k1
   exact⟨k1,by rw[upd_apply,if_neg n2];exact k2,off,g,by rw[upd_apply,if_neg n];exact k3,by rw[getD_set hd,if_neg n];exact k4,by rw[getD_set hd,if_neg n2];exact k5⟩
end
end Am

/- New blocks, stores, blocks that end, blocks that go on elsewhere: the model's memory and that of 'Am' side by side. -/
import Derived.Test.YtpgioncclmancaaGreatAmRel
set_option linter.unusedVariables false
set_option linter.unusedSimpArgs false
namespace Am
open Go
section
variable {A : Seat} {φ : Phi} {h : Heap} {w : World} {base : Nat}
def Phi.put(φ:Phi)(b:Nat)(l:Loc):Phi:=λk=>if k=b then some l else φ k
theorem Phi.put_same(φ:Phi)(b:Nat)(l:Loc):φ.put b l b=some l:=by simp[Phi.put]
theorem Phi.put_other(φ:Phi){b k:Nat}(l:Loc)(hk:k≠b):φ.put b l k=φ k:=by simp[Phi.put,hk]
theorem Phi.put_sub{φ:Phi}{b:Nat}(l:Loc)(hb:φ b=none):Sub φ (φ.put b l):=by
 intro k m hk
 by_cases hkb:k=b
 ·subst hkb;rw[hb]at hk;cases hk
 ·rw[Phi.put_other φ l hkb];exact hk
theorem cell_of_heap{w w':World}{a:Addr}(e:w'.heap[a.block]?=w.heap[a.block]?):w'.cell? a=w.cell? a:=by simp[World.cell?,e]
theorem get_push_last(h:Heap)(k:Blk):(h++[k])[h.length]?=some k:=by simp
theorem get_push_old{h:Heap}{k:Blk}{b:Nat}(hb:b<h.length):(h++[k])[b]?=h[b]?:=List.getElem?_append_left hb
theorem push_cases{h:Heap}{k x:Blk}{b:Nat}(hx:(h++[k])[b]?=some x):(b<h.length∧h[b]?=some x)∨(b=h.length∧x=k):=by
 have hlt:=(List.getElem?_eq_some_iff.1 hx).1
 simp at hlt
 rcases Nat.lt_or_ge b h.length with hb|hb
 ·exact .inl ⟨hb,by rw[get_push_old hb]at hx;exact hx⟩
 ·have:b=h.length:=by omega
  subst this
  rw[get_push_last]at hx
  injection hx with hx
  exact .inr ⟨rfl,hx.symm⟩
/-- The same memory, seen in a world that differs in nothing of it. -/
theorem HeapR.same_world{w':World}(H:HeapR A φ h w base)(hh:w'.heap=w.heap):HeapR A φ h w' base where
 pos:=H.pos
 low:=λb l hb=>by rw[hh];exact H.low b l hb
 cells:=λb l k hb hk i v hv=>by
  obtain⟨u,hu,hr⟩:=H.cells b l k hb hk i v hv
  exact⟨u,by rw[cell_of_heap (w:=w) (w':=w') (by rw[hh])];exact hu,hr⟩
 row:=λb l k hb hk hr=>by rw[hh];exact H.row b l k hb hk hr
 one:=H.one
 old:=H.old
/-- A NEW BLOCK. -/
theorem alloc_sim{w':World}{cs vs:List Value}{cur:Array Value}{ty lo hi:Nat}(st:Bool)(hstr:lo<=cur.size∧cur.size<hi->st=true)(H:HeapR A φ h w base)(hb:base<=w.heap.size)(hφ:φ h.length=none)
  (hcs:All2 (VR0 A φ) cs vs) (hcur:∀(i:Nat) (v:Value),vs[i]?=some v->cur[i]?=some v)
  (hsz:w'.heap.size=w.heap.size+1) (hold:∀g,g<w.heap.size->w'.heap[g]?=w.heap[g]?) (hnew:w'.heap[w.heap.size]?=some (.cells cur ty (lo,hi)))
  (hfz:∀i,i<cur.size->¬(lo<=i∧i<hi)) (ho:w'.os=w.os) (ht:w'.tape=w.tape) (hp:w'.output=w.output):
  HeapR A (φ.put h.length ⟨w.heap.size,0,cur.size,st⟩) (h++[⟨cs,true⟩]) w' base∧
   Ext w.heap.size φ h w (φ.put h.length ⟨w.heap.size,0,cur.size,st⟩) (h++[⟨cs,true⟩]) w':=by
 have hsub:=Phi.put_sub (φ:=φ) (b:=h.length) ⟨w.heap.size,0,cur.size,st⟩ hφ
 have hle:cs.length<=cur.size:=by
  rw[hcs.length]
  rcases Nat.lt_or_ge cur.size vs.length with hlt|hge
  ·have h1:=hcur cur.size _ (List.getElem?_eq_getElem hlt)
   simp at h1
  ·exact hge
 refine⟨⟨?_,?_,?_,?_,?_,?_⟩,⟨hsub,?_,?_,?_,?_,?_,ho,ht,hp,?_,?_⟩⟩
 ·simp
 ·intro b l hbl
  rw[hsz]
  by_cases hbb:b=h.length
  ·subst hbb;rw[Phi.put_same]at hbl;injection hbl with hbl;subst hbl;simp
  ·rw[Phi.put_other _ _ hbb]at hbl;have:=H.low b l hbl;omega
 ·intro b l k hbl hk i v hv
  rcases push_cases hk with⟨hlt,hk'⟩|⟨rfl,rfl⟩
  ·rw[Phi.put_other _ _ (Nat.ne_of_lt hlt)]at hbl
   obtain⟨u,hu,hr⟩:=H.cells b l k hbl hk' i v hv
   exact⟨u,by rw[cell_of_heap (hold _ (H.low b l hbl))];exact hu,hr.mono A hsub⟩
  ·rw[Phi.put_same]at hbl
   injection hbl with hbl
   subst hbl
   obtain⟨u,hu,hr⟩:=hcs.get i v hv
   refine⟨u,?_,hr.mono A hsub⟩
   simp[World.cell?,hnew,hcur i u hu]
 ·intro b l k hbl hk hr
  rcases push_cases hk with⟨hlt,hk'⟩|⟨rfl,rfl⟩
  ·rw[Phi.put_other _ _ (Nat.ne_of_lt hlt)]at hbl
   obtain⟨h1,h2,c,t,x,y,h3,h4⟩:=H.row b l k hbl hk' hr
   exact⟨h1,h2,c,t,x,y,by rw[hold _ (H.low b l hbl)];exact h3,h4⟩
  ·rw[Phi.put_same]at hbl
   injection hbl with hbl
   subst hbl
   exact⟨hb,by simpa using hle,cur,ty,lo,hi,hnew,rfl,hfz,hstr⟩
 ·intro b b' l l' k k' hbl hbl' hk hk' hr hr' he
  rcases push_cases hk with⟨hlt,hk1⟩|⟨rfl,rfl⟩<;>rcases push_cases hk' with⟨hlt',hk1'⟩|⟨rfl,rfl⟩
  ·rw[Phi.put_other _ _ (Nat.ne_of_lt hlt)]at hbl
   rw[Phi.put_other _ _ (Nat.ne_of_lt hlt')]at hbl'
   exact H.one b b' l l' k k' hbl hbl' hk1 hk1' hr hr' he
  ·rw[Phi.put_other _ _ (Nat.ne_of_lt hlt)]at hbl
   rw[Phi.put_same]at hbl'
   injection hbl' with hbl'
   subst hbl'
   have:=H.low b l hbl
   simp at he;omega
  ·rw[Phi.put_other _ _ (Nat.ne_of_lt hlt')]at hbl'
   rw[Phi.put_same]at hbl
   injection hbl with hbl
   subst hbl
   have:=H.low b' l' hbl'
   simp at he;omega
  ·rfl
 ·intro b l k hbl hk hr hne
  rcases push_cases hk with⟨hlt,hk'⟩|⟨rfl,rfl⟩
  ·rw[Phi.put_other _ _ (Nat.ne_of_lt hlt)]at hbl
   exact H.old b l k hbl hk' hr hne
  ·simp at hr
 ·intro b h1 h2
  have:b=h.length:=by simp at h2;omega
  subst this
  rw[Phi.put_same];simp
 ·intro b hbb
  rw[Phi.put_other]
  simp at hbb;omega
 ·simp
 ·intro b k k' hk hk' hr
  have hlt:=(List.getElem?_eq_some_iff.1 hk).1
  rw[get_push_old hlt,hk]at hk'
  injection hk' with hk'
  subst hk'
  exact hr
 ·omega
 ·intro g hg _
  exact hold g hg
 ·intro b l h1 h2 hbl
  have:b=h.length:=by simp at h2;omega
  subst this
  rw[Phi.put_same]at hbl
  injection hbl with hbl
  subst hbl
  exact .inl (Nat.le_refl _)
theorem get_set_cases{h:Heap}{b c:Nat}{k x:Blk}(hx:(h.set b k)[c]?=some x):(c=b∧x=k∧b<h.length)∨(c≠b∧h[c]?=some x):=by
 by_cases hc:c=b
 ·subst hc
  have hlt:=(List.getElem?_eq_some_iff.1 hx).1
  simp at hlt
  rw[List.getElem?_set_self hlt]at hx
  injection hx with hx
  exact .inl ⟨rfl,hx.symm,hlt⟩
 ·rw[List.getElem?_set_ne (λe=>hc e.symm)]at hx
  exact .inr ⟨hc,hx⟩
/-- A BLOCK ENDS: nothing is said of it any more. -/
theorem kill_sim{b:Nat}(H:HeapR A φ h w base):HeapR A φ (h.set b ⟨[],false⟩) w base where
 pos:=by simpa using H.pos
 low:=H.low
 cells:=λc l k hl hk i v hv=>by
  rcases get_set_cases hk with⟨rfl,rfl,_⟩|⟨_,hk'⟩
  ·simp at hv
  ·exact H.cells c l k hl hk' i v hv
 row:=λc l k hl hk hr=>by
  rcases get_set_cases hk with⟨rfl,rfl,_⟩|⟨_,hk'⟩
  ·simp at hr
  ·exact H.row c l k hl hk' hr
 one:=λc c' l l' k k' hl hl' hk hk' hr hr' he=>by
  rcases get_set_cases hk with⟨rfl,rfl,_⟩|⟨_,hk1⟩
  ·simp at hr
  ·rcases get_set_cases hk' with⟨rfl,rfl,_⟩|⟨_,hk1'⟩
   ·simp at hr'
   ·exact H.one c c' l l' k k' hl hl' hk1 hk1' hr hr' he
 old:=λc l k hl hk hr hne=>by
  rcases get_set_cases hk with⟨rfl,rfl,_⟩|⟨_,hk'⟩
  ·simp at hne
  ·exact H.old c l k hl hk' hr hne
theorem kill_ext{b lo:Nat}:Ext lo φ h w φ (h.set b ⟨[],false⟩) w where
 sub:=Sub.refl φ
 newd:=λc h1 h2=>by simp at h2;omega
 same:=λ_ _=>rfl
 len:=by simp
 mode:=λc k k' hk hk' hr=>by
  rcases get_set_cases hk' with⟨rfl,rfl,_⟩|⟨_,hk1⟩
  ·simp at hr
  ·rw[hk]at hk1;injection hk1 with hk1;subst hk1;exact hr
 size:=Nat.le_refl _
 os:=rfl
 tape:=rfl
 output:=rfl
 frame:=λ_ _ _=>rfl
 fresh:=λc l h1 h2=>by simp at h2;omega
/-- A STORE into a block's own cells, from cell o on. -/
theorem store_sim{w':World}{h':Heap}{b o:Nat}{l:Loc}{xs us:List Value}(H:HeapR A φ h w base)(hst:storeAt h b o xs=some h')(hl:φ b=some l)
  (hxs:All2 (VR0 A φ) xs us) (hsz:w'.heap.size=w.heap.size) (hold:∀g,g≠l.g->w'.heap[g]?=w.heap[g]?)
  (hrow:∀cur ty lo hi,w.heap[l.g]?=some (.cells cur ty (lo,hi))->∃cur',w'.heap[l.g]?=some (.cells cur' ty (lo,hi))∧cur'.size=cur.size∧
   ∀i,i<cur.size->cur'[i]?=if l.o+o<=i∧i<l.o+o+us.length then us[i-(l.o+o)]? else cur[i]?)
  (ho:w'.os=w.os) (ht:w'.tape=w.tape) (hp:w'.output=w.output):HeapR A φ h' w' base∧Ext w.heap.size φ h w φ h' w':=by
 unfold storeAt at hst
 cases hk:h[b]? with
 |none=>simp[hk]at hst
 |some k=>
  simp only[hk]at hst
  split at hst
  ·rename_i hc
   obtain⟨hrw,hfit⟩:=hc
   injection hst with hst
   subst hst
   obtain⟨hbase,hin,cur,ty,lo,hi,hg,hcs,hfz⟩:=H.row b l k hl hk hrw
   obtain⟨cur',hg',hcs',hval⟩:=hrow cur ty lo hi hg
   have hus:us.length=xs.length:=hxs.length.symm
   have hblt:=(List.getElem?_eq_some_iff.1 hk).1
   have hother:∀c m kk,φ c=some m->h[c]?=some kk->c≠b->kk.rw=true->m.g≠l.g:=λc m kk h1 h2 h3 h4 h5=>h3 (H.one c b m l kk k h1 hl h2 hk h4 hrw h5)
   refine⟨⟨?_,?_,?_,?_,?_,?_⟩,⟨Sub.refl φ,?_,λ_ _=>rfl,by simp,?_,by omega,ho,ht,hp,?_,?_⟩⟩
   ·simpa using H.pos
   ·intro c m hm;rw[hsz];exact H.low c m hm
   ·intro c m kk hm hkk i v hv
    rcases get_set_cases hkk with⟨rfl,rfl,_⟩|⟨hne,hkk'⟩
    ·rw[hl]at hm;injection hm with hm;subst hm
     simp only[splice]at hv
     have hlen:i<k.cells.length:=by
      have:=(List.getElem?_eq_some_iff.1 hv).1
      simp at this;omega
     have hi:l.o+i<cur.size:=by omega
     have e:w'.cell? ⟨l.g,l.o+i,none⟩=if l.o+o<=l.o+i∧l.o+i<l.o+o+us.length then us[l.o+i-(l.o+o)]? else cur[l.o+i]?:=by
      simp only[World.cell?,hg']
      simpa using hval _ hi
     rw[e]
     by_cases hmid:o<=i∧i<o+us.length
     ·rw[if_pos (by omega)]
      have hv':xs[i-o]?=some v:=by
       rw[List.append_assoc,List.getElem?_append_right (by simp;omega),List.getElem?_append_left (by simp;omega)]at hv
       simpa [show min o k.cells.length=o by omega]using hv
      obtain⟨u,hu,hr⟩:=hxs.get _ _ hv'
      exact⟨u,by rw[show l.o+i-(l.o+o)=i-o by omega];exact hu,hr⟩
     ·rw[if_neg (by omega)]
      have hv':k.cells[i]?=some v:=by
       rcases Nat.lt_or_ge i o with hlt|hge
       ·rw[List.append_assoc,List.getElem?_append_left (by simp;omega)]at hv
        rwa [List.getElem?_take_of_lt hlt]at hv
       ·rw[List.append_assoc,List.getElem?_append_right (by simp;omega),List.getElem?_append_right (by simp;omega)]at hv
        simp only[List.getElem?_drop,List.length_take]at hv
        rwa [show o+xs.length+(i-min o k.cells.length-xs.length)=i by omega]at hv
      obtain⟨u,hu,hr⟩:=H.cells _ l k hl hk i v hv'
      simp only[World.cell?,hg]at hu
      exact⟨u,by simpa using hu,hr⟩
    ·obtain⟨u,hu,hr⟩:=H.cells c m kk hm hkk' i v hv
     have hmg:m.g≠l.g:=by
      cases hkr:kk.rw with
      |true=>exact hother c m kk hm hkk' hne hkr
      |false=>
       have hne':kk.cells≠[]:=λe0=>by rw[e0]at hv;simp at hv
       have:=H.old c m kk hm hkk' hkr hne'
       omega
     exact⟨u,by rw[cell_of_heap (hold _ hmg)];exact hu,hr⟩
   ·intro c m kk hm hkk hr
    rcases get_set_cases hkk with⟨rfl,rfl,_⟩|⟨hne,hkk'⟩
    ·rw[hl]at hm;injection hm with hm;subst hm
     refine⟨hbase,?_,cur',ty,lo,hi,hg',by omega,hfz⟩
     simp[splice];omega
    ·obtain⟨h1,h2,c1,t1,x1,y1,h3,h4⟩:=H.row c m kk hm hkk' hr
     exact⟨h1,h2,c1,t1,x1,y1,by rw[hold _ (hother c m kk hm hkk' hne hr)];exact h3,h4⟩
   ·intro c c' m m' kk kk' hm hm' hkk hkk' hr hr' he
    have f:∀(d:Nat) (y:Blk),(h.set b ⟨splice k.cells o xs,true⟩)[d]?=some y->y.rw=true->∃z,h[d]?=some z∧z.rw=true:=by
     intro d y hd hy
     rcases get_set_cases hd with⟨rfl,rfl,_⟩|⟨_,hd'⟩
     ·exact⟨k,hk,hrw⟩
     ·exact⟨y,hd',hy⟩
    obtain⟨z,hz,hzr⟩:=f c kk hkk hr
    obtain⟨z',hz',hzr'⟩:=f c' kk' hkk' hr'
    exact H.one c c' m m' z z' hm hm' hz hz' hzr hzr' he
   ·intro c m kk hm hkk hr hne
    rcases get_set_cases hkk with⟨rfl,rfl,_⟩|⟨_,hkk'⟩
    ·simp at hr
    ·exact H.old c m kk hm hkk' hr hne
   ·intro c h1 h2;simp at h2;omega
   ·intro c x y hx hy hr
    rcases get_set_cases hy with⟨rfl,rfl,_⟩|⟨_,hy'⟩
    ·rw[hk]at hx;injection hx with hx;subst hx;exact hrw
    ·rw[hx]at hy';injection hy' with hy';subst hy';exact hr
   ·intro g _ hn
    exact hold g (λe=>hn b l k hl hk hrw e.symm)
   ·intro c m h1 h2;simp at h2;omega
  ·simp at hst
/-- A BLOCK GOES ON as a new one, in the same memory: its cells from o on, with what has been appended. -/
theorem adopt_sim{w':World}{b o:Nat}{l:Loc}{k:Blk}{old new us:List Value}(H:HeapR A φ h w base)(hl:φ b=some l)(hk:h[b]?=some k)(hrw:k.rw=true)
  (hφ:φ h.length=none) (hold':∀(i:Nat) (v:Value),old[i]?=some v->k.cells[o+i]?=some v) (hnew:All2 (VR0 A φ) new us)
  (hroom:l.o+o+old.length+new.length<=l.size) (hsz:w'.heap.size=w.heap.size) (hold:∀g,g≠l.g->w'.heap[g]?=w.heap[g]?)
  (hrow:∀cur ty lo hi,w.heap[l.g]?=some (.cells cur ty (lo,hi))->∃cur',w'.heap[l.g]?=some (.cells cur' ty (lo,hi))∧cur'.size=cur.size∧
   ∀i,i<cur.size->cur'[i]?=if l.o+o+old.length<=i∧i<l.o+o+old.length+us.length then us[i-(l.o+o+old.length)]? else cur[i]?)
  (ho:w'.os=w.os) (ht:w'.tape=w.tape) (hp:w'.output=w.output):
  HeapR A (φ.put h.length ⟨l.g,l.o+o,l.size,l.str⟩) (h.set b ⟨[],false⟩++[⟨old++new,true⟩]) w' base∧
   Ext w.heap.size φ h w (φ.put h.length ⟨l.g,l.o+o,l.size,l.str⟩) (h.set b ⟨[],false⟩++[⟨old++new,true⟩]) w':=by
 have hsub:=Phi.put_sub (φ:=φ) (b:=h.length) ⟨l.g,l.o+o,l.size,l.str⟩ hφ
 obtain⟨hbase,hin,cur,ty,lo,hi,hg,hcs,hfz⟩:=H.row b l k hl hk hrw
 obtain⟨cur',hg',hcs',hval⟩:=hrow cur ty lo hi hg
 have hus:us.length=new.length:=hnew.length.symm
 have hblt:=(List.getElem?_eq_some_iff.1 hk).1
 have hlen:(h.set b ⟨[],false⟩).length=h.length:=by simp
 have hother:∀c m kk,φ c=some m->h[c]?=some kk->c≠b->kk.rw=true->m.g≠l.g:=λc m kk h1 h2 h3 h4 h5=>h3 (H.one c b m l kk k h1 hl h2 hk h4 hrw h5)
 have cases':∀{c:Nat} {x:Blk},(h.set b ⟨[],false⟩++[⟨old++new,true⟩])[c]?=some x->
   (c=h.length∧x=⟨old++new,true⟩)∨(c=b∧x=⟨[],false⟩)∨(c≠b∧c<h.length∧h[c]?=some x):=by
  intro c x hx
  rcases push_cases hx with⟨hlt,hx'⟩|⟨rfl,rfl⟩
  ·rcases get_set_cases hx' with⟨rfl,rfl,_⟩|⟨hne,hx''⟩
   ·exact .inr (.inl ⟨rfl,rfl⟩)
   ·exact .inr (.inr ⟨hne,by omega,hx''⟩)
  ·exact .inl ⟨hlen,rfl⟩
 refine⟨⟨?_,?_,?_,?_,?_,?_⟩,⟨hsub,?_,?_,by simp,?_,by omega,ho,ht,hp,?_,?_⟩⟩
 ·simp
 ·intro c m hm
  rw[hsz]
  by_cases hc:c=h.length
  ·subst hc;rw[Phi.put_same]at hm;injection hm with hm;subst hm;exact H.low b l hl
  ·rw[Phi.put_other _ _ hc]at hm;exact H.low c m hm
 ·intro c m kk hm hkk i v hv
  rcases cases' hkk with⟨rfl,rfl⟩|⟨rfl,rfl⟩|⟨hne,hlt,hkk'⟩
  ·rw[Phi.put_same]at hm;injection hm with hm;subst hm
   simp only
   have hilt:i<old.length+new.length:=by have:=(List.getElem?_eq_some_iff.1 hv).1;simp at this;omega
   have hil:l.o+o+i<cur.size:=by omega
   have e:w'.cell? ⟨l.g,l.o+o+i,none⟩=if l.o+o+old.length<=l.o+o+i∧l.o+o+i<l.o+o+old.length+us.length then us[l.o+o+i-(l.o+o+old.length)]? else cur[l.o+o+i]?:=by
    simp only[World.cell?,hg']
    simpa using hval _ hil
   rw[e]
   rcases Nat.lt_or_ge i old.length with hio|hio
   ·rw[if_neg (by omega)]
    rw[List.getElem?_append_left hio]at hv
    obtain⟨u,hu,hr⟩:=H.cells b l k hl hk (o+i) v (hold' i v hv)
    simp only[World.cell?,hg]at hu
    exact⟨u,by simpa [Nat.add_assoc]using hu,hr.mono A hsub⟩
   ·rw[if_pos (by omega)]
    rw[List.getElem?_append_right hio]at hv
    obtain⟨u,hu,hr⟩:=hnew.get _ _ hv
    exact⟨u,by rw[show l.o+o+i-(l.o+o+old.length)=i-old.length by omega];exact hu,hr.mono A hsub⟩
  ·simp at hv
  ·rw[Phi.put_other _ _ (Nat.ne_of_lt hlt)]at hm
   obtain⟨u,hu,hr⟩:=H.cells c m kk hm hkk' i v hv
   have hmg:m.g≠l.g:=by
    cases hkr:kk.rw with
    |true=>exact hother c m kk hm hkk' hne hkr
    |false=>
     have hne':kk.cells≠[]:=λe0=>by rw[e0]at hv;simp at hv
     have:=H.old c m kk hm hkk' hkr hne'
     omega
   exact⟨u,by rw[cell_of_heap (hold _ hmg)];exact hu,hr.mono A hsub⟩
 ·intro c m kk hm hkk hr
  rcases cases' hkk with⟨rfl,rfl⟩|⟨rfl,rfl⟩|⟨hne,hlt,hkk'⟩
  ·rw[Phi.put_same]at hm;injection hm with hm;subst hm
   refine⟨hbase,?_,cur',ty,lo,hi,hg',by simp;omega,hfz⟩
   simp;omega
  ·simp at hr
  ·rw[Phi.put_other _ _ (Nat.ne_of_lt hlt)]at hm
   obtain⟨h1,h2,c1,t1,x1,y1,h3,h4⟩:=H.row c m kk hm hkk' hr
   exact⟨h1,h2,c1,t1,x1,y1,by rw[hold _ (hother c m kk hm hkk' hne hr)];exact h3,h4⟩
 ·intro c c' m m' kk kk' hm hm' hkk hkk' hr hr' he
  rcases cases' hkk with⟨rfl,rfl⟩|⟨rfl,rfl⟩|⟨hne,hlt,hk1⟩
  ·rcases cases' hkk' with⟨rfl,rfl⟩|⟨rfl,rfl⟩|⟨hne',hlt',hk1'⟩
   ·rfl
   ·simp at hr'
   ·rw[Phi.put_same]at hm;injection hm with hm;subst hm
    rw[Phi.put_other _ _ (Nat.ne_of_lt hlt')]at hm'
    exact absurd he.symm (hother c' m' kk' hm' hk1' hne' hr')
  ·simp at hr
  ·rw[Phi.put_other _ _ (Nat.ne_of_lt hlt)]at hm
   rcases cases' hkk' with⟨rfl,rfl⟩|⟨rfl,rfl⟩|⟨hne',hlt',hk1'⟩
   ·rw[Phi.put_same]at hm';injection hm' with hm';subst hm'
    exact absurd he (hother c m kk hm hk1 hne hr)
   ·simp at hr'
   ·rw[Phi.put_other _ _ (Nat.ne_of_lt hlt')]at hm'
    exact H.one c c' m m' kk kk' hm hm' hk1 hk1' hr hr' he
 ·intro c m kk hm hkk hr hne0
  rcases cases' hkk with⟨rfl,rfl⟩|⟨rfl,rfl⟩|⟨hne,hlt,hkk'⟩
  ·simp at hr
  ·simp at hne0
  ·rw[Phi.put_other _ _ (Nat.ne_of_lt hlt)]at hm
   exact H.old c m kk hm hkk' hr hne0
 ·intro c h1 h2
  have:c=h.length:=by simp at h2;omega
  subst this
  rw[Phi.put_same];simp
 ·intro c hc
  rw[Phi.put_other]
  simp at hc;omega
 ·intro c x y hx hy hr
  rcases cases' hy with⟨rfl,rfl⟩|⟨rfl,rfl⟩|⟨_,_,hy'⟩
  ·have:=(List.getElem?_eq_some_iff.1 hx).1;omega
  ·simp at hr
  ·rw[hx]at hy';injection hy' with hy';subst hy';exact hr
 ·intro g _ hn
  exact hold g (λe=>hn b l k hl hk hrw e.symm)
 ·intro c m h1 h2 hm
  have:c=h.length:=by simp at h2;omega
  subst this
  rw[Phi.put_same]at hm
  injection hm with hm
  subst hm
  exact .inr ⟨b,l,k,hl,hk,hrw,rfl⟩
/-- Cells that are read. -/
theorem cellsAt_sim{b o n:Nat}{l:Loc}{cs:List Value}(H:HeapR A φ h w base)(hl:φ b=some l)(hc:cellsAt h b o n=some cs):
  cs.length=n∧∃us,us.length=n∧All2 (VR0 A φ) cs us∧∀j u,us[j]?=some u->w.cell? ⟨l.g,l.o+o+j,none⟩=some u:=by
 unfold cellsAt at hc
 cases hk:h[b]? with
 |none=>simp[hk]at hc
 |some k=>
  simp only[hk]at hc
  split at hc
  ·rename_i hfit
   injection hc with hc
   have hlen:cs.length=n:=by subst hc;simp;omega
   have hcell:∀j,j<n->∃u,w.cell? ⟨l.g,l.o+o+j,none⟩=some u∧∀v,cs[j]?=some v->VR0 A φ v u:=by
    intro j hj
    obtain⟨v,hv⟩:∃v,cs[j]?=some v:=⟨_,List.getElem?_eq_getElem (by omega)⟩
    have hv':k.cells[o+j]?=some v:=by
     subst hc
     rw[List.getElem?_take_of_lt hj,List.getElem?_drop]at hv
     exact hv
    obtain⟨u,hu,hr⟩:=H.cells b l k hl hk (o+j) v hv'
    refine⟨u,by rw[Nat.add_assoc];exact hu,λv2 h2=>?_⟩
    rw[hv]at h2;injection h2 with h2;subst h2;exact hr
   refine⟨hlen,(List.range n).map λj=>(w.cell? ⟨l.g,l.o+o+j,none⟩).getD undef,by simp,?_,?_⟩
   ·refine All2.of_get (by simp[hlen]) λi a u ha hu=>?_
    have hi:i<n:=by have:=(List.getElem?_eq_some_iff.1 ha).1;omega
    obtain⟨x,hx,hr⟩:=hcell i hi
    simp[hi,hx]at hu
    subst hu
    exact hr a ha
   ·intro j u hu
    have hj:j<n:=by have:=(List.getElem?_eq_some_iff.1 hu).1;simpa using this
    obtain⟨x,hx,_⟩:=hcell j hj
    simp[hj,hx]at hu
    subst hu
    exact hx
  ·simp at hc
theorem cell_sim{b o:Nat}{l:Loc}{v:Value}(H:HeapR A φ h w base)(hl:φ b=some l)(hc:cell h b o=some v):∃u,w.cell? ⟨l.g,l.o+o,none⟩=some u∧VR0 A φ v u:=by
 unfold cell at hc
 cases hk:h[b]? with
 |none=>simp[hk]at hc
 |some k=>simp only[hk]at hc;exact H.cells b l k hl hk o v hc
end
end Am

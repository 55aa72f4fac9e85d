/- From regions to code, from code to functions: what 'Am' gets, the model gets. -/
import Derived.Test.YtpgioncclmancaaGreatAmOpen2
set_option linter.unusedVariables false
set_option linter.unusedSimpArgs false
namespace Am
open Go
section norm
variable {A : Seat} {loc pb : List Nat} {ops : Array Oper} {draw : Bool} {l : List Oper} {m : Nat}
theorem zipIdx_all{α:Type}{f:α×Nat->Bool}{l:List α}(h:l.zipIdx.all f=true):∀(k:Nat) (x:α),l[k]?=some x->f (x,k)=true:=by
 intro k x hk
 rw[List.all_eq_true]at h
 exact h (x,k) (List.mk_mem_zipIdx_iff_getElem?.2 hk)
theorem apartN_spec{b:Array Nat}{i j:Nat}{x y:Oper}(h:apartN b i j x y=true):(b.getD j 0).testBit i=true∨((∀d,x.dst=some d->d∉readsN y∧y.dst≠some d)∧(∀d,y.dst=some d->d∉readsN x)):=by
 unfold apartN at h
 simp only[Bool.or_eq_true,Bool.and_eq_true]at h
 refine h.imp id λ⟨h1,h2⟩=>⟨λd hd=>?_,λd hd=>?_⟩
 ·simp only[hd,Bool.and_eq_true,Bool.not_eq_true',bne_iff_ne,ne_eq]at h1
  exact⟨by simpa using h1.1,h1.2⟩
 ·simp only[hd,Bool.not_eq_true']at h2
  simpa using h2
theorem nRegion_ok(hn:nRegion A loc pb ops draw=some l)(hd:∀(k:Nat) (o:Oper) (d:Nat),ops[k]?=some o->o.dst=some d->d<m):
  l.all (wfOper loc)=true∧∃env,RegOk A loc pb env ops l m∧(draw=true->RegOpen env ops l):=by
 unfold nRegion at hn
 simp only at hn
 split at hn
 ·rename_i henv
  simp only[Bool.and_eq_true]at henv
  obtain⟨hwf,hown⟩:=envWf_spec henv.2
  split at hn
  ·rename_i ps hps
   obtain⟨hlen,hget⟩:=nOpers_get hps
   have henvs:∀(j k:Nat) (x y:Oper) (d a:Nat),j<k->ops[j]?=some x->ops[k]?=some y->x.dst=some d->boxOf (envGo loc pb [] ops.toList) d=some a->y.dst≠some d∧y.dst≠some a:=
    λj k x y d a h1 h2 h3=>envOk_spec henv.1 j k x y d a h1 (by simpa using h2) (by simpa using h3)
   split at hn
   ·rename_i l' hl'
    split at hn
    ·rename_i hw
     simp only[Bool.and_eq_true]at hw
     injection hn with hn;subst hn
     refine⟨hw.1,envGo loc pb [] ops.toList,?_⟩
     cases draw with
     |false=>
      simp only[Bool.false_eq_true,if_false,Option.some.injEq]at hl'
      subst hl'
      refine⟨⟨by simpa using hlen,λk o hk=>?_,hwf,hown,henvs,hd⟩,λh=>by cases h⟩
      obtain⟨p,h1,h2⟩:=hget k o (by simpa using hk)
      exact⟨p,p,h1,h2,rfl,rfl,rfl⟩
     |true=>
      simp only[if_true]at hl'
      split at hl'
      ·rename_i hch
       simp only[Bool.and_eq_true]at hch
       obtain⟨hfl,hfg⟩:=nFlag_get hl'
       have hop:∀(k:Nat) (p:Oper),l'[k]?=some p->∃p0,ps[k]?=some p0∧p.dst=p0.dst∧p.op=p0.op∧p.guard=p0.guard∧
         FlagOk (Region.before ops) ps k p0 p:=by
        intro k p hk
        have hk':k<ps.length:=by have:=(List.getElem?_eq_some_iff.1 hk).1;omega
        obtain⟨p',q1,q2,q3,q4,q5⟩:=hfg k _ (List.getElem?_eq_getElem hk')
        rw[hk]at q1;injection q1 with q1;subst q1
        exact⟨_,List.getElem?_eq_getElem hk',q2,q3,q4,by simpa using q5⟩
       refine⟨⟨by simp at hlen;omega,λk o hk=>?_,hwf,hown,henvs,hd⟩,λ_=>⟨hch.1.1,?_,?_,?_,?_⟩⟩
       ·obtain⟨p,h1,h2⟩:=hget k o (by simpa using hk)
        obtain⟨p',q1,q2,q3,q4,_⟩:=hfg k p h1
        exact⟨p',p,q1,h2,q2,q3,q4⟩
       ·intro i j x y hij hx hy
        have hsl:slotsOkN (Region.before ops) l'=true:=by simpa using hw.2
        have:=zipIdx_all (zipIdx_all hsl j y hy) i x hx
        simp only[Bool.or_eq_true,Bool.not_eq_true',decide_eq_false_iff_not]at this
        rcases this with h|h
        ·exact absurd hij h
        ·exact apartN_spec h
       ·intro i j x y a d hx hy hxa hyd hbx
        have:=zipIdx_all (zipIdx_all hch.2 i x (by simpa using hx)) j y (by simpa using hy)
        simp only[hxa,hyd,Bool.or_eq_true,bne_iff_ne,ne_eq,decide_eq_true_eq]at this
        rcases this with(h|h)|h
        ·exact absurd hbx h
        ·exact .inl h
        ·exact .inr h
       ·intro k p hk
        obtain⟨p0,a1,a2,a3,a4,a5⟩:=hop k p hk
        rw[a3]
        have hko:k<ops.toList.length:=by have:=(List.getElem?_eq_some_iff.1 a1).1;omega
        obtain⟨p0',h1,h2⟩:=hget k _ (List.getElem?_eq_getElem hko)
        rw[a1]at h1;injection h1 with h1;subst h1
        have hty:=(nOper_facts hwf h2).1
        exact a5.2.imp id λh=>h hty
       ·intro k p hk
        obtain⟨p0,a1,a2,a3,a4,a5⟩:=hop k p hk
        rw[a3]
        have hko:k<ops.toList.length:=by have:=(List.getElem?_eq_some_iff.1 a1).1;omega
        obtain⟨p0',h1,h2⟩:=hget k _ (List.getElem?_eq_getElem hko)
        rw[a1]at h1;injection h1 with h1;subst h1
        have hty:=(nOper_facts hwf h2).1
        rcases a5.1 with h|h|⟨h,h'⟩|⟨x,hx,h⟩
        ·exact .inl h
        ·refine .inr (.inl λj q hj hjk=>?_)
         obtain⟨q0,b1,b2,b3,b4,_⟩:=hop j q hj
         have:=zipIdx_all h j q0 b1
         simp only[Bool.or_eq_true,beq_iff_eq]at this
         rw[b3]
         rcases this with(h|h)|h
         ·exact absurd h hjk
         ·exact .inl h
         ·split at h
          ·rename_i hlt;exact .inr (.inl ⟨hlt,h⟩)
          ·rename_i hlt
           simp only[Bool.or_eq_true]at h
           exact .inr (.inr ⟨by omega,h⟩)
        ·exact .inr (.inr (.inl ⟨h,h'.imp id λh=>h hty⟩))
        ·refine .inr (.inr (.inr ⟨x,hx,λj q hj hjk=>?_⟩))
         obtain⟨q0,b1,b2,b3,b4,_⟩:=hop j q hj
         have:=zipIdx_all h j q0 b1
         simp only[Bool.or_eq_true,beq_iff_eq]at this
         rw[b3]
         rcases this with(h|h)|h
         ·exact absurd h hjk
         ·exact .inl h
         ·split at h
          ·rename_i hlt
           simp only[Bool.or_eq_true]at h
           rcases h with h|h
           ·exact .inr (.inl ⟨hlt,h⟩)
           ·unfold readsBy at h
            simp only[Bool.and_eq_true]at h
            obtain⟨⟨_,h1⟩,h3⟩:=h
            refine .inr (.inr (.inr ⟨hlt,?_,λm z hm1 hm2 hz=>?_⟩))
            ·split at h1
             ·rename_i n y hop'
              exact⟨n,by rw[hop',sameSlot_eq h1]⟩
             ·cases h1
            ·obtain⟨z0,c1,c2,_⟩:=hop m z hz
             have:=zipIdx_all h3 m z0 c1
             rw[c2]
             simpa [hm1,hm2]using this
          ·rename_i hlt
           simp only[Bool.or_eq_true]at h
           exact .inr (.inr (.inl ⟨by omega,h⟩))
      ·simp at hl'
    ·simp at hn
   ·simp at hn
  ·simp at hn
 ·simp at hn
end norm
/-! ### code -/
/-- How a piece of code ends, there and here. -/
def ends(e:Nat):Exit->Prop
 |.normal=>e=0
 |.ret=>e=1
 |.exit id=>e=id+2
 |_=>False
section
variable {A : Seat} {loc pb : List Nat} {m base lo : Nat} {call : Caller}
/-- Behind a piece of code. -/
def Done(A:Seat)(loc pb:List Nat)(m base lo:Nat)(φ:Phi)(h:Heap)(w:World)(ds:List Deferred)(r:Out)(e:Exit)(a:Act)(w':World):Prop:=
 ends r.e e∧a.defers=ds∧a.tmps.size=m∧∃φ',SR A pb [] φ' (comb loc r.σ nothing) a.tmps w' lo∧HeapR A φ' r.h w' base∧Ext lo φ h w φ' r.h w'
theorem comb_nothing{σ:Nat->Value}{d:Nat}(hd:own loc d=true):comb loc σ nothing d=poison:=by simp[comb,hd,nothing]
theorem comb_kept{σ τ:Nat->Value}{d:Nat}(hd:own loc d=false):comb loc σ τ d=σ d:=by simp[comb,hd]
theorem SR.enter{env:List (Nat×Nat)}{φ:Phi}{σ:Nat->Value}{tm:Array Value}{w:World}(S:SR A pb [] φ (comb loc σ nothing) tm w lo)(hown:∀d a,boxOf env d=some a->own loc d=true):SR A pb env φ (comb loc σ nothing) tm w lo:=
 ⟨λt h1 _=>S.plain t h1 rfl,S.box,S.apart,λd a h hp=>absurd (comb_nothing (hown d a h)) hp⟩
theorem SR.leave{env:List (Nat×Nat)}{φ:Phi}{σ τ:Nat->Value}{tm:Array Value}{w:World}(S:SR A pb env φ (comb loc σ τ) tm w lo)(hown:∀d a,boxOf env d=some a->own loc d=true)(hpb:∀a,pb.contains a=true->own loc a=false):
  SR A pb [] φ (comb loc σ nothing) tm w lo:=by
 have e:∀a,pb.contains a=true->comb loc σ nothing a=comb loc σ τ a:=λa ha=>by rw[comb_kept (hpb a ha),comb_kept (hpb a ha)]
 refine⟨λt h1 _=>?_,λa ha hp=>?_,λa a' g ha ha' hp hp'=>?_,λd a h=>by simp[boxOf]at h⟩
 ·cases ho:own loc t with
  |true=>rw[comb_nothing ho];exact VR.poison
  |false=>
   have hb:boxOf env t=none:=by
    cases hb:boxOf env t with
    |none=>rfl
    |some a=>rw[hown t a hb]at ho;cases ho
   have:=S.plain t h1 hb
   rw[comb_kept ho]at this ⊢
   exact this
 ·rw[e a ha]at hp ⊢;exact S.box a ha hp
 ·rw[e a ha]at hp;rw[e a' ha']at hp';exact S.apart a a' g ha ha' hp hp'
theorem region_sim{id:Nat}{ops:Array Oper}{draw:Bool}{l:List Oper}{σ:Nat->Value}{h:Heap}{st:St}{φ:Phi}{w:World}{tm:Array Value}{ds:List Deferred}
  (hmix:A.P.follows .mixedOrders=true) (hE:EqOk A) (hC:CallOk A base call) (hL:CallLen call) (hpb:∀a,pb.contains a=true->own loc a=false)
  (hn:nRegion A loc pb ops draw=some l) (hd:∀(k:Nat) (o:Oper) (d:Nat),ops[k]?=some o->o.dst=some d->d<m) (hx:execOps qzP call l ⟨σ,nothing,h⟩=some st)
  (hb:base<=lo) (hlo:lo<=w.heap.size) (htm:tm.size=m) (S:SR A pb [] φ (comb loc σ nothing) tm w lo) (H:HeapR A φ h w base) (hφ:∀b,h.length<=b->b<st.h.length->φ b=none):
  (Code.region id ops draw).wp A.P (Done A loc pb m base lo φ h w ds ⟨0,st.σ,st.h⟩) ⟨tm,ds⟩ w:=by
 obtain⟨hw,env,RO,RP⟩:=nRegion_ok hn hd
 obtain⟨Sq,Hq,V,s1,s2,s3,s4,hq⟩:=runAll_seq (execOps_runAll hw hx)
 have h0:∀d,own loc d=true->Sq 0 d=poison:=λd hd=>by rw[s1];exact comb_nothing hd
 rw[RO.len]at s3 s4
 have S0:SR A pb env φ (Sq 0) tm w lo:=by rw[s1];exact S.enter RO.own
 have fin:∀(w0:World),Ext lo φ h w φ h w0->∀(tm':Array Value) (w':World) (φ':Phi),tm'.size=m->SR A pb env φ' (Sq ops.size) tm' w' lo->HeapR A φ' (Hq ops.size) w' base->Ext lo φ (Hq 0) w0 φ' (Hq ops.size) w'->
   Done A loc pb m base lo φ h w ds ⟨0,st.σ,st.h⟩ .normal ⟨tm',ds⟩ w':=by
  intro w0 hw0 tm' w' φ' ht S' H' X'
  rw[s3]at S'
  rw[s4]at H' X'
  rw[s2]at X'
  exact⟨rfl,rfl,ht,φ',S'.leave RO.own hpb,H',hw0.trans hlo X'⟩
 cases draw with
 |false=>
  refine wp_region ?_
  rw[List.range_eq_range']
  exact region_text (Q:=Done A loc pb m base lo φ h w ds ⟨0,st.σ,st.h⟩) (ds:=ds) RO hE hC hL hq h0 (φ0:=φ) (w0:=w) hb hlo (fin w (Ext.refl _ _ _ _)) ops.size 0 (by omega) tm w φ htm S0 (by rw[s2];exact H) (Ext.refl _ _ _ _) (by rw[s2,s4];exact hφ)
 |true=>
  refine wp_region_any hmix ?_
  have Sd:SR A pb env φ (Sq 0) tm {w with drawn:=w.drawn+1} lo:=⟨S0.plain,S0.box,S0.apart,S0.into⟩
  exact region_open (Q:=Done A loc pb m base lo φ h w ds ⟨0,st.σ,st.h⟩) (ds:=ds) RO (RP rfl) hE hC hL hq h0 (φ0:=φ) (w0:={w with drawn:=w.drawn+1}) hb hlo htm Sd (by rw[s2];exact H.same_world rfl) (by rw[s2,s4];exact hφ)
   (fin _ (Ext.others (Nat.le_refl _) (λ_ _=>rfl) rfl rfl rfl))
/-! ### lengths -/
theorem execOps_len(hL:CallLen call):∀{l:List Oper} {s st:St},execOps qzP call l s=some st->s.h.length<=st.h.length
 |[],s,st,hx=>by simp only[execOps,Option.some.injEq]at hx;subst hx;exact Nat.le_refl _
 |o::r,s,st,hx=>by
  simp only[execOps]at hx
  cases h1:stepA qzP call o s with
  |none=>simp[h1]at hx
  |some s1=>
   simp only[h1]at hx
   refine Nat.le_trans ?_ (execOps_len hL hx)
   have hph:∀v h',(St.put s o.type o.dst v h').h=h':=by
    intro v h'
    cases hd:o.dst with
    |none=>rfl
    |some d=>cases ho:isOwn o.type<;>simp[St.put,ho]
   unfold stepA at h1
   split at h1
   ·simp at h1
   ·injection h1 with h1;subst h1;rw[hph];exact Nat.le_refl _
   ·split at h1
    ·split at h1
     ·rename_i hcl
      split at h1
      ·injection h1 with h1;subst h1;rw[hph];exact hL _ _ _ _ _ hcl
      ·simp at h1
     ·simp at h1
    ·split at h1
     ·rename_i hop
      split at h1
      ·injection h1 with h1;subst h1;rw[hph];exact(aOp_heap hop).1
      ·simp at h1
     ·simp at h1
theorem loopN_len{body:(Nat->Value)->Heap->Option Out}(hb:∀σ h r,body σ h=some r->h.length<=r.h.length):∀(n:Nat) (σ:Nat->Value) (h:Heap) (r:Out),loopN body n σ h=some r->h.length<=r.h.length
 |0,σ,h,r,hx=>by simp[loopN]at hx
 |n+1,σ,h,r,hx=>by
  simp only[loopN]at hx
  cases h1:body σ h with
  |none=>simp[h1]at hx
  |some x=>
   simp only[h1]at hx
   split at hx
   ·exact Nat.le_trans (hb _ _ _ h1) (loopN_len hb n _ _ _ hx)
   ·injection hx with hx;subst hx;exact hb _ _ _ h1
theorem exec_len(hL:CallLen call){n:Nat}:∀(c:Code) (σ:Nat->Value) (h:Heap) (r:Out),exec qzP call n c σ h=some r->h.length<=r.h.length:=by
 intro c
 induction c with
 |skip=>intro σ h r hx;simp only[exec,Option.some.injEq]at hx;subst hx;exact Nat.le_refl _
 |region id ops draw=>
  intro σ h r hx
  simp only[exec]at hx
  split at hx
  ·rename_i st hst
   injection hx with hx;subst hx
   exact execOps_len hL hst
  ·simp at hx
 |seq a b iha ihb=>
  intro σ h r hx
  simp only[exec]at hx
  split at hx
  ·rename_i x hxa
   split at hx
   ·exact Nat.le_trans (iha _ _ _ hxa) (ihb _ _ _ hx)
   ·injection hx with hx;subst hx;exact iha _ _ _ hxa
  ·simp at hx
 |cond c a b iha ihb=>
  intro σ h r hx
  simp only[exec]at hx
  split at hx
  ·split at hx
   ·exact iha _ _ _ hx
   ·exact ihb _ _ _ hx
  ·simp at hx
 |block id c ih=>
  intro σ h r hx
  simp only[exec]at hx
  split at hx
  ·rename_i x hxa
   have:=ih _ _ _ hxa
   split at hx
   ·injection hx with hx;subst hx;exact this
   ·injection hx with hx;subst hx;exact this
  ·simp at hx
 |loop c ih=>intro σ h r hx;simp only[exec]at hx;exact loopN_len ih n _ _ _ hx
 |exit id=>intro σ h r hx;simp only[exec,Option.some.injEq]at hx;subst hx;exact Nat.le_refl _
 |ret=>intro σ h r hx;simp only[exec,Option.some.injEq]at hx;subst hx;exact Nat.le_refl _
 |_=>intro σ h r hx;simp[exec]at hx
/-! ### code -/
theorem min_ex{p:Nat->Prop}:∀k,p k->∃j,p j∧∀i,p i->j<=i:=by
 intro k
 induction k using Nat.strongRecOn with
 |_ k ih=>
  intro hk
  by_cases h:∃j,j<k∧p j
  ·obtain⟨j,hj,hp⟩:=h;exact ih j hj hp
  ·exact⟨k,hk,λi hi=>Nat.le_of_not_lt λhlt=>h ⟨i,hlt,hi⟩⟩
open Classical in
theorem wp_loopN{P:Program}{c:Code}{Q:Exit->Act->World->Prop}(I:Nat->Act->World->Prop)(round:∀k a w,I k a w->c.wp P (Exit.then (λa' w'=>∃j,j<k∧I j a' w') Q) a w){k:Nat}{a:Act}{w:World}(h:I k a w):
  (Code.loop c).wp P Q a w:=by
 let μ:Act->World->Nat:=λa w=>if h:∃j,I j a w∧∀i,I i a w->j<=i then Classical.choose h else 0
 have hμ:∀a w k,I k a w->I (μ a w) a w∧μ a w<=k:=by
  intro a w k hk
  have hex:=min_ex (p:=λk=>I k a w) k hk
  simp only[μ,dif_pos hex]
  have:=Classical.choose_spec hex
  exact⟨this.1,this.2 k hk⟩
 refine wp_loop (λa w=>∃k,I k a w) μ ⟨k,h⟩ λa w ⟨k,hk⟩=>?_
 obtain⟨h1,_⟩:=hμ a w k hk
 refine wp_mono (round _ a w h1) λe a' w' he=>?_
 cases e with
 |normal=>
  obtain⟨j,hj,hij⟩:=he
  exact⟨⟨j,hij⟩,Nat.lt_of_le_of_lt (hμ a' w' j hij).2 hj⟩
 |_=>exact he
theorem code_sim{n:Nat}(hmix:A.P.follows .mixedOrders=true)(hE:EqOk A)(hC:CallOk A base call)(hL:CallLen call)(hpb:∀a,pb.contains a=true->own loc a=false)(hb:base<=lo):
  ∀(c c':Code),nCode A loc pb c=some c'->dstOk m c=true->∀(σ:Nat->Value) (h:Heap) (r:Out),exec qzP call n c' σ h=some r->∀(tm:Array Value) (ds:List Deferred) (w:World) (φ:Phi),lo<=w.heap.size->tm.size=m->
   SR A pb [] φ (comb loc σ nothing) tm w lo->HeapR A φ h w base->(∀b,h.length<=b->b<r.h.length->φ b=none)->c.wp A.P (Done A loc pb m base lo φ h w ds r) ⟨tm,ds⟩ w:=by
 intro c
 induction c with
 |skip=>
  intro c' hn hd σ h r hx tm ds w φ hlo htm S H hφ
  simp only[nCode,Option.some.injEq]at hn;subst hn
  simp only[exec,Option.some.injEq]at hx;subst hx
  exact wp_skip ⟨rfl,rfl,htm,φ,S,H,Ext.refl _ _ _ _⟩
 |exit id=>
  intro c' hn hd σ h r hx tm ds w φ hlo htm S H hφ
  simp only[nCode,Option.some.injEq]at hn;subst hn
  simp only[exec,Option.some.injEq]at hx;subst hx
  exact wp_exit ⟨rfl,rfl,htm,φ,S,H,Ext.refl _ _ _ _⟩
 |ret=>
  intro c' hn hd σ h r hx tm ds w φ hlo htm S H hφ
  simp only[nCode,Option.some.injEq]at hn;subst hn
  simp only[exec,Option.some.injEq]at hx;subst hx
  exact wp_ret ⟨rfl,rfl,htm,φ,S,H,Ext.refl _ _ _ _⟩
 |region id ops draw=>
  intro c' hn hd σ h r hx tm ds w φ hlo htm S H hφ
  simp only[nCode,Option.map_eq_some_iff]at hn
  obtain⟨l,hl,rfl⟩:=hn
  simp only[exec]at hx
  split at hx
  ·rename_i st hst
   injection hx with hx;subst hx
   refine region_sim hmix hE hC hL hpb hl (λk o d hk ho=>?_) hst hb hlo htm S H hφ
   simp only[dstOk,List.all_eq_true]at hd
   have:=hd o (List.mem_of_getElem? (by simpa using hk:ops.toList[k]?=some o))
   simpa [ho]using this
  ·simp at hx
 |seq x y ihx ihy=>
  intro c' hn hd σ h r hx tm ds w φ hlo htm S H hφ
  simp only[nCode]at hn
  split at hn
  ·rename_i x' y' hx' hy'
   injection hn with hn;subst hn
   simp only[dstOk,Bool.and_eq_true]at hd
   simp only[exec]at hx
   split at hx
   ·rename_i q hq
    have hlen:q.h.length<=r.h.length:=by
     split at hx
     ·exact exec_len hL _ _ _ _ hx
     ·injection hx with hx;subst hx;exact Nat.le_refl _
    refine wp_seq (wp_mono (ihx x' hx' hd.1 σ h q hq tm ds w φ hlo htm S H λb h1 h2=>hφ b h1 (by omega)) λe a w' hdone=>?_)
    obtain⟨he,hds,ht,φ',S',H',X'⟩:=hdone
    split at hx
    ·rename_i h0
     cases e with
     |normal=>
      obtain⟨atm,ads⟩:=a
      simp only at hds ht
      subst hds
      refine wp_mono (ihy y' hy' hd.2 q.σ q.h r hx atm ads w' φ' (Nat.le_trans hlo X'.size) ht S' H' λb h1 h2=>?_) λe a w'' hdone=>?_
      ·rw[X'.same b (.inr h1)];exact hφ b (Nat.le_trans X'.len h1) h2
      ·obtain⟨he,hds,ht,φ'',S'',H'',X''⟩:=hdone
       exact⟨he,hds,ht,φ'',S'',H'',X'.trans hlo X''⟩
     |exit id=>simp only[ends]at he;omega
     |ret=>simp only[ends]at he;omega
     |goto l=>exact he.elim
     |panic ch=>exact he.elim
     |outgrown=>exact he.elim
    ·rename_i h0
     injection hx with hx;subst hx
     cases e with
     |normal=>exact absurd he h0
     |_=>exact⟨he,hds,ht,φ',S',H',X'⟩
   ·simp at hx
  ·simp at hn
 |cond cnd x y ihx ihy=>
  intro c' hn hd σ h r hx tm ds w φ hlo htm S H hφ
  simp only[nCode]at hn
  split at hn
  ·rename_i cnd' x' y' hc' hx' hy'
   injection hn with hn;subst hn
   simp only[dstOk,Bool.and_eq_true]at hd
   simp only[exec]at hx
   split at hx
   ·rename_i p hp
    have hr:=nOperand_rel (a:=⟨tm,ds⟩) S hc'
    have hev:evs (comb loc σ nothing) cnd'=.bool p:=by
     cases cnd' with
     |tmp t=>
      have ho:own loc t=false:=by
       unfold nOperand at hc'
       split at hc'
       ·split at hc'
        ·simp at hc'
        ·injection hc' with hc'
         split at hc'
         ·cases hc'
         ·rename_i ho;injection hc' with hc';subst hc';simpa using ho
       ·simp at hc'
       ·simp at hc'
       ·simp at hc'
      simp only[evs,comb_kept ho];exact hp
     |global t=>simp[ev,nothing]at hp
     |const v=>exact hp
     |func f=>simp[ev]at hp
    rw[hev]at hr
    have hb':=VR.bool_inv hr
    refine wp_cond hb' ?_
    cases p with
    |true=>exact ihx x' hx' hd.1 σ h r (by simpa using hx) tm ds w φ hlo htm S H hφ
    |false=>exact ihy y' hy' hd.2 σ h r (by simpa using hx) tm ds w φ hlo htm S H hφ
   ·simp at hx
  ·simp at hn
 |block id x ih=>
  intro c' hn hd σ h r hx tm ds w φ hlo htm S H hφ
  simp only[nCode,Option.map_eq_some_iff]at hn
  obtain⟨x',hx',rfl⟩:=hn
  simp only[exec]at hx
  split at hx
  ·rename_i q hq
   have hqr:q.h=r.h∧q.σ=r.σ∧r.e=(if q.e=id+2 then 0 else q.e):=by
    split at hx
    ·rename_i he;injection hx with hx;subst hx;exact⟨rfl,rfl,by rw[if_pos he]⟩
    ·rename_i he;injection hx with hx;subst hx;exact⟨rfl,rfl,by rw[if_neg he]⟩
   obtain⟨q1,q2,q3⟩:=hqr
   refine wp_block (wp_mono (ih x' hx' (by simpa [dstOk]using hd) σ h q hq tm ds w φ hlo htm S H (by rw[q1];exact hφ)) λe a w' hdone=>?_)
   obtain⟨he,hds,ht,φ',S',H',X'⟩:=hdone
   rw[q1]at H' X'
   rw[q2]at S'
   cases e with
   |exit id'=>
    simp only[ends]at he
    simp only[Exit.inBlock]
    split
    ·rename_i hid;subst hid
     exact⟨by simp only[ends];rw[q3,if_pos he],hds,ht,φ',S',H',X'⟩
    ·rename_i hid
     exact⟨by simp only[ends];rw[q3,if_neg (by omega)];exact he,hds,ht,φ',S',H',X'⟩
   |normal=>simp only[ends]at he;exact⟨by simp only[ends];rw[q3,if_neg (by omega)];exact he,hds,ht,φ',S',H',X'⟩
   |ret=>simp only[ends]at he;exact⟨by simp only[ends];rw[q3,if_neg (by omega)];exact he,hds,ht,φ',S',H',X'⟩
   |_=>exact he.elim
  ·simp at hx
 |loop x ih=>
  intro c' hn hd σ h r hx tm ds w φ hlo htm S H hφ
  simp only[nCode,Option.map_eq_some_iff]at hn
  obtain⟨x',hx',rfl⟩:=hn
  simp only[exec]at hx
  refine wp_loopN (λk a w1=>a.defers=ds∧a.tmps.size=m∧∃σ1 h1 φ1,loopN (exec qzP call n x') k σ1 h1=some r∧SR A pb [] φ1 (comb loc σ1 nothing) a.tmps w1 lo∧HeapR A φ1 h1 w1 base∧Ext lo φ h w φ1 h1 w1) ?_
   (k:=n) (a:=⟨tm,ds⟩) ⟨rfl,htm,σ,h,φ,hx,S,H,Ext.refl _ _ _ _⟩
  rintro k a w1⟨hds,ht,σ1,h1,φ1,hk,S1,H1,X1⟩
  obtain⟨atm,ads⟩:=a
  simp only at hds ht S1
  subst hds
  cases k with
  |zero=>simp[loopN]at hk
  |succ k=>
   simp only[loopN]at hk
   split at hk
   ·rename_i q hq
    have hlen:q.h.length<=r.h.length:=by
     split at hk
     ·exact loopN_len (λσ h r hh=>exec_len hL _ _ _ _ hh) k _ _ _ hk
     ·injection hk with hk;subst hk;exact Nat.le_refl _
    refine wp_mono (ih x' hx' (by simpa [dstOk]using hd) σ1 h1 q hq atm ads w1 φ1 (Nat.le_trans hlo X1.size) ht S1 H1 λb g1 g2=>?_) λe a w2 hdone=>?_
    ·rw[X1.same b (.inr g1)];exact hφ b (Nat.le_trans X1.len g1) (by omega)
    ·obtain⟨he,hds,ht2,φ2,S2,H2,X2⟩:=hdone
     have X12:=X1.trans hlo X2
     split at hk
     ·rename_i h0
      cases e with
      |normal=>exact⟨k,by omega,hds,ht2,q.σ,q.h,φ2,hk,S2,H2,X12⟩
      |exit id=>simp only[ends]at he;omega
      |ret=>simp only[ends]at he;omega
      |goto l=>exact he.elim
      |panic ch=>exact he.elim
      |outgrown=>exact he.elim
     ·rename_i h0
      injection hk with hk;subst hk
      cases e with
      |normal=>exact absurd he h0
      |_=>exact⟨he,hds,ht2,φ2,S2,H2,X12⟩
   ·simp at hk
 |_=>intro c' hn;simp[nCode]at hn
end
end Am

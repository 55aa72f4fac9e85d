/- From a law's answer in 'Am' to the answer that its statement asks for. -/
import Derived.Test.YtpgioncclmancaaGreatAmLink
import Derived.Below
import Derived.ChangeSame
import Derived.ProofKit
set_option linter.unusedVariables false
set_option linter.unusedSimpArgs false
namespace Am
open Go Go.RowKit
section
variable {A : Seat} {Γ : Nat -> Option AFun}
/-- A law that answers true in 'Am' over memory that it may not write answers true in the model and leaves what was there. -/
theorem law_calls{f g:Nat}{args us:List Value}{h:Heap}{φ:Phi}{w:World}(hmix:A.P.follows .mixedOrders=true)(hE:EqOk A)(hlink:∀base,Link A base Γ)(hg:nFn A g=some f)(x:ACall Γ f args h λv _=>v=.bool true)
  (H:HeapR A φ h w w.heap.size) (hro:∀(b:Nat) (k:Blk),h[b]?=some k->k.rw=false) (hφ:∀b,h.length<=b->φ b=none) (hargs:All2 (VR A φ) args us):
  Calls A.P g us.toArray w λe w'=>e=.returned (.bool true)∧Below w.heap.size w w':=by
 refine Calls.mono (ACall_sim hmix hE (hlink _) hg x H (Nat.le_refl _) hφ hargs) ?_
 rintro e w'⟨u,φ',v,h',rfl,rfl,hv,_,hX⟩
 have:=VR.bool_inv hv
 subst this
 exact⟨rfl,hX.os,hX.tape,hX.output,hX.size,λk hk=>hX.frame k hk λb l kk _ h2 h3=>by rw[hro b kk h2]at h3;cases h3⟩
/-- No memory among the arguments. -/
def flat:Heap:=[⟨[],false⟩]
theorem flat_rel(w:World):HeapR A (λ_=>none) flat w w.heap.size:=
 ⟨by simp[flat],λ_ _ h=>(by cases h),λ_ _ _ h=>(by cases h),λ_ _ _ h=>(by cases h),λ_ _ _ _ _ _ h=>(by cases h),λ_ _ _ h=>(by cases h)⟩
theorem flat_ro:∀(b:Nat) (k:Blk),flat[b]?=some k->k.rw=false:=by
 intro b k h
 cases b with
 |zero=>simp[flat]at h;subst h;rfl
 |succ b=>simp[flat]at h
theorem law_flat{f g:Nat}{args us:List Value}{w:World}(hmix:A.P.follows .mixedOrders=true)(hE:EqOk A)(hlink:∀base,Link A base Γ)(hg:nFn A g=some f)(x:ACall Γ f args flat λv _=>v=.bool true)
  (hargs:All2 (VR A λ_=>none) args us):Calls A.P g us.toArray w λe w'=>e=.returned (.bool true)∧Below w.heap.size w w':=
 law_calls hmix hE hlink hg x (flat_rel w) flat_ro (λ_ _=>rfl) hargs
theorem S_data(s:ByteArray):S s.data.toList=.string s:=by cases s;simp
end
section post
open Go.WideShapes Go.ChangeShapes
variable {H : Type} {enc : TypeId × Value -> H} {P : Program}
theorem post_of_below{f:Func}{s:ChangeSpec}{apart fresh handsOn again:Bool}{W W':World}{args:Array Value}{v:Value}{ds gs:List (DataW H)}{before pa pv:List MemPlace}
  (hW:DataW.Whole enc P f.params.toList s.vars apart W args.toList ds gs before)
  (hres:∀(b:Nat) (sp:Nat->Bool) (hd:Bool),DataW.TrodAll enc P W' b sp hd f.resultTypes.toList (v.resultList f.resultTypes.size) (s.fn H (ds++gs)).results [])
  (hargs:∀sp:Nat->Bool,(∀p∈before,sp p.block=true)->DataW.TrodAll enc P W' 0 sp true f.params.toList args.toList (s.fn H (ds++gs)).args pa)
  (hvars:∀sp:Nat->Bool,(∀p∈before,sp p.block=true)->DataW.TrodVars enc P W' sp s.vars (s.fn H (ds++gs)).vars pv)
  (hps:before=pa++pv) (hb:Below W.heap.size W W')
  (hok:∀(j:Nat) (t:TypeId) (r:Value),f.resultTypes[j]?=some t->(v.resultList f.resultTypes.size)[j]?=some r->Value.okWide P W' .any 0 t r):
  s.post enc P f apart fresh handsOn again W args v W':=by
 have hlt:∀p∈before,p.block<W.heap.size:=λp hp=>hW.lt p hp
 have hold:∀p∈before,(λb=>decide (b<W.heap.size)) p.block=true:=λp hp=>by simpa using hlt p hp
 refine⟨ds,gs,before,[],pa,pv,hW,hres _ _ _,hargs _ hold,hvars _ hold,World.keptBut_mono (λp hp=>⟨hp,?_⟩) (hb.frame (·∈before)),λ_=>?_⟩
 ·rw[hps,List.mem_append]at hp
  exact Or.inr hp
 ·obtain⟨_,_,_,_,_,hz,hn⟩:=hW
  refine⟨hok,_,_,([]++pa)++pv,⟨[]++pa,pv,trodAll_append (hargs _ (λ_ _=>rfl)) (hres _ _ _),hvars _ (λ_ _=>rfl),rfl,?_,?_⟩,?_⟩
  ·intro b off hp
   have hin:MemPlace.cell b off∈before:=by rw[hps];simpa using hp
   rw[hb.frozen (hlt _ hin)]
   exact hz b off hin
  ·intro ha
   have:=hn ha
   rw[hps]at this
   simpa using this
  ·intro p hp _
   rw[hps]
   simpa using hp
end post
end Am

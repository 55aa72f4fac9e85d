/- Contracts of functions. -/
import Derived.Test.YtpgioncclmancaaGreatPK23
set_option linter.unusedVariables false
set_option linter.unusedSimpArgs false
set_option maxHeartbeats 4000000
set_option maxRecDepth 40000
namespace Am
open Go
theorem Y6:∀(L:List (List UInt8)),L.length+(L.map λy=>y.length).sum=(ja L).length
 |[]=>rfl
 |a::r=>by
  have ih:=Y6 r;have e:ja (a::r)=(a++[10])++ja r:=by simp[ja]
  rw[e];simp only[af,az,aF,bX,afj];omega
theorem aia(J:de)(s:List UInt8):hI ba (fW J s).1<=16777216∧hI lD (fW J s).2.1<=16777216:=by
 by_cases h:(fW J s).2.2=0
 ·have h1:=Um h;have d:=Cq (GJ h).2;have c:hI lD (fW J s).2.1=(fW J s).2.1.length+((fW J s).2.1.map λy=>y.length).sum:=rfl;rw[c,Y6];omega
 ·have:(fW J s).1=oC∧(fW J s).2.1=[]:=by
   unfold fW at h ⊢;by_cases a:gK J=true
   ·rw[if_pos a]at h ⊢;by_cases b:fA (pV s)=(fF 32 s).length
    ·rw[if_pos b]at h;split at h
     ·exact absurd rfl h
     ·exact absurd rfl h
    ·rw[if_neg b];exact⟨rfl,rfl⟩
   ·rw[if_neg a];exact⟨rfl,rfl⟩
  rw[this.1,this.2,yO];exact⟨iE _,iE _⟩
end Am

/- The contract of the law FnExactRunDesk; written by a program (lawgen.py). -/
import Derived.Test.YtpgioncclmancaaGreatPK23
set_option linter.unusedVariables false
set_option linter.unusedSimpArgs false
set_option maxRecDepth 20000
set_option maxHeartbeats 2000000
namespace Am
open Go
theorem ar1(h:a9)(vs:List Value)(hp:0<h.length)(b:cM (Dx h) [.str] vs):aN aE 239 vs h λv _=>v=.bool true:=by
 obtain⟨v0,f,rfl,b0,b⟩:=I6 b;obtain rfl:=Tw b;obtain⟨a,rfl,e⟩:=b0.str;have G:ae h h:=ae.refl h;refine afq ?_
 try simp(maxSteps:=10000000) (disch:=omega)
 refine aG (λd=>?_) (λd=>?_)
 ·simp(maxSteps:=10000000)
 have c:a.length<=1048576:=by omega
 try simp(maxSteps:=10000000) (disch:=omega)
 refine aQ (aC0 _ (aL hp G) a c) ?_;rintro w h1⟨g1,rfl⟩;have l1:=g1.le;refine⟨λ_=>g1,?_⟩;have G:=G.trans g1
 try simp(maxSteps:=10000000) (disch:=omega)
 refine aQ (aB8 _ (aL hp G) a c) ?_;rintro g i⟨g2,rfl⟩;have l2:=g2.le;refine⟨λ_=>g2,?_⟩;have G:=G.trans g2
 try simp(maxSteps:=10000000) (disch:=omega)
end Am

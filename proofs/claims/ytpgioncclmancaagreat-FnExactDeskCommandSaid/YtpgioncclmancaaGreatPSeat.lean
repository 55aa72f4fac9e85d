/- Where the seat's program has these functions. -/
import Derived.Test.YtpgioncclmancaaGreatPTab
import Derived.KernelRfl
import Derived.Test.YtpgioncclmancaaGreatPWalk
set_option linter.unusedVariables false
set_option maxRecDepth 1000000
namespace Am
open Go Go.Proofs
theorem pk{r:Place}(h:(Af.P.funcs[r.g]?).bind (MP Af r.loc r.pb)=some r.F:=by kernel_rfl):PN Af r:=by obtain⟨f,a,b⟩:=gl.1 h;exact .inl ⟨f,a,b⟩
theorem ans:∀base,GA Af base 218 abc:=SQ (A:=Af) (ts:=29) (ti:=3) (e:=87) (z:=3) (zc:=[I 0,I 0,I 0]) (ki:=.i64) (by kernel_rfl) (by kernel_rfl) (by kernel_rfl) (by kernel_rfl) rfl (by kernel_rfl) (enters_of Tryz.func218 (by kernel_rfl) (by kernel_rfl)) anO
theorem anr:∀base,GA Af base 219 abb:=SO (A:=Af) (ts:=29) (e:=87) (z:=3) (zc:=[I 0,I 0,I 0]) (by kernel_rfl) (by kernel_rfl) (by kernel_rfl) rfl (enters_of Tryz.func219 (by kernel_rfl) (by kernel_rfl)) anN
theorem aei{α:Type}{p:α->Prop}:∀{a b:List α},Forall p a->Forall p b->Forall p (a++b)
  |[],_,_,y=>y
  |_::_,_,h,y=>⟨h.1,aei h.2 y⟩
theorem apy:Forall (PN Af) ahk:=⟨pk,pk,pk,pk,pk,pk,pk,pk,pk,pk,pk,pk,pk,pk,pk,pk,trivial⟩
theorem apz:Forall (PN Af) ahn:=⟨pk,pk,pk,pk,pk,pk,pk,pk,pk,pk,pk,pk,pk,pk,pk,pk,trivial⟩
theorem apA:Forall (PN Af) aho:=⟨pk,pk,pk,pk,pk,pk,pk,pk,pk,pk,pk,pk,pk,pk,pk,pk,trivial⟩
theorem apB:Forall (PN Af) ahp:=⟨pk,pk,pk,pk,pk,pk,pk,pk,pk,pk,pk,pk,pk,pk,pk,pk,trivial⟩
theorem apC:Forall (PN Af) ahr:=⟨pk,pk,pk,pk,pk,pk,pk,pk,pk,pk,pk,pk,pk,pk,pk,pk,trivial⟩
theorem apD:Forall (PN Af) ahs:=⟨pk,pk,pk,pk,pk,pk,pk,pk,pk,pk,pk,pk,pk,pk,pk,pk,trivial⟩
theorem apE:Forall (PN Af) akh:=⟨pk,pk,pk,pk,pk,pk,pk,pk,pk,pk,pk,pk,pk,pk,pk,pk,trivial⟩
theorem apG:Forall (PN Af) akk:=⟨pk,pk,pk,pk,pk,pk,pk,pk,pk,pk,pk,pk,pk,pk,pk,pk,trivial⟩
theorem apH:Forall (PN Af) akm:=⟨pk,pk,pk,pk,pk,pk,pk,pk,pk,pk,pk,pk,pk,pk,pk,pk,trivial⟩
theorem apI:Forall (PN Af) akS:=⟨pk,pk,pk,pk,pk,pk,pk,pk,pk,pk,pk,pk,pk,pk,pk,pk,trivial⟩
theorem ala:Forall (PN Af) aej:=⟨pk,pk,pk,pk,pk,pk,pk,pk,pk,pk,pk,pk,pk,pk,pk,pk,trivial⟩
theorem alb:Forall (PN Af) aek:=⟨pk,pk,pk,pk,pk,pk,pk,pk,pk,pk,pk,pk,pk,pk,pk,pk,trivial⟩
theorem alc:Forall (PN Af) ael:=⟨pk,pk,pk,pk,pk,pk,pk,pk,pk,pk,pk,pk,pk,.inr ans,.inr anr,pk,trivial⟩
theorem ald:Forall (PN Af) aeq:=⟨pk,pk,pk,pk,pk,pk,pk,pk,pk,pk,pk,pk,pk,pk,pk,pk,trivial⟩
theorem ale:Forall (PN Af) aeC:=⟨pk,pk,pk,pk,pk,pk,pk,pk,pk,pk,pk,pk,pk,pk,pk,pk,trivial⟩
theorem alf:Forall (PN Af) aeD:=⟨pk,pk,pk,pk,pk,pk,pk,pk,pk,pk,pk,pk,pk,pk,pk,pk,trivial⟩
theorem alg:Forall (PN Af) aeF:=⟨pk,pk,pk,pk,pk,pk,pk,pk,pk,pk,pk,pk,trivial⟩
theorem Sl{base:Nat}:I2 Af base aE:=am8 (by kernel_rfl) (aei apy (aei apz (aei apA (aei apB (aei apC (aei apD (aei apE (aei apG (aei apH (aei apI (aei ala (aei alb (aei alc (aei ald (aei ale (aei alf alg))))))))))))))))
theorem Wn:Af.P.follows .mixedOrders=true:=by kernel_rfl
theorem Y0:kV Af:=amY (by kernel_rfl) (by kernel_rfl)
end Am

/- Tables of functions; their link to a program. -/
import Derived.Test.YtpgioncclmancaaGreatAmFun
set_option linter.unusedVariables false
set_option linter.unusedSimpArgs false
namespace Am
open Go
/-- Where a program has it: the function's number there, its lasting number, the slots of regions alone, the boxes. -/
structure Place where
 g:Nat
 f:Nat
 F:AFun
 loc:List Nat
 pb:List Nat
def Forall{α:Type}(p:α->Prop):List α->Prop
 |[]=>True
 |a::l=>p a∧Forall p l
theorem Forall.mem{α:Type}{p:α->Prop}:∀{l:List α},Forall p l->∀a∈l,p a
 |b::l,h,a,ha=>by
  cases ha with
  |head=>exact h.1
  |tail _ h'=>exact h.2.mem a h'
def PlaceOk(A:Seat)(r:Place):Prop:=(∃fn,A.P.funcs[r.g]?=some fn∧nFun A r.loc r.pb fn=some r.F)∨∀base,PrimOk A base r.g r.F
def tabOf:List Place->Tab
 |[]=>[]
 |r::l=>(r.f,r.F)::tabOf l
/-- Each function with a lasting number that the table has stands in the table at its place. -/
def placed(ν:List Nat)(rows:List Place):Bool:=ν.zipIdx.all λ(n,g)=>match n with
 |0=>true
 |f+1=>match rows.find? (·.f==f)with
  |some r=>r.g==g
  |none=>true
theorem look_tabOf:∀{rows:List Place} {f:Nat} {F:AFun},look (tabOf rows) f=some F->∃r,rows.find? (·.f==f)=some r∧r.F=F∧r∈rows
 |[],f,F,h=>by simp[tabOf,look]at h
 |r::l,f,F,h=>by
  simp only[tabOf,look]at h
  by_cases hf:r.f=f
  ·rw[if_pos hf]at h
   injection h with h
   exact⟨r,by simp[List.find?_cons,hf],h,by simp⟩
  ·rw[if_neg hf]at h
   obtain⟨q,h1,h2,h3⟩:=look_tabOf h
   exact⟨q,by simp[List.find?_cons,hf,h1],h2,by simp[h3]⟩
theorem link_of{A:Seat}{base:Nat}{rows:List Place}(hp:placed A.ν rows=true)(hr:Forall (PlaceOk A) rows):Link A base (look (tabOf rows)):=by
 intro f F g hF hg
 obtain⟨r,h1,rfl,h3⟩:=look_tabOf hF
 unfold nFn at hg
 split at hg
 ·rename_i n hn
  injection hg with hg;subst hg
  have:=zipIdx_all hp g (n+1) hn
  simp only[h1,beq_iff_eq]at this
  rcases hr.mem r h3 with⟨fn,h4,h5⟩|h4
  ·rw[this]at h4
   exact .inl ⟨fn,r.loc,r.pb,h4,h5⟩
  ·rw[this]at h4
   exact .inr (h4 base)
 ·simp at hg
theorem look_mem:∀{T:Tab} {f:Nat} {F:AFun},look T f=some F->(f,F)∈T
 |[],f,F,h=>by simp[look]at h
 |(k,G)::l,f,F,h=>by
  simp only[look]at h
  by_cases hf:k=f
  ·rw[if_pos hf]at h
   injection h with h
   subst hf;subst h;simp
  ·rw[if_neg hf]at h
   exact List.mem_cons_of_mem _ (look_mem h)
/-- A table that may hold more than the program has. -/
theorem link_sub{A:Seat}{base:Nat}{rows:List Place}{T:Tab}(hp:placed A.ν rows=true)(hr:Forall (PlaceOk A) rows)(ht:Forall (λr=>look T r.f=some r.F) rows)
  (hs:(T.all λp=>(rows.any λr=>r.f==p.1)||!(A.ν.contains (p.1+1)))=true):Link A base (look T):=by
 intro f F g hF hg
 have hg0:=hg
 unfold nFn at hg
 split at hg
 ·rename_i n hn
  injection hg with hg;subst hg
  have hm:=List.all_eq_true.1 hs _ (look_mem hF)
  have hin:A.ν.contains (n+1)=true:=by
   rw[List.contains_iff_mem]
   exact List.mem_of_getElem? hn
  simp only[hin,Bool.not_true,Bool.or_false,List.any_eq_true,beq_iff_eq]at hm
  obtain⟨r,hr1,hr2⟩:=hm
  have h1:=ht.mem r hr1
  rw[hr2,hF]at h1
  injection h1 with h1
  have h2:=zipIdx_all hp g (n+1) hn
  cases hfd:rows.find? (·.f==n)with
  |none=>
   have:=List.find?_eq_none.1 hfd r hr1
   simp[hr2]at this
  |some q=>
   simp only[hfd,beq_iff_eq]at h2
   have hq:=List.mem_of_find?_eq_some hfd
   have hqf:=List.find?_some hfd
   simp only[beq_iff_eq]at hqf
   have h3:=ht.mem q hq
   rw[hqf,hF]at h3
   injection h3 with h3
   rcases hr.mem q hq with⟨fn,h4,h5⟩|h4
   ·rw[h2]at h4
    exact .inl ⟨fn,q.loc,q.pb,h4,by rw[h3];exact h5⟩
   ·rw[h2,<-h3]at h4
    exact .inr (h4 base)
 ·simp at hg
theorem eqOk_nil{P:Program}{ν:List Nat}:EqOk ⟨P,ν,[]⟩:=λt h=>by simp at h
end Am

/- '==' on structs whose fields are numbers. -/
import Derived.Test.YtpgioncclmancaaGreatAmLink
import Derived.Laws.StructEq
set_option linter.unusedVariables false
set_option linter.unusedSimpArgs false
namespace Am
open Go
def flatFields(P:Program):List Field->Nat->Bool
 |[],_=>true
 |f::r,i=>f.name != "_" &&(f.offset==i&&((match P.underlying f.type with|some (.int _)=>true|_=>false)&&flatFields P r (i+1)))
def szP(P:Program)(t:TypeId):Option Nat:=(P.info? t).map (·.size)
/-- Fields that are numbers, or structs of numbers; the place behind them. -/
def nestFields(P:Program):List Field->Nat->Option Nat
 |[],i=>some i
 |f::r,i=>if f.name != "_" &&f.offset==i then
   (match P.underlying f.type with
   |some (.int _)=>nestFields P r (i+1)
   |some (.struct fs)=>if flatFields P fs.toList 0&&(!P.stoodInHeld f.type&&szP P f.type==some fs.size)then nestFields P r (i+fs.size)else none
   |_=>none)else none
def flatEq(P:Program)(t:TypeId):Bool:=match P.underlying t with
 |some (.struct fs)=>(nestFields P fs.toList 0).isSome&&(!P.stoodInHeld t&&!P.eqGuardType P.depth t)
 |_=>false
section
variable {P : Program}
theorem toList_data(s:ByteArray):s.toList=s.data.toList:=ByteArray.toList_eq s
theorem eqFields_flat(d:Nat)(xs ys:Array Value)(w:World):∀(fs:List Field) (i:Nat) (r:Bool),flatFields P fs i=true->eqCells (xs.toList.drop i) (ys.toList.drop i)=some r->xs.size=i+fs.length->
  (Op.eqFields (d+1) xs ys fs).run P w=.ok r w
 |[],i,r,_,he,hs=>by
  have e1:xs.toList.drop i=[]:=List.drop_eq_nil_of_le (by simp at hs ⊢;omega)
  rw[e1]at he
  cases hy:ys.toList.drop i with
  |nil=>rw[hy]at he;simp[eqCells]at he;subst he;simp[Op.eqFields]
  |cons y l=>rw[hy]at he;simp[eqCells]at he
 |f::fs,i,r,hf,he,hs=>by
  simp only[flatFields,Bool.and_eq_true,bne_iff_ne,ne_eq,beq_iff_eq]at hf
  obtain⟨hn,ho,hk,hr⟩:=hf
  have hi:i<xs.toList.length:=by simp at hs ⊢;omega
  rw[List.drop_eq_getElem_cons hi]at he
  cases hy:ys.toList.drop i with
  |nil=>rw[hy]at he;cases hv:xs.toList[i]<;>rw[hv]at he<;>simp[eqCells]at he
  |cons y l=>
   have hil:i<ys.toList.length:=by
    by_cases h:i<ys.toList.length
    ·exact h
    ·rw[List.drop_eq_nil_of_le (by omega)]at hy;cases hy
   rw[List.drop_eq_getElem_cons hil]at hy
   injection hy with hy1 hy2
   rw[<-hy1]at*
   subst hy2
   have hx?:xs[f.offset]?=some (xs.toList[i]):=by rw[ho];simp at hi;simp[hi]
   have hy?:ys[f.offset]?=some (ys.toList[i]):=by rw[ho];simp at hil;simp[hil]
   rw[List.drop_eq_getElem_cons hil]at he
   unfold Op.eqFields
   rw[if_pos hn]
   cases hu:P.underlying f.type with
   |none=>simp[hu]at hk
   |some k=>
    cases k with
    |int kd=>
     unfold eqCells at he
     split at he
     ·rename_i hA hB;simp at hA
     ·rename_i kk a x jj b' y' hA hB
      injection hA with hA1 hA2
      injection hB with hB1 hB2
      subst hA2;subst hB2
      split at he
      ·rename_i hkj
       subst hkj
       cases hq:eqCells (xs.toList.drop (i+1)) (ys.toList.drop (i+1))with
       |none=>simp[hq]at he
       |some r'=>
        simp only[hq,Option.map_some,Option.some.injEq]at he
        have ih:=eqFields_flat d xs ys w fs (i+1) r' hr hq (by simp at hs;omega)
        have pa:(part f.type xs f.offset).run P w=.ok xs.toList[i] w:=by simp[part,isAgg,run_underlying hu,hx?]
        have pb:(part f.type ys f.offset).run P w=.ok ys.toList[i] w:=by simp[part,isAgg,run_underlying hu,hy?]
        have pe:(Op.equalIn (d+1) f.type xs.toList[i] ys.toList[i]).run P w=.ok (a==b') w:=by
         rw[hA1,hB1];exact run_equalIn_int w d f.type kk kd a b' hu
        simp only[Sem.run_bind,pa,pb,pe,Result.andThen_ok]
        by_cases hab:a=b'
        ·subst hab
         simp only[beq_self_eq_true,Bool.not_true,Bool.false_eq_true,if_false]
         rw[ih,<-he];simp
        ·have:(a==b')=false:=by simp[hab]
         rw[this]
         simp[<-he,hab]
      ·simp at he
     ·simp at he
    |_=>simp[hu]at hk
theorem run_szP{t:TypeId}{n:Nat}(h:szP P t=some n)(w:World):(Go.sizeOf t).run P w=.ok n w:=by
 unfold szP at h
 cases hi:P.info? t with
 |none=>simp[hi]at h
 |some i=>simp[hi]at h;subst h;simp[Go.sizeOf,typeInfo,hi]
theorem eqCells_split:∀(n:Nat) (l m:List Value) (r:Bool),eqCells l m=some r->n<=l.length->∃r1 r2,eqCells (l.take n) (m.take n)=some r1∧eqCells (l.drop n) (m.drop n)=some r2∧r=(r1&&r2)∧n<=m.length
 |0,l,m,r,h,_=>⟨true,r,by simp[eqCells],by simpa using h,by simp,by omega⟩
 |n+1,[],m,r,h,hn=>by simp at hn
 |n+1,x::l,[],r,h,hn=>by cases x<;>simp[eqCells]at h
 |n+1,x::l,y::m,r,h,hn=>by
  cases x<;>cases y<;>first|(simp[eqCells]at h;done)|skip
  rename_i k a j b
  simp only[eqCells]at h
  split at h
  ·rename_i hkj
   subst hkj
   cases hq:eqCells l m with
   |none=>simp[hq]at h
   |some r'=>
    simp only[hq,Option.map_some,Option.some.injEq]at h
    obtain⟨r1,r2,e1,e2,e3,e4⟩:=eqCells_split n l m r' hq (by simpa using hn)
    refine⟨decide (a=b)&&r1,r2,?_,by simpa using e2,by rw[<-h,e3,Bool.and_assoc],by simp;omega⟩
    simp only[List.take_succ_cons,eqCells,if_true,e1,Option.map_some]
  ·simp at h
theorem nest_le:∀(fs:List Field) (i n:Nat),nestFields P fs i=some n->i<=n
 |[],i,n,h=>by simp[nestFields]at h;omega
 |f::fs,i,n,h=>by
  simp only[nestFields]at h
  split at h
  ·split at h
   ·have:=nest_le fs _ _ h;omega
   ·split at h
    ·have:=nest_le fs _ _ h;omega
    ·cases h
   ·cases h
  ·cases h
theorem eqFields_nest(d:Nat)(xs ys:Array Value)(w:World):∀(fs:List Field) (i n:Nat) (r:Bool),nestFields P fs i=some n->eqCells (xs.toList.drop i) (ys.toList.drop i)=some r->xs.size=n->
  (Op.eqFields (d+2) xs ys fs).run P w=.ok r w
 |[],i,n,r,hf,he,hs=>by
  simp only[nestFields,Option.some.injEq]at hf
  have e1:xs.toList.drop i=[]:=List.drop_eq_nil_of_le (by simp;omega)
  rw[e1]at he
  cases hy:ys.toList.drop i with
  |nil=>rw[hy]at he;simp[eqCells]at he;subst he;simp[Op.eqFields]
  |cons y l=>rw[hy]at he;simp[eqCells]at he
 |f::fs,i,n,r,hf,he,hs=>by
  simp only[nestFields]at hf
  split at hf
  ·rename_i hno
   simp only[Bool.and_eq_true,bne_iff_ne,ne_eq,beq_iff_eq]at hno
   obtain⟨hn,ho⟩:=hno
   unfold Op.eqFields
   rw[if_pos hn]
   split at hf
   ·rename_i kd hu
    have hle:=nest_le _ _ _ hf
    obtain⟨r1,r2,e1,e2,e3,e4⟩:=eqCells_split 1 _ _ r he (by simp;omega)
    have hi:i<xs.toList.length:=by simp;omega
    have hil:i<ys.toList.length:=by simp at e4 ⊢;omega
    rw[List.drop_eq_getElem_cons hi,List.drop_eq_getElem_cons hil]at e1
    rw[List.drop_drop,List.drop_drop]at e2
    simp only[List.take_succ_cons,List.take_zero]at e1
    have hx?:xs[f.offset]?=some (xs.toList[i]):=by rw[ho];simp at hi;simp[hi]
    have hy?:ys[f.offset]?=some (ys.toList[i]):=by rw[ho];simp at hil;simp[hil]
    have pa:(part f.type xs f.offset).run P w=.ok xs.toList[i] w:=by simp[part,isAgg,run_underlying hu,hx?]
    have pb:(part f.type ys f.offset).run P w=.ok ys.toList[i] w:=by simp[part,isAgg,run_underlying hu,hy?]
    have pe:(Op.equalIn (d+2) f.type xs.toList[i] ys.toList[i]).run P w=.ok r1 w:=by
     unfold eqCells at e1
     split at e1
     ·rename_i hA hB;simp at hA
     ·rename_i kk a x' jj b' y' hA hB
      injection hA with hA1 hA2
      injection hB with hB1 hB2
      subst hA2;subst hB2
      split at e1
      ·simp[eqCells]at e1
       rename_i hkj
       subst hkj
       rw[hA1,hB1,run_equalIn_int w (d+1) f.type kk kd a b' hu,<-e1]
       congr 1
      ·simp at e1
     ·simp at e1
    have ih:=eqFields_nest d xs ys w fs (i+1) n r2 hf e2 hs
    simp only[Sem.run_bind,pa,pb,pe,Result.andThen_ok]
    cases r1
    ·simp[e3]
    ·simp only[Bool.not_true,Bool.false_eq_true,if_false]
     rw[ih,e3];simp
   ·rename_i fs2 hu
    split at hf
    ·rename_i hc
     simp only[Bool.and_eq_true,Bool.not_eq_true',beq_iff_eq]at hc
     obtain⟨h1,h2,h3⟩:=hc
     have hle:=nest_le _ _ _ hf
     obtain⟨r1,r2,e1,e2,e3,e4⟩:=eqCells_split fs2.size _ _ r he (by simp;omega)
     rw[List.drop_drop,List.drop_drop]at e2
     have hfo:P.fieldsOf f.type=fs2:=by simp[Program.fieldsOf,hu]
     have pa:(part f.type xs f.offset).run P w=.ok (.agg (xs.extract i (i+fs2.size))) w:=by simp[part,isAgg,run_underlying hu,run_szP h3,ho]
     have pb:(part f.type ys f.offset).run P w=.ok (.agg (ys.extract i (i+fs2.size))) w:=by simp[part,isAgg,run_underlying hu,run_szP h3,ho]
     have ex:∀zs:Array Value,(zs.extract i (i+fs2.size)).toList=(zs.toList.drop i).take fs2.size:=by
      intro zs;simp[List.extract_eq_take_drop]
     have pe:(Op.equalIn (d+2) f.type (.agg (xs.extract i (i+fs2.size))) (.agg (ys.extract i (i+fs2.size)))).run P w=.ok r1 w:=by
      rw[run_equalIn_struct w (d+1) f.type _ _ (by rw[hfo];exact hu) h2,hfo]
      exact eqFields_flat d _ _ w fs2.toList 0 r1 h1 (by rw[List.drop_zero,List.drop_zero,ex,ex];exact e1) (by simp;omega)
     have ih:=eqFields_nest d xs ys w fs (i+fs2.size) n r2 hf e2 hs
     simp only[Sem.run_bind,pa,pb,pe,Result.andThen_ok]
     cases r1
     ·simp[e3]
     ·simp only[Bool.not_true,Bool.false_eq_true,if_false]
      rw[ih,e3];simp
    ·cases hf
   ·cases hf
  ·cases hf
theorem eqOk_nest{A:Seat}(h:A.eqT.all (flatEq A.P)=true)(hs:∀t fs,A.P.underlying t=some (.struct fs)->∀n,sizeT A t=some n->A.eqT.contains t=true->nestFields A.P fs.toList 0=some n):EqOk A:=by
 intro t ht n hn xs ys r he hx
 have hf:=List.all_eq_true.1 h t (by simpa using ht)
 unfold flatEq at hf
 split at hf
 ·rename_i fs hu
  simp only[Bool.and_eq_true,Bool.not_eq_true']at hf
  obtain⟨h1,h2,h3⟩:=hf
  have hfo:A.P.fieldsOf t=fs:=by simp[Program.fieldsOf,hu]
  refine⟨λo x y w=>run_eqGuard_agg w o t x y xs ys h3,λw=>?_⟩
  have e1:=run_equalIn_struct w 9999 t xs ys (by rw[hfo];exact hu) h2
  unfold Op.equal Op.maxDepth
  rw[e1,hfo]
  exact eqFields_nest 9997 xs ys w fs.toList 0 n r (hs t fs hu n hn ht) (by simpa using he) hx
 ·cases hf
def flatSz(A:Seat)(t:TypeId):Bool:=match A.P.underlying t with
 |some (.struct fs)=>sizeT A t==nestFields A.P fs.toList 0
 |_=>true
theorem eqOk_of{A:Seat}(h:A.eqT.all (flatEq A.P)=true)(h2:A.eqT.all (flatSz A)=true):EqOk A:=
 eqOk_nest h λt fs hu n hn ht=>by
  have:=List.all_eq_true.1 h2 t (by simpa using ht)
  unfold flatSz at this
  rw[hu,hn]at this
  simp only[beq_iff_eq]at this
  exact this.symm
end
end Am

/- The walks of slices.Insert and slices.Delete at this seat: what their code does, whatever memory. Written by a program. -/
import Derived.Test.YtpgioncclmancaaGreatChecked
import Derived.Test.YtpgioncclmancaaGreatPPrim2
import Derived.Shelf.RegionOpenPlain
import Derived.WalkKit
import Derived.Lib.Walk
import Derived.Shelf.Spec.SlicesInsert
set_option linter.unusedVariables false
set_option linter.unusedSimpArgs false
namespace Go.Proofs
open Go.Shelf Go.RowKit Go.Lib
section
variable {P : Program}
theorem Nd{ops:Array Oper}{o:Oper}{a:Act}{w:World}{K:Act->World->Prop}{Q:Exit->Act->World->Prop}{E:Prop}
  (hg:o.guard=none) (d x:Operand) (dT sT:TypeId) (hop:o.op=Op.call {callee:=Callee.builtin Builtin.append,args:=#[d,x],argTypes:=#[dT,sT]})
  (v u:Value) (hd:a.eval d=v) (hx:a.eval x=u) {v':Value} {w':World} (hr:(Builtin.append_ #[dT,sT] o.type #[v,u]).run P w=.ok v' w') (hK:K (a.put o.dst v') w'):
  if Region.wanted o (yielded ops a.tmps)=true then Oper.wp P o a w K Q else E:=by
 have hw:Region.wanted o (yielded ops a.tmps)=true:=by simp[Region.wanted,hg]
 rw[if_pos hw];unfold Oper.wp;simp[execOp,hop,resolve,invoke,builtin,hd,hx,hr,Result.andThen];exact hK
theorem Lo(w:World){ops:Array Oper}{rest:List Oper}{o:Oper}{a:Act}{Q:Exit->Act->World->Prop}(hgd:o.guard=none)(s:Operand)(t:TypeId)
  (ho:o.op=.call {callee:=.builtin .clear,args:=#[s],argTypes:=#[t]}) (u:Value) (hs:a.eval s=u) {v':Value} {w':World}
  (hr:(Builtin.clear_ #[t] o.type #[u]).run P w=.ok v' w') (h:wpList P ops Q rest (a.put o.dst v') w'):wpList P ops Q (o::rest) a w:=
 wpList_plain hgd λ_ hK=>by
  unfold Oper.wp execOp;simp only[ho,resolve,invoke,builtin,Sem.run_bind,Sem.run_pure,Result.andThen_ok,List.map_toArray,List.map_cons,List.map_nil,hs,hr];exact hK _ _ h
end
theorem F6:Tryz.prog.follows .mixedOrders=true:=by kernel_rfl
set_option maxHeartbeats 4000000 in
set_option maxRecDepth 100000 in
theorem akb(X V:Option Addr)(n c m vc:Nat)(w w1:World)(r:Value)(hm:0<m)(hnc:n<=c)(hn63:n+m<=1073741824)
  (hap:∀ty,(Builtin.append_ #[29,29] ty #[.slice X n c,.slice V m vc]).run Tryz.prog w=.ok r w1):
  Calls Tryz.prog 218 #[.slice X n c,.int .i64 n,.slice V m vc] w λe w'=>e=.returned r∧w'=w1:=by
 have mixed:=F6;have hz1:¬((m:Int)=0):=by omega
 go_enter Tryz.func218,Tryz.ntmps218
 cases X with
 |none=>
  go_wp2_with (at_builtin;refine Lib.wpList_append_run _ rfl _ _ _ _ rfl _ _ rfl rfl _ _ (hap _) ?_)
  go_ret
  all_goals exact⟨rfl,rfl⟩
 |some a=>
  obtain⟨ab,ao,asp⟩:=a
  go_wp2_with (at_builtin;refine Lib.wpList_append_run _ rfl _ _ _ _ rfl _ _ rfl rfl _ _ (hap _) ?_)
  all_goals (go_ret;exact⟨rfl,rfl⟩)
set_option maxHeartbeats 4000000 in
set_option maxRecDepth 100000 in
theorem akc(g o g1 n c i m G:Nat)(V:Option Addr)(vc:Nat)(w w1 w2 w3:World)(u1 u2:Value)(hi:i<n)(hm:0<m)(hnc:n<=c)(hroom:c<n+m)(hn63:n+m<=1073741824)(hG:n+m<=G)
  (hap:∀ty,(Builtin.append_ #[29,3] ty #[.slice (some ⟨g,o,none⟩) i c,.int .i64 ((n:Int)+(m:Int)-(i:Int))]).run Tryz.prog w=.ok (.slice (some ⟨g1,0,none⟩) (n+m) G) w1)
  (hc1:∀ty dc,(Builtin.copy_ #[29,29] ty #[.slice (some ⟨g1,i*3,none⟩) (n+m-i) dc,.slice V m vc]).run Tryz.prog w1=.ok u1 w2)
  (hc2:∀ty dc sc,(Builtin.copy_ #[29,29] ty #[.slice (some ⟨g1,(i+m)*3,none⟩) (n+m-(i+m)) dc,.slice (some ⟨g,o+i*3,none⟩) (n-i) sc]).run Tryz.prog w2.drew=.ok u2 w3):
  Calls Tryz.prog 218 #[.slice (some ⟨g,o,none⟩) n c,.int .i64 i,.slice V m vc] w λe w'=>e=.returned (.slice (some ⟨g1,0,none⟩) (n+m) G)∧w'=w3:=by
 have mixed:=F6;have hz1:¬((m:Int)=0):=by omega
 have hz2:¬((i:Int)=(n:Int)):=by omega
 have hz3:(c:Int)<(n:Int)+(m:Int):=by omega
 have hGi:¬(G=i):=by omega
 have hGim:¬(G=i+m):=by omega
 have hci:¬(c=i):=by omega
 have hcle:i<=c:=by omega
 have htn:((i:Int)+(m:Int)).toNat=i+m:=by omega
 have hw1:IntKind.i64.wrap ((i:Int)+(m:Int))=(i:Int)+(m:Int):=by rw[IntKind.wrap_i64];omega
 have hb1:(0:Int)<=(i:Int)+(m:Int):=by omega
 have hb3:(i:Int)<=(n:Int):=by omega
 go_enter Tryz.func218,Tryz.ntmps218
 go_wp2_with (at_builtin;refine Lib.wpList_append_run _ rfl _ _ _ _ rfl _ _ rfl rfl _ _ (hap _) ?_)
 go_region_law_o (refine step_copy_runI rfl _ _ 29 29 rfl (.slice (some ⟨g1,(i+m)*3,none⟩) (n+m-(i+m)) (G-(i+m))) (.slice (some ⟨g,o+i*3,none⟩) (n-i) (c-i)) (by simp[Act.eval,Act.put]) (by simp[Act.eval,Act.put]) (hc2 _ _ _) ?_)
 go_wp2
 all_goals (go_ret;exact⟨rfl,rfl⟩)
set_option maxHeartbeats 4000000 in
set_option maxRecDepth 100000 in
theorem akd(g o n c i m:Nat)(V:Option Addr)(vc:Nat)(w w1 w2:World)(u1 u2:Value)(hi:i<n)(hm:0<m)(hnc:n<=c)(hroom:n+m<=c)(hn63:n+m<=1073741824)
  (hov:∀lb cb,(callFunc 263 #[.slice V m vc,.slice (some ⟨g,o+(i+m)*3,none⟩) lb cb]).run Tryz.prog w=.ok (.value (.bool false)) w)
  (hc1:∀ty dc sc,(Builtin.copy_ #[29,29] ty #[.slice (some ⟨g,o+(i+m)*3,none⟩) (n+m-(i+m)) dc,.slice (some ⟨g,o+i*3,none⟩) (n+m-i) sc]).run Tryz.prog w.drew=.ok u1 w1)
  (hc2:∀ty dc,(Builtin.copy_ #[29,29] ty #[.slice (some ⟨g,o+i*3,none⟩) (n+m-i) dc,.slice V m vc]).run Tryz.prog w1=.ok u2 w2):
  Calls Tryz.prog 218 #[.slice (some ⟨g,o,none⟩) n c,.int .i64 i,.slice V m vc] w λe w'=>e=.returned (.slice (some ⟨g,o,none⟩) (n+m) c)∧w'=w2:=by
 have mixed:=F6;have hz1:¬((m:Int)=0):=by omega
 have hz2:¬((i:Int)=(n:Int)):=by omega
 have hw1:IntKind.i64.wrap ((i:Int)+(m:Int))=(i:Int)+(m:Int):=by rw[IntKind.wrap_i64];omega
 have hb1:(0:Int)<=(i:Int)+(m:Int):=by omega
 have hin:i<=n:=by omega
 have htn:((i:Int)+(m:Int)).toNat=i+m:=by omega
 have hb2:¬(c=i+m):=by omega
 have hb3:(i:Int)<=(n:Int)+(m:Int):=by omega
 have hb4:¬(c=i):=by omega
 go_enter Tryz.func218,Tryz.ntmps218
 go_wp2_with (simp only[hov])
 go_region_law_o (refine step_copy_runI rfl _ _ 29 29 rfl (.slice (some ⟨g,o+(i+m)*3,none⟩) (n+m-(i+m)) (c-(i+m))) (.slice (some ⟨g,o+i*3,none⟩) (n+m-i) (c-i)) (by simp[Act.eval,Act.put]) (by simp[Act.eval,Act.put]) (hc1 _ _ _) ?_)
 go_wp2_with (at_builtin;refine wpList_copy_runI _ rfl _ _ 29 29 rfl _ _ rfl rfl (hc2 _ _) ?_)
 all_goals (go_ret;exact⟨rfl,rfl⟩)
theorem ank(w:World)(a b:Addr)(la ca lb cb:Nat)(hne:a.block≠b.block)(tA tB:TypeId)(kA kB:Nat)(hsa:w.shape? a.block=some (tA,kA))(hsb:w.shape? b.block=some (tB,kB))(hkB:kB≠0)
  (hfa:w.frozen? a=false) (hfe:w.frozen? {block:=a.block,off:=kA}=false):(callFunc 263 #[.slice (some a) la ca,.slice (some b) lb cb]).run Tryz.prog w=.ok (.value (.bool false)) w:=by
 rw[run_callFunc_extern Tryz.func263 (by kernel_rfl) (by kernel_rfl) (by kernel_rfl) (e:=Extern.SlicesOverlaps.overlaps #[29,29] #[4]) (by kernel_rfl),
  Lib.run_overlaps_apart w 29 4 87 (by kernel_rfl) 3 (λw=>Am.run_sizeOf (A:=⟨Tryz.prog,[],[]⟩) (by kernel_rfl) w) a b la ca lb cb hne tA tB kA kB hsa hsb hkB hfa hfe]
 rfl
theorem anO:Am.Xv Tryz.prog 218 29 3 3 where
 fin:=akb
 grow:=akc
 room:=λg o n c i m gv ov vc tA tB kA kB w w1 w2 u1 u2 hi hm hnc hroom hn63 hne hsa hsb hkB hfa hfe hc1 hc2=>
  akd g o n c i m _ vc w w1 w2 u1 u2 hi hm hnc hroom hn63 (λlb cb=>ank w ⟨gv,ov,none⟩ ⟨g,o+(i+m)*3,none⟩ m vc lb cb hne tA tB kA kB hsa hsb hkB hfa hfe) hc1 hc2
set_option maxHeartbeats 4000000 in
set_option maxRecDepth 100000 in
theorem anN:Am.Xt Tryz.prog 219 29 3:=by
 intro g o n c i j w w1 w2 hij hj hnc hap hcl;have hne:((i:Int)==(j:Int))=false:=by simp;omega
 have hic:i<=c:=by omega
 have hjc:j<=c:=by omega
 have hkc:i+(n-j)<=n:=by omega
 have hcj:¬(c=i+(n-j)):=by omega
 have mixed:=F6
 go_enter Tryz.func219,Tryz.ntmps219
 go_wp2_with fail
 go_region_law_o (refine Nd rfl _ _ 29 29 rfl _ _ (by simp[Act.eval,Act.put]) (by simp[Act.eval,Act.put]) (hap _ (if c=j then some ⟨g,o,none⟩else some ⟨g,o+j*3,none⟩) (λh=>if_neg (by omega))) ?_)
 go_wp2_with (at_builtin;refine Lo _ rfl _ 29 rfl _ rfl (hcl _) ?_)
 all_goals (go_ret;first|exact⟨rfl,rfl⟩|simp_all)
end Go.Proofs

/- The contract of the law FnExactPackKept; written by a program (lawgen.py). -/
import Derived.Test.YtikhbjdcomgemaaAmK9
import Derived.Test.YtikhbjdcomgemaaAmK2
set_option linter.unusedVariables false
set_option linter.unusedSimpArgs false
set_option maxRecDepth 20000
set_option maxHeartbeats 2000000
namespace Am
open Go

theorem law229 (h : Heap) (vs : List Value) (hp : 0 < h.length) (ha : All2 (ArgR h) [shKepts] vs) : ACall Gam 229 vs h fun v _ => v = .bool true := by
  obtain ⟨v0, vs0, rfl, b0, ha⟩ := all2_cons ha
  obtain rfl := all2_nil ha
  obtain ⟨X0, va0⟩ := b0.vr
  have G : Grows h h := Grows.refl h
  refine ACall_intro g229 rfl ?_
  unfold fn229
  try simp (maxSteps := 10000000) (disch := omega)
  refine callW_of (c294 _ _ X0 (1048576) va0 (by omega)) ?_
  rintro v0 h0 ⟨e0, rfl⟩
  refine ⟨fun _ => Grows.refl _, ?_⟩
  subst e0
  by_cases hs0 : siz shKepts X0 ≤ 1048576
  rotate_left
  · rw [if_neg hs0]
    simp (maxSteps := 10000000) (disch := omega)
  rw [if_pos hs0]
  obtain ⟨left0, hl0⟩ : ∃ k, k = 1048576 - siz shKepts X0 := ⟨_, rfl⟩
  rw [← hl0]
  have hs0 : siz shKepts X0 ≤ 1048576 := by omega
  try simp (maxSteps := 10000000) (disch := omega)
  refine callW_of (c302 _ _ X0 (pos_of hp G) (va0.grow G) hs0) ?_
  rintro t0 h1 ⟨g1, ot0⟩
  have l1 := g1.le
  refine ⟨fun _ => g1, ?_⟩
  have G := G.trans g1
  try simp (maxSteps := 10000000) (disch := omega)
  refine callW_of (c397 _ (pos_of hp G) _ X0 ot0.vr hs0) ?_
  rintro _ h2 ⟨g2, rfl⟩
  have l2 := g2.le
  refine ⟨fun _ => g2, ?_⟩
  have G := G.trans g2
  try simp (maxSteps := 10000000) (disch := omega)
  refine callW_of (c302 _ _ X0 (pos_of hp G) (va0.grow G) hs0) ?_
  rintro x0 h3 ⟨g3, ox0⟩
  have l3 := g3.le
  refine ⟨fun _ => g3, ?_⟩
  have G := G.trans g3
  try simp (maxSteps := 10000000) (disch := omega)
  refine callW_of (c106 _ (pos_of hp G) _ X0 ox0.vr hs0) ?_
  rintro _ h4 ⟨g4, rfl⟩
  have l4 := g4.le
  refine ⟨fun _ => g4, ?_⟩
  have G := G.trans g4
  have ox0 := ox0.grow g4
  try simp (maxSteps := 10000000) (disch := omega)
  refine callW_of (c302 _ _ X0 (pos_of hp G) (va0.grow G) hs0) ?_
  rintro u0 h5 ⟨g5, ou0⟩
  have l5 := g5.le
  refine ⟨fun _ => g5, ?_⟩
  have G := G.trans g5
  have ox0 := ox0.grow g5
  try simp (maxSteps := 10000000) (disch := omega)
  refine callW_of (c264 _ _ _ X0 ox0.vr ou0.vr) ?_
  rintro v0 h0 ⟨rfl, rfl⟩
  refine ⟨fun _ => Grows.refl _, ?_⟩
  try simp (maxSteps := 10000000) (disch := omega)
end Am

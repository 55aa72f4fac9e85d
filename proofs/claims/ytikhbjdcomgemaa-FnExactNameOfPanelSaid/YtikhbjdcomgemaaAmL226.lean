/- The contract of the law FnExactNameOfPanel; written by a program (lawgen.py). -/
import Derived.Test.YtikhbjdcomgemaaAmK9
import Derived.Test.YtikhbjdcomgemaaAmK3
set_option linter.unusedVariables false
set_option linter.unusedSimpArgs false
set_option maxRecDepth 20000
set_option maxHeartbeats 2000000
namespace Am
open Go

theorem law226 (h : Heap) (vs : List Value) (hp : 0 < h.length) (ha : All2 (ArgR h) [shKepts, shPanel] vs) : ACall Gam 226 vs h fun v _ => v = .bool true := by
  obtain ⟨v0, vs0, rfl, b0, ha⟩ := all2_cons ha
  obtain ⟨v1, vs1, rfl, b1, ha⟩ := all2_cons ha
  obtain rfl := all2_nil ha
  obtain ⟨X0, va0⟩ := b0.vr
  obtain ⟨X1, va1⟩ := b1.vr
  obtain ⟨a1qa, a1qb, a1qc, rfl⟩ := va1.panel3
  have G : Grows h h := Grows.refl h
  refine ACall_intro g226 rfl ?_
  unfold fn226
  try simp (maxSteps := 10000000) (disch := omega)
  refine callW_of (c294 _ _ X0 (1048576) va0 (by omega)) ?_
  rintro v0 h0 ⟨e0, rfl⟩
  refine ⟨fun _ => Grows.refl _, ?_⟩
  subst e0
  by_cases hs0 : siz shKepts X0 ≤ 1048576
  rotate_left
  · rw [if_neg hs0]
    simp (maxSteps := 10000000) (disch := omega)
  rw [if_pos hs0]
  obtain ⟨left0, hl0⟩ : ∃ k, k = 1048576 - siz shKepts X0 := ⟨_, rfl⟩
  rw [← hl0]
  have hs0 : siz shKepts X0 ≤ 1048576 := by omega
  try simp (maxSteps := 10000000) (disch := omega)
  refine callW_of (c295 _ _ X1 (left0) va1 (by omega)) ?_
  rintro v0 h0 ⟨e0, rfl⟩
  refine ⟨fun _ => Grows.refl _, ?_⟩
  subst e0
  by_cases hs1 : siz shPanel X1 ≤ left0
  rotate_left
  · rw [if_neg hs1]
    simp (maxSteps := 10000000) (disch := omega)
  rw [if_pos hs1]
  obtain ⟨left1, hl1⟩ : ∃ k, k = left0 - siz shPanel X1 := ⟨_, rfl⟩
  rw [← hl1]
  have hs1 : siz shPanel X1 ≤ 1048576 := by omega
  try simp (maxSteps := 10000000) (disch := omega)
  refine callW_of (c302 _ _ X0 (pos_of hp G) (va0.grow G) hs0) ?_
  rintro t0 h1 ⟨g1, ot0⟩
  have l1 := g1.le
  refine ⟨fun _ => g1, ?_⟩
  have G := G.trans g1
  try simp (maxSteps := 10000000) (disch := omega)
  refine callW_of (c303 _ _ X1 (pos_of hp G) (va1.grow G) hs1) ?_
  rintro t1 h2 ⟨g2, ot1⟩
  have l2 := g2.le
  refine ⟨fun _ => g2, ?_⟩
  obtain ⟨t1n2qa, t1n2qb, t1n2qc, rfl⟩ := ot1.vr.panel3
  have G := G.trans g2
  have ot0 := ot0.grow g2
  try simp (maxSteps := 10000000) (disch := omega)
  refine callW_of (c392 _ (pos_of hp G) _ X0 ot0.vr hs0 _ X1 ot1.vr hs1) ?_
  rintro _ h3 ⟨g3, rfl⟩
  have l3 := g3.le
  refine ⟨fun _ => g3, ?_⟩
  have G := G.trans g3
  try simp (maxSteps := 10000000) (disch := omega)
  refine callW_of (c302 _ _ X0 (pos_of hp G) (va0.grow G) hs0) ?_
  rintro x0 h4 ⟨g4, ox0⟩
  have l4 := g4.le
  refine ⟨fun _ => g4, ?_⟩
  have G := G.trans g4
  try simp (maxSteps := 10000000) (disch := omega)
  refine callW_of (c303 _ _ X1 (pos_of hp G) (va1.grow G) hs1) ?_
  rintro x1 h5 ⟨g5, ox1⟩
  have l5 := g5.le
  refine ⟨fun _ => g5, ?_⟩
  obtain ⟨x1n5qa, x1n5qb, x1n5qc, rfl⟩ := ox1.vr.panel3
  have G := G.trans g5
  have ox0 := ox0.grow g5
  try simp (maxSteps := 10000000) (disch := omega)
  refine callW_of (c99 _ (pos_of hp G) _ X0 ox0.vr hs0 _ X1 ox1.vr hs1) ?_
  rintro _ h6 ⟨g6, rfl⟩
  have l6 := g6.le
  refine ⟨fun _ => g6, ?_⟩
  have G := G.trans g6
  have ox0 := ox0.grow g6
  have ox1 := ox1.grow g6
  try simp (maxSteps := 10000000) (disch := omega)
  refine callW_of (c302 _ _ X0 (pos_of hp G) (va0.grow G) hs0) ?_
  rintro u0 h7 ⟨g7, ou0⟩
  have l7 := g7.le
  refine ⟨fun _ => g7, ?_⟩
  have G := G.trans g7
  have ox0 := ox0.grow g7
  have ox1 := ox1.grow g7
  try simp (maxSteps := 10000000) (disch := omega)
  refine callW_of (c264 _ _ _ X0 ox0.vr ou0.vr) ?_
  rintro v0 h0 ⟨rfl, rfl⟩
  refine ⟨fun _ => Grows.refl _, ?_⟩
  try simp (maxSteps := 10000000) (disch := omega)
  refine callW_of (c303 _ _ X1 (pos_of hp G) (va1.grow G) hs1) ?_
  rintro u1 h8 ⟨g8, ou1⟩
  have l8 := g8.le
  refine ⟨fun _ => g8, ?_⟩
  obtain ⟨u1n8qa, u1n8qb, u1n8qc, rfl⟩ := ou1.vr.panel3
  have G := G.trans g8
  have ox0 := ox0.grow g8
  have ox1 := ox1.grow g8
  try simp (maxSteps := 10000000) (disch := omega)
  refine callW_of (c265 _ _ _ X1 ox1.vr ou1.vr) ?_
  rintro v0 h0 ⟨rfl, rfl⟩
  refine ⟨fun _ => Grows.refl _, ?_⟩
  try simp (maxSteps := 10000000) (disch := omega)
end Am

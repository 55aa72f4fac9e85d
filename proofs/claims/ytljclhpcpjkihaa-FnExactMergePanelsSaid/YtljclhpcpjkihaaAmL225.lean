/- The contract of the law FnExactMergePanels; written by a program (lawgen.py). -/
import Derived.Test.YtljclhpcpjkihaaAmP6
set_option linter.unusedVariables false
set_option linter.unusedSimpArgs false
set_option maxRecDepth 20000
set_option maxHeartbeats 2000000
namespace Am
open Go

theorem law225 (h : Heap) (vs : List Value) (hp : 0 < h.length) (ha : All2 (ArgR h) [shPanel, shPanel, shPanel] vs) : ACall Gam 225 vs h fun v _ => v = .bool true := by
  obtain ⟨v0, vs0, rfl, b0, ha⟩ := all2_cons ha
  obtain ⟨v1, vs1, rfl, b1, ha⟩ := all2_cons ha
  obtain ⟨v2, vs2, rfl, b2, ha⟩ := all2_cons ha
  obtain rfl := all2_nil ha
  obtain ⟨X0, va0⟩ := b0.vr
  obtain ⟨a0qa, a0qb, a0qc, rfl⟩ := va0.panel3
  obtain ⟨X1, va1⟩ := b1.vr
  obtain ⟨a1qa, a1qb, a1qc, rfl⟩ := va1.panel3
  obtain ⟨X2, va2⟩ := b2.vr
  obtain ⟨a2qa, a2qb, a2qc, rfl⟩ := va2.panel3
  have G : Grows h h := Grows.refl h
  refine ACall_intro g225 rfl ?_
  unfold fn225
  try simp (maxSteps := 10000000) (disch := omega)
  refine callW_of (c295 _ _ X0 (1048576) va0 (by omega)) ?_
  rintro v0 h0 ⟨e0, rfl⟩
  refine ⟨fun _ => Grows.refl _, ?_⟩
  subst e0
  by_cases hs0 : siz shPanel X0 ≤ 1048576
  rotate_left
  · rw [if_neg hs0]
    simp (maxSteps := 10000000) (disch := omega)
  rw [if_pos hs0]
  obtain ⟨left0, hl0⟩ : ∃ k, k = 1048576 - siz shPanel X0 := ⟨_, rfl⟩
  rw [← hl0]
  have hs0 : siz shPanel X0 ≤ 1048576 := by omega
  try simp (maxSteps := 10000000) (disch := omega)
  refine callW_of (c295 _ _ X1 (left0) va1 (by omega)) ?_
  rintro v0 h0 ⟨e0, rfl⟩
  refine ⟨fun _ => Grows.refl _, ?_⟩
  subst e0
  by_cases hs1 : siz shPanel X1 ≤ left0
  rotate_left
  · rw [if_neg hs1]
    simp (maxSteps := 10000000) (disch := omega)
  rw [if_pos hs1]
  obtain ⟨left1, hl1⟩ : ∃ k, k = left0 - siz shPanel X1 := ⟨_, rfl⟩
  rw [← hl1]
  have hs1 : siz shPanel X1 ≤ 1048576 := by omega
  try simp (maxSteps := 10000000) (disch := omega)
  refine callW_of (c295 _ _ X2 (left1) va2 (by omega)) ?_
  rintro v0 h0 ⟨e0, rfl⟩
  refine ⟨fun _ => Grows.refl _, ?_⟩
  subst e0
  by_cases hs2 : siz shPanel X2 ≤ left1
  rotate_left
  · rw [if_neg hs2]
    simp (maxSteps := 10000000) (disch := omega)
  rw [if_pos hs2]
  obtain ⟨left2, hl2⟩ : ∃ k, k = left1 - siz shPanel X2 := ⟨_, rfl⟩
  rw [← hl2]
  have hs2 : siz shPanel X2 ≤ 1048576 := by omega
  try simp (maxSteps := 10000000) (disch := omega)
  refine callW_of (c303 _ _ X0 (pos_of hp G) (va0.grow G) hs0) ?_
  rintro t0 h1 ⟨g1, ot0⟩
  have l1 := g1.le
  refine ⟨fun _ => g1, ?_⟩
  obtain ⟨t0n1qa, t0n1qb, t0n1qc, rfl⟩ := ot0.vr.panel3
  have G := G.trans g1
  try simp (maxSteps := 10000000) (disch := omega)
  refine callW_of (c303 _ _ X1 (pos_of hp G) (va1.grow G) hs1) ?_
  rintro t1 h2 ⟨g2, ot1⟩
  have l2 := g2.le
  refine ⟨fun _ => g2, ?_⟩
  obtain ⟨t1n2qa, t1n2qb, t1n2qc, rfl⟩ := ot1.vr.panel3
  have G := G.trans g2
  have ot0 := ot0.grow g2
  try simp (maxSteps := 10000000) (disch := omega)
  refine callW_of (c303 _ _ X2 (pos_of hp G) (va2.grow G) hs2) ?_
  rintro t2 h3 ⟨g3, ot2⟩
  have l3 := g3.le
  refine ⟨fun _ => g3, ?_⟩
  obtain ⟨t2n3qa, t2n3qb, t2n3qc, rfl⟩ := ot2.vr.panel3
  have G := G.trans g3
  have ot0 := ot0.grow g3
  have ot1 := ot1.grow g3
  try simp (maxSteps := 10000000) (disch := omega)
  refine callW_of (c391 _ (pos_of hp G) _ X0 ot0.vr hs0 _ X1 ot1.vr hs1 _ X2 ot2.vr hs2) ?_
  rintro _ h4 ⟨g4, w0, rfl, ow, zw⟩
  have l4 := g4.le
  refine ⟨fun _ => g4, ?_⟩
  have G := G.trans g4
  obtain ⟨wm0n4qa, wm0n4qb, wm0n4qc, rfl⟩ := ow.vr.panel3
  have vw := ow.vr
  have Gw : Grows h4 h4 := Grows.refl _
  try simp (maxSteps := 10000000) (disch := omega)
  refine callW_of (c303 _ _ X0 (pos_of hp G) (va0.grow G) hs0) ?_
  rintro x0 h5 ⟨g5, ox0⟩
  have l5 := g5.le
  refine ⟨fun _ => g5, ?_⟩
  obtain ⟨x0n5qa, x0n5qb, x0n5qc, rfl⟩ := ox0.vr.panel3
  have G := G.trans g5
  have Gw := Gw.trans g5
  try simp (maxSteps := 10000000) (disch := omega)
  refine callW_of (c303 _ _ X1 (pos_of hp G) (va1.grow G) hs1) ?_
  rintro x1 h6 ⟨g6, ox1⟩
  have l6 := g6.le
  refine ⟨fun _ => g6, ?_⟩
  obtain ⟨x1n6qa, x1n6qb, x1n6qc, rfl⟩ := ox1.vr.panel3
  have G := G.trans g6
  have Gw := Gw.trans g6
  have ox0 := ox0.grow g6
  try simp (maxSteps := 10000000) (disch := omega)
  refine callW_of (c303 _ _ X2 (pos_of hp G) (va2.grow G) hs2) ?_
  rintro x2 h7 ⟨g7, ox2⟩
  have l7 := g7.le
  refine ⟨fun _ => g7, ?_⟩
  obtain ⟨x2n7qa, x2n7qb, x2n7qc, rfl⟩ := ox2.vr.panel3
  have G := G.trans g7
  have Gw := Gw.trans g7
  have ox0 := ox0.grow g7
  have ox1 := ox1.grow g7
  try simp (maxSteps := 10000000) (disch := omega)
  refine callW_of (c98 _ (pos_of hp G) _ X0 ox0.vr hs0 _ X1 ox1.vr hs1 _ X2 ox2.vr hs2) ?_
  rintro _ h8 ⟨g8, gg0, rfl, ogg, zgg⟩
  have l8 := g8.le
  refine ⟨fun _ => g8, ?_⟩
  have G := G.trans g8
  have Gw := Gw.trans g8
  have ox0 := ox0.grow g8
  have ox1 := ox1.grow g8
  have ox2 := ox2.grow g8
  obtain ⟨ggm0n8qa, ggm0n8qb, ggm0n8qc, rfl⟩ := ogg.vr.panel3
  try simp (maxSteps := 10000000) (disch := omega)
  refine callW_of (c265 _ _ _ ((mergeAns X0 X1 X2).1) ogg.vr (vw.grow Gw)) ?_
  rintro v0 h0 ⟨rfl, rfl⟩
  refine ⟨fun _ => Grows.refl _, ?_⟩
  try simp (maxSteps := 10000000) (disch := omega)
  refine callW_of (c303 _ _ X0 (pos_of hp G) (va0.grow G) hs0) ?_
  rintro u0 h9 ⟨g9, ou0⟩
  have l9 := g9.le
  refine ⟨fun _ => g9, ?_⟩
  obtain ⟨u0n9qa, u0n9qb, u0n9qc, rfl⟩ := ou0.vr.panel3
  have G := G.trans g9
  have Gw := Gw.trans g9
  have ox0 := ox0.grow g9
  have ox1 := ox1.grow g9
  have ox2 := ox2.grow g9
  have ogg := ogg.grow g9
  try simp (maxSteps := 10000000) (disch := omega)
  refine callW_of (c265 _ _ _ X0 ox0.vr ou0.vr) ?_
  rintro v0 h0 ⟨rfl, rfl⟩
  refine ⟨fun _ => Grows.refl _, ?_⟩
  try simp (maxSteps := 10000000) (disch := omega)
  refine callW_of (c303 _ _ X1 (pos_of hp G) (va1.grow G) hs1) ?_
  rintro u1 h10 ⟨g10, ou1⟩
  have l10 := g10.le
  refine ⟨fun _ => g10, ?_⟩
  obtain ⟨u1n10qa, u1n10qb, u1n10qc, rfl⟩ := ou1.vr.panel3
  have G := G.trans g10
  have Gw := Gw.trans g10
  have ox0 := ox0.grow g10
  have ox1 := ox1.grow g10
  have ox2 := ox2.grow g10
  have ogg := ogg.grow g10
  try simp (maxSteps := 10000000) (disch := omega)
  refine callW_of (c265 _ _ _ X1 ox1.vr ou1.vr) ?_
  rintro v0 h0 ⟨rfl, rfl⟩
  refine ⟨fun _ => Grows.refl _, ?_⟩
  try simp (maxSteps := 10000000) (disch := omega)
  refine callW_of (c303 _ _ X2 (pos_of hp G) (va2.grow G) hs2) ?_
  rintro u2 h11 ⟨g11, ou2⟩
  have l11 := g11.le
  refine ⟨fun _ => g11, ?_⟩
  obtain ⟨u2n11qa, u2n11qb, u2n11qc, rfl⟩ := ou2.vr.panel3
  have G := G.trans g11
  have Gw := Gw.trans g11
  have ox0 := ox0.grow g11
  have ox1 := ox1.grow g11
  have ox2 := ox2.grow g11
  have ogg := ogg.grow g11
  try simp (maxSteps := 10000000) (disch := omega)
  refine callW_of (c265 _ _ _ X2 ox2.vr ou2.vr) ?_
  rintro v0 h0 ⟨rfl, rfl⟩
  refine ⟨fun _ => Grows.refl _, ?_⟩
  try simp (maxSteps := 10000000) (disch := omega)
  have cb12 := cvd_le_shPanel (X0)
  have zb12 := hs0
  refine callW_of (c286 _ _ _ _ X0 1 ox0 (by omega)) ?_
  rintro v0 h12 ⟨rfl, m12, ox0⟩
  have l12 := m12.1
  refine ⟨fun e => (by cases e), ?_⟩
  obtain ⟨k12, hk12⟩ : ∃ k, k = 1 + cvd shPanel X0 := ⟨_, rfl⟩
  rw [← hk12]
  have G := m12.grows G (by omega)
  have Gw := m12.grows Gw (by omega)
  have ox1 := ox1.mod m12 (by omega)
  have ox2 := ox2.mod m12 (by omega)
  have ogg := ogg.mod m12 (by omega)
  try simp (maxSteps := 10000000) (disch := omega)
  have cb13 := cvd_le_shPanel (X1)
  have zb13 := hs1
  refine callW_of (c286 _ _ _ _ X1 k12 ox1 (by omega)) ?_
  rintro v0 h13 ⟨rfl, m13, ox1⟩
  have l13 := m13.1
  refine ⟨fun e => (by cases e), ?_⟩
  obtain ⟨k13, hk13⟩ : ∃ k, k = k12 + cvd shPanel X1 := ⟨_, rfl⟩
  rw [← hk13]
  have G := m13.grows G (by omega)
  have Gw := m13.grows Gw (by omega)
  have ox2 := ox2.mod m13 (by omega)
  have ogg := ogg.mod m13 (by omega)
  try simp (maxSteps := 10000000) (disch := omega)
  have cb14 := cvd_le_shPanel (X2)
  have zb14 := hs2
  refine callW_of (c286 _ _ _ _ X2 k13 ox2 (by omega)) ?_
  rintro v0 h14 ⟨rfl, m14, ox2⟩
  have l14 := m14.1
  refine ⟨fun e => (by cases e), ?_⟩
  obtain ⟨k14, hk14⟩ : ∃ k, k = k13 + cvd shPanel X2 := ⟨_, rfl⟩
  rw [← hk14]
  have G := m14.grows G (by omega)
  have Gw := m14.grows Gw (by omega)
  have ogg := ogg.mod m14 (by omega)
  try simp (maxSteps := 10000000) (disch := omega)
  refine callW_of (c265 _ _ _ ((mergeAns X0 X1 X2).1) ogg.vr (vw.grow Gw)) ?_
  rintro v0 h0 ⟨rfl, rfl⟩
  refine ⟨fun _ => Grows.refl _, ?_⟩
  try simp (maxSteps := 10000000) (disch := omega)
  have cb15 := cvd_le_shPanel (((mergeAns X0 X1 X2).1))
  have zb15 := zgg
  refine callW_of (c286 _ _ _ _ ((mergeAns X0 X1 X2).1) 1 ogg (by omega)) ?_
  rintro v0 h15 ⟨rfl, m15, ogg⟩
  have l15 := m15.1
  refine ⟨fun e => (by cases e), ?_⟩
  obtain ⟨k15, hk15⟩ : ∃ k, k = 1 + cvd shPanel ((mergeAns X0 X1 X2).1) := ⟨_, rfl⟩
  rw [← hk15]
  have G := m15.grows G (by omega)
  have Gw := m15.grows Gw (by omega)
  try simp (maxSteps := 10000000) (disch := omega)
  have cb16 := cvd_le_shPanel ((mergeAns X0 X1 X2).1)
  refine callW_of (c279 _ _ ((mergeAns X0 X1 X2).1) 1 ogg.vr (by omega)) ?_
  rintro v0 h16 ⟨rfl, g16⟩
  have l16 := g16.le
  refine ⟨fun _ => g16, ?_⟩
  rw [← hk15]
  have G := G.trans g16
  have Gw := Gw.trans g16
  have ogg := ogg.grow g16
  try simp (maxSteps := 10000000) (disch := omega)
  refine callW_of (c303 _ _ X0 (pos_of hp G) (va0.grow G) hs0) ?_
  rintro y0 h17 ⟨g17, oy0⟩
  have l17 := g17.le
  refine ⟨fun _ => g17, ?_⟩
  obtain ⟨y0n17qa, y0n17qb, y0n17qc, rfl⟩ := oy0.vr.panel3
  have G := G.trans g17
  have Gw := Gw.trans g17
  have ogg := ogg.grow g17
  try simp (maxSteps := 10000000) (disch := omega)
  refine callW_of (c303 _ _ X1 (pos_of hp G) (va1.grow G) hs1) ?_
  rintro y1 h18 ⟨g18, oy1⟩
  have l18 := g18.le
  refine ⟨fun _ => g18, ?_⟩
  obtain ⟨y1n18qa, y1n18qb, y1n18qc, rfl⟩ := oy1.vr.panel3
  have G := G.trans g18
  have Gw := Gw.trans g18
  have ogg := ogg.grow g18
  have oy0 := oy0.grow g18
  try simp (maxSteps := 10000000) (disch := omega)
  refine callW_of (c303 _ _ X2 (pos_of hp G) (va2.grow G) hs2) ?_
  rintro y2 h19 ⟨g19, oy2⟩
  have l19 := g19.le
  refine ⟨fun _ => g19, ?_⟩
  obtain ⟨y2n19qa, y2n19qb, y2n19qc, rfl⟩ := oy2.vr.panel3
  have G := G.trans g19
  have Gw := Gw.trans g19
  have ogg := ogg.grow g19
  have oy0 := oy0.grow g19
  have oy1 := oy1.grow g19
  try simp (maxSteps := 10000000) (disch := omega)
  refine callW_of (c98 _ (pos_of hp G) _ X0 oy0.vr hs0 _ X1 oy1.vr hs1 _ X2 oy2.vr hs2) ?_
  rintro _ h20 ⟨g20, y0, rfl, oyy, zyy⟩
  have l20 := g20.le
  refine ⟨fun _ => g20, ?_⟩
  have G := G.trans g20
  have Gw := Gw.trans g20
  have ogg := ogg.grow g20
  obtain ⟨yym0n20qa, yym0n20qb, yym0n20qc, rfl⟩ := oyy.vr.panel3
  try simp (maxSteps := 10000000) (disch := omega)
  refine callW_of (c265 _ _ _ ((mergeAns X0 X1 X2).1) oyy.vr (vw.grow Gw)) ?_
  rintro v0 h0 ⟨rfl, rfl⟩
  refine ⟨fun _ => Grows.refl _, ?_⟩
  try simp (maxSteps := 10000000) (disch := omega)
  have cb21 := cvd_le_shPanel ((mergeAns X0 X1 X2).1)
  refine callW_of (c279 _ _ ((mergeAns X0 X1 X2).1) 1 ogg.vr (by omega)) ?_
  rintro v0 h21 ⟨rfl, g21⟩
  have l21 := g21.le
  refine ⟨fun _ => g21, ?_⟩
  rw [← hk15]
  have G := G.trans g21
  have Gw := Gw.trans g21
  have ogg := ogg.grow g21
  have oyy := oyy.grow g21
  try simp (maxSteps := 10000000) (disch := omega)
end Am

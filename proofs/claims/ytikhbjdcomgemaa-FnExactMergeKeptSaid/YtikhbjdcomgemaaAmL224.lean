/- The contract of the law FnExactMergeKept; written by a program (lawgen.py). -/
import Derived.Test.YtikhbjdcomgemaaAmK9
import Derived.Test.YtikhbjdcomgemaaAmK2
set_option linter.unusedVariables false
set_option linter.unusedSimpArgs false
set_option maxRecDepth 20000
set_option maxHeartbeats 2000000
namespace Am
open Go

theorem law224 (h : Heap) (vs : List Value) (hp : 0 < h.length) (ha : All2 (ArgR h) [shKepts, shKepts] vs) : ACall Gam 224 vs h fun v _ => v = .bool true := by
  obtain ⟨v0, vs0, rfl, b0, ha⟩ := all2_cons ha
  obtain ⟨v1, vs1, rfl, b1, ha⟩ := all2_cons ha
  obtain rfl := all2_nil ha
  obtain ⟨X0, va0⟩ := b0.vr
  obtain ⟨X1, va1⟩ := b1.vr
  have G : Grows h h := Grows.refl h
  refine ACall_intro g224 rfl ?_
  unfold fn224
  try simp (maxSteps := 10000000) (disch := omega)
  refine callW_of (c294 _ _ X0 (1048576) va0 (by omega)) ?_
  rintro v0 h0 ⟨e0, rfl⟩
  refine ⟨fun _ => Grows.refl _, ?_⟩
  subst e0
  by_cases hs0 : siz shKepts X0 ≤ 1048576
  rotate_left
  · rw [if_neg hs0]
    simp (maxSteps := 10000000) (disch := omega)
  rw [if_pos hs0]
  obtain ⟨left0, hl0⟩ : ∃ k, k = 1048576 - siz shKepts X0 := ⟨_, rfl⟩
  rw [← hl0]
  have hs0 : siz shKepts X0 ≤ 1048576 := by omega
  try simp (maxSteps := 10000000) (disch := omega)
  refine callW_of (c294 _ _ X1 (left0) va1 (by omega)) ?_
  rintro v0 h0 ⟨e0, rfl⟩
  refine ⟨fun _ => Grows.refl _, ?_⟩
  subst e0
  by_cases hs1 : siz shKepts X1 ≤ left0
  rotate_left
  · rw [if_neg hs1]
    simp (maxSteps := 10000000) (disch := omega)
  rw [if_pos hs1]
  obtain ⟨left1, hl1⟩ : ∃ k, k = left0 - siz shKepts X1 := ⟨_, rfl⟩
  rw [← hl1]
  have hs1 : siz shKepts X1 ≤ 1048576 := by omega
  try simp (maxSteps := 10000000) (disch := omega)
  refine callW_of (c302 _ _ X0 (pos_of hp G) (va0.grow G) hs0) ?_
  rintro t0 h1 ⟨g1, ot0⟩
  have l1 := g1.le
  refine ⟨fun _ => g1, ?_⟩
  have G := G.trans g1
  try simp (maxSteps := 10000000) (disch := omega)
  refine callW_of (c302 _ _ X1 (pos_of hp G) (va1.grow G) hs1) ?_
  rintro t1 h2 ⟨g2, ot1⟩
  have l2 := g2.le
  refine ⟨fun _ => g2, ?_⟩
  have G := G.trans g2
  have ot0 := ot0.grow g2
  try simp (maxSteps := 10000000) (disch := omega)
  refine callW_of (c390 _ (pos_of hp G) _ X0 ot0.vr hs0 _ X1 ot1.vr hs1) ?_
  rintro _ h3 ⟨g3, w0, rfl, ow, zw⟩
  have l3 := g3.le
  refine ⟨fun _ => g3, ?_⟩
  have G := G.trans g3
  have vw := ow.vr
  have Gw : Grows h3 h3 := Grows.refl _
  try simp (maxSteps := 10000000) (disch := omega)
  refine callW_of (c302 _ _ X0 (pos_of hp G) (va0.grow G) hs0) ?_
  rintro x0 h4 ⟨g4, ox0⟩
  have l4 := g4.le
  refine ⟨fun _ => g4, ?_⟩
  have G := G.trans g4
  have Gw := Gw.trans g4
  try simp (maxSteps := 10000000) (disch := omega)
  refine callW_of (c302 _ _ X1 (pos_of hp G) (va1.grow G) hs1) ?_
  rintro x1 h5 ⟨g5, ox1⟩
  have l5 := g5.le
  refine ⟨fun _ => g5, ?_⟩
  have G := G.trans g5
  have Gw := Gw.trans g5
  have ox0 := ox0.grow g5
  try simp (maxSteps := 10000000) (disch := omega)
  refine callW_of (c97 _ (pos_of hp G) _ X0 ox0.vr hs0 _ X1 ox1.vr hs1) ?_
  rintro _ h6 ⟨g6, gg0, rfl, ogg, zgg⟩
  have l6 := g6.le
  refine ⟨fun _ => g6, ?_⟩
  have G := G.trans g6
  have Gw := Gw.trans g6
  have ox0 := ox0.grow g6
  have ox1 := ox1.grow g6
  try simp (maxSteps := 10000000) (disch := omega)
  refine callW_of (c264 _ _ _ ((mergeAnsK X0 X1).1) ogg.vr (vw.grow Gw)) ?_
  rintro v0 h0 ⟨rfl, rfl⟩
  refine ⟨fun _ => Grows.refl _, ?_⟩
  try simp (maxSteps := 10000000) (disch := omega)
  refine callW_of (c302 _ _ X0 (pos_of hp G) (va0.grow G) hs0) ?_
  rintro u0 h7 ⟨g7, ou0⟩
  have l7 := g7.le
  refine ⟨fun _ => g7, ?_⟩
  have G := G.trans g7
  have Gw := Gw.trans g7
  have ox0 := ox0.grow g7
  have ox1 := ox1.grow g7
  have ogg := ogg.grow g7
  try simp (maxSteps := 10000000) (disch := omega)
  refine callW_of (c264 _ _ _ X0 ox0.vr ou0.vr) ?_
  rintro v0 h0 ⟨rfl, rfl⟩
  refine ⟨fun _ => Grows.refl _, ?_⟩
  try simp (maxSteps := 10000000) (disch := omega)
  refine callW_of (c302 _ _ X1 (pos_of hp G) (va1.grow G) hs1) ?_
  rintro u1 h8 ⟨g8, ou1⟩
  have l8 := g8.le
  refine ⟨fun _ => g8, ?_⟩
  have G := G.trans g8
  have Gw := Gw.trans g8
  have ox0 := ox0.grow g8
  have ox1 := ox1.grow g8
  have ogg := ogg.grow g8
  try simp (maxSteps := 10000000) (disch := omega)
  refine callW_of (c264 _ _ _ X1 ox1.vr ou1.vr) ?_
  rintro v0 h0 ⟨rfl, rfl⟩
  refine ⟨fun _ => Grows.refl _, ?_⟩
  try simp (maxSteps := 10000000) (disch := omega)
  have cb9 := cvd_le_shKepts (X0)
  have zb9 := hs0
  refine callW_of (c285 _ _ _ _ X0 1 ox0 (by omega)) ?_
  rintro v0 h9 ⟨rfl, m9, ox0⟩
  have l9 := m9.1
  refine ⟨fun e => (by cases e), ?_⟩
  obtain ⟨k9, hk9⟩ : ∃ k, k = 1 + cvd shKepts X0 := ⟨_, rfl⟩
  rw [← hk9]
  have G := m9.grows G (by omega)
  have Gw := m9.grows Gw (by omega)
  have ox1 := ox1.mod m9 (by omega)
  have ogg := ogg.mod m9 (by omega)
  try simp (maxSteps := 10000000) (disch := omega)
  have cb10 := cvd_le_shKepts (X1)
  have zb10 := hs1
  refine callW_of (c285 _ _ _ _ X1 k9 ox1 (by omega)) ?_
  rintro v0 h10 ⟨rfl, m10, ox1⟩
  have l10 := m10.1
  refine ⟨fun e => (by cases e), ?_⟩
  obtain ⟨k10, hk10⟩ : ∃ k, k = k9 + cvd shKepts X1 := ⟨_, rfl⟩
  rw [← hk10]
  have G := m10.grows G (by omega)
  have Gw := m10.grows Gw (by omega)
  have ogg := ogg.mod m10 (by omega)
  try simp (maxSteps := 10000000) (disch := omega)
  refine callW_of (c264 _ _ _ ((mergeAnsK X0 X1).1) ogg.vr (vw.grow Gw)) ?_
  rintro v0 h0 ⟨rfl, rfl⟩
  refine ⟨fun _ => Grows.refl _, ?_⟩
  try simp (maxSteps := 10000000) (disch := omega)
  have cb11 := cvd_le_shKepts (((mergeAnsK X0 X1).1))
  have zb11 := zgg
  refine callW_of (c285 _ _ _ _ ((mergeAnsK X0 X1).1) 1 ogg (by omega)) ?_
  rintro v0 h11 ⟨rfl, m11, ogg⟩
  have l11 := m11.1
  refine ⟨fun e => (by cases e), ?_⟩
  obtain ⟨k11, hk11⟩ : ∃ k, k = 1 + cvd shKepts ((mergeAnsK X0 X1).1) := ⟨_, rfl⟩
  rw [← hk11]
  have G := m11.grows G (by omega)
  have Gw := m11.grows Gw (by omega)
  try simp (maxSteps := 10000000) (disch := omega)
  have cb12 := cvd_le_shKepts ((mergeAnsK X0 X1).1)
  refine callW_of (c278 _ _ ((mergeAnsK X0 X1).1) 1 ogg.vr (by omega)) ?_
  rintro v0 h12 ⟨rfl, g12⟩
  have l12 := g12.le
  refine ⟨fun _ => g12, ?_⟩
  rw [← hk11]
  have G := G.trans g12
  have Gw := Gw.trans g12
  have ogg := ogg.grow g12
  try simp (maxSteps := 10000000) (disch := omega)
  refine callW_of (c302 _ _ X0 (pos_of hp G) (va0.grow G) hs0) ?_
  rintro y0 h13 ⟨g13, oy0⟩
  have l13 := g13.le
  refine ⟨fun _ => g13, ?_⟩
  have G := G.trans g13
  have Gw := Gw.trans g13
  have ogg := ogg.grow g13
  try simp (maxSteps := 10000000) (disch := omega)
  refine callW_of (c302 _ _ X1 (pos_of hp G) (va1.grow G) hs1) ?_
  rintro y1 h14 ⟨g14, oy1⟩
  have l14 := g14.le
  refine ⟨fun _ => g14, ?_⟩
  have G := G.trans g14
  have Gw := Gw.trans g14
  have ogg := ogg.grow g14
  have oy0 := oy0.grow g14
  try simp (maxSteps := 10000000) (disch := omega)
  refine callW_of (c97 _ (pos_of hp G) _ X0 oy0.vr hs0 _ X1 oy1.vr hs1) ?_
  rintro _ h15 ⟨g15, y0, rfl, oyy, zyy⟩
  have l15 := g15.le
  refine ⟨fun _ => g15, ?_⟩
  have G := G.trans g15
  have Gw := Gw.trans g15
  have ogg := ogg.grow g15
  try simp (maxSteps := 10000000) (disch := omega)
  refine callW_of (c264 _ _ _ ((mergeAnsK X0 X1).1) oyy.vr (vw.grow Gw)) ?_
  rintro v0 h0 ⟨rfl, rfl⟩
  refine ⟨fun _ => Grows.refl _, ?_⟩
  try simp (maxSteps := 10000000) (disch := omega)
  have cb16 := cvd_le_shKepts ((mergeAnsK X0 X1).1)
  refine callW_of (c278 _ _ ((mergeAnsK X0 X1).1) 1 ogg.vr (by omega)) ?_
  rintro v0 h16 ⟨rfl, g16⟩
  have l16 := g16.le
  refine ⟨fun _ => g16, ?_⟩
  rw [← hk11]
  have G := G.trans g16
  have Gw := Gw.trans g16
  have ogg := ogg.grow g16
  have oyy := oyy.grow g16
  try simp (maxSteps := 10000000) (disch := omega)
end Am

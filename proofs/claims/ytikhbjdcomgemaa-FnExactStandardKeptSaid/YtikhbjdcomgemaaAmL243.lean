/- The contract of the law FnExactStandardKept; written by a program (lawgen.py). -/
import Derived.Test.YtikhbjdcomgemaaAmK7
import Derived.Test.YtikhbjdcomgemaaAmK2
set_option linter.unusedVariables false
set_option linter.unusedSimpArgs false
set_option maxRecDepth 20000
set_option maxHeartbeats 2000000
namespace Am
open Go

theorem law243 (h : Heap) (vs : List Value) (hp : 0 < h.length) (ha : All2 (ArgR h) [] vs) : ACall Gam 243 vs h fun v _ => v = .bool true := by
  obtain rfl := all2_nil ha
  have G : Grows h h := Grows.refl h
  refine ACall_intro g243 rfl ?_
  unfold fn243
  try simp (maxSteps := 10000000) (disch := omega)
  refine callW_of (c422 _ (pos_of hp G)) ?_
  rintro w h1 ⟨g1, ow, zw⟩
  have l1 := g1.le
  refine ⟨fun _ => g1, ?_⟩
  have G := G.trans g1
  have vw := ow.vr
  have Gw : Grows h1 h1 := Grows.refl _
  try simp (maxSteps := 10000000) (disch := omega)
  refine callW_of (c132 _ (pos_of hp G)) ?_
  rintro gg h2 ⟨g2, ogg, zgg⟩
  have l2 := g2.le
  refine ⟨fun _ => g2, ?_⟩
  have G := G.trans g2
  have Gw := Gw.trans g2
  try simp (maxSteps := 10000000) (disch := omega)
  refine callW_of (c264 _ _ _ (stdK) ogg.vr (vw.grow Gw)) ?_
  rintro v0 h0 ⟨rfl, rfl⟩
  refine ⟨fun _ => Grows.refl _, ?_⟩
  try simp (maxSteps := 10000000) (disch := omega)
  have cb3 := cvd_le_shKepts ((stdK))
  have zb3 := zgg
  refine callW_of (c285 _ _ _ _ (stdK) 1 ogg (by omega)) ?_
  rintro v0 h3 ⟨rfl, m3, ogg⟩
  have l3 := m3.1
  refine ⟨fun e => (by cases e), ?_⟩
  obtain ⟨k3, hk3⟩ : ∃ k, k = 1 + cvd shKepts (stdK) := ⟨_, rfl⟩
  rw [← hk3]
  have G := m3.grows G (by omega)
  have Gw := m3.grows Gw (by omega)
  try simp (maxSteps := 10000000) (disch := omega)
  have cb4 := cvd_le_shKepts (stdK)
  refine callW_of (c278 _ _ (stdK) 1 ogg.vr (by omega)) ?_
  rintro v0 h4 ⟨rfl, g4⟩
  have l4 := g4.le
  refine ⟨fun _ => g4, ?_⟩
  rw [← hk3]
  have G := G.trans g4
  have Gw := Gw.trans g4
  have ogg := ogg.grow g4
  try simp (maxSteps := 10000000) (disch := omega)
  refine callW_of (c132 _ (pos_of hp G)) ?_
  rintro y h5 ⟨g5, oyy, zyy⟩
  have l5 := g5.le
  refine ⟨fun _ => g5, ?_⟩
  have G := G.trans g5
  have Gw := Gw.trans g5
  have ogg := ogg.grow g5
  try simp (maxSteps := 10000000) (disch := omega)
  refine callW_of (c264 _ _ _ (stdK) oyy.vr (vw.grow Gw)) ?_
  rintro v0 h0 ⟨rfl, rfl⟩
  refine ⟨fun _ => Grows.refl _, ?_⟩
  try simp (maxSteps := 10000000) (disch := omega)
  have cb6 := cvd_le_shKepts (stdK)
  refine callW_of (c278 _ _ (stdK) 1 ogg.vr (by omega)) ?_
  rintro v0 h6 ⟨rfl, g6⟩
  have l6 := g6.le
  refine ⟨fun _ => g6, ?_⟩
  rw [← hk3]
  have G := G.trans g6
  have Gw := Gw.trans g6
  have ogg := ogg.grow g6
  have oyy := oyy.grow g6
  try simp (maxSteps := 10000000) (disch := omega)
end Am

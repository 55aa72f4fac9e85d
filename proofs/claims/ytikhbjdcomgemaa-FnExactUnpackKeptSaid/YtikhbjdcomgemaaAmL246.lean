/- The contract of the law FnExactUnpackKept; written by a program (lawgen.py). -/
import Derived.Test.YtikhbjdcomgemaaAmK12
import Derived.Test.YtikhbjdcomgemaaAmK2
set_option linter.unusedVariables false
set_option linter.unusedSimpArgs false
set_option maxRecDepth 20000
set_option maxHeartbeats 2000000
namespace Am
open Go

theorem law246 (h : Heap) (vs : List Value) (hp : 0 < h.length) (ha : All2 (ArgR h) [.str] vs) : ACall Gam 246 vs h fun v _ => v = .bool true := by
  obtain ⟨v0, vs0, rfl, b0, ha⟩ := all2_cons ha
  obtain rfl := all2_nil ha
  obtain ⟨X0, rfl, wf0⟩ := b0.str
  have G : Grows h h := Grows.refl h
  refine ACall_intro g246 rfl ?_
  unfold fn246
  try simp (maxSteps := 10000000) (disch := omega)
  refine fork_dec (fun hb => ?_) (fun hb => ?_)
  · simp (maxSteps := 10000000)
  have hs0 : X0.length ≤ 1048576 := by omega
  try simp (maxSteps := 10000000) (disch := omega)
  refine callW_of (c425 _ (pos_of hp G) X0 hs0) ?_
  rintro _ h1 ⟨g1, w0, rfl, ow, zw⟩
  have l1 := g1.le
  refine ⟨fun _ => g1, ?_⟩
  have G := G.trans g1
  have vw := ow.vr
  have Gw : Grows h1 h1 := Grows.refl _
  try simp (maxSteps := 10000000) (disch := omega)
  refine callW_of (c135 _ (pos_of hp G) X0 hs0) ?_
  rintro _ h2 ⟨g2, gg0, rfl, ogg, zgg⟩
  have l2 := g2.le
  refine ⟨fun _ => g2, ?_⟩
  have G := G.trans g2
  have Gw := Gw.trans g2
  try simp (maxSteps := 10000000) (disch := omega)
  refine callW_of (c264 _ _ _ ((unpackK X0).1) ogg.vr (vw.grow Gw)) ?_
  rintro v0 h0 ⟨rfl, rfl⟩
  refine ⟨fun _ => Grows.refl _, ?_⟩
  try simp (maxSteps := 10000000) (disch := omega)
  have cb3 := cvd_le_shKepts (((unpackK X0).1))
  have zb3 := zgg
  refine callW_of (c285 _ _ _ _ ((unpackK X0).1) 1 ogg (by omega)) ?_
  rintro v0 h3 ⟨rfl, m3, ogg⟩
  have l3 := m3.1
  refine ⟨fun e => (by cases e), ?_⟩
  obtain ⟨k3, hk3⟩ : ∃ k, k = 1 + cvd shKepts ((unpackK X0).1) := ⟨_, rfl⟩
  rw [← hk3]
  have G := m3.grows G (by omega)
  have Gw := m3.grows Gw (by omega)
  try simp (maxSteps := 10000000) (disch := omega)
  have cb4 := cvd_le_shKepts ((unpackK X0).1)
  refine callW_of (c278 _ _ ((unpackK X0).1) 1 ogg.vr (by omega)) ?_
  rintro v0 h4 ⟨rfl, g4⟩
  have l4 := g4.le
  refine ⟨fun _ => g4, ?_⟩
  rw [← hk3]
  have G := G.trans g4
  have Gw := Gw.trans g4
  have ogg := ogg.grow g4
  try simp (maxSteps := 10000000) (disch := omega)
  refine callW_of (c135 _ (pos_of hp G) X0 hs0) ?_
  rintro _ h5 ⟨g5, y0, rfl, oyy, zyy⟩
  have l5 := g5.le
  refine ⟨fun _ => g5, ?_⟩
  have G := G.trans g5
  have Gw := Gw.trans g5
  have ogg := ogg.grow g5
  try simp (maxSteps := 10000000) (disch := omega)
  refine callW_of (c264 _ _ _ ((unpackK X0).1) oyy.vr (vw.grow Gw)) ?_
  rintro v0 h0 ⟨rfl, rfl⟩
  refine ⟨fun _ => Grows.refl _, ?_⟩
  try simp (maxSteps := 10000000) (disch := omega)
  have cb6 := cvd_le_shKepts ((unpackK X0).1)
  refine callW_of (c278 _ _ ((unpackK X0).1) 1 ogg.vr (by omega)) ?_
  rintro v0 h6 ⟨rfl, g6⟩
  have l6 := g6.le
  refine ⟨fun _ => g6, ?_⟩
  rw [← hk3]
  have G := G.trans g6
  have Gw := Gw.trans g6
  have ogg := ogg.grow g6
  have oyy := oyy.grow g6
  try simp (maxSteps := 10000000) (disch := omega)
end Am

/- The contract of the law FnExactImageFault; written by a program (lawgen.py). -/
import Derived.Test.YtljclhpcpjkihaaAmP10
set_option linter.unusedVariables false
set_option linter.unusedSimpArgs false
set_option maxRecDepth 20000
set_option maxHeartbeats 2000000
namespace Am
open Go

theorem law218 (h : Heap) (vs : List Value) (hp : 0 < h.length) (ha : All2 (ArgR h) [.str] vs) : ACall Gam 218 vs h fun v _ => v = .bool true := by
  obtain ⟨v0, vs0, rfl, b0, ha⟩ := all2_cons ha
  obtain rfl := all2_nil ha
  obtain ⟨X0, rfl, wf0⟩ := b0.str
  have G : Grows h h := Grows.refl h
  refine ACall_intro g218 rfl ?_
  unfold fn218
  try simp (maxSteps := 10000000) (disch := omega)
  refine fork_dec (fun hb => ?_) (fun hb => ?_)
  · simp (maxSteps := 10000000)
  have hs0 : X0.length ≤ 1048576 := by omega
  try simp (maxSteps := 10000000) (disch := omega)
  refine callW_of (c381 _ (pos_of hp G) X0 hs0) ?_
  rintro w h1 ⟨g1, rfl⟩
  have l1 := g1.le
  refine ⟨fun _ => g1, ?_⟩
  have G := G.trans g1
  try simp (maxSteps := 10000000) (disch := omega)
  refine callW_of (c88 _ (pos_of hp G) X0 hs0) ?_
  rintro gg h2 ⟨g2, rfl⟩
  have l2 := g2.le
  refine ⟨fun _ => g2, ?_⟩
  have G := G.trans g2
  try simp (maxSteps := 10000000) (disch := omega)
end Am

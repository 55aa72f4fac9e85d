/- The contract of the law FnExactCurvesAlong; written by a program (lawgen.py). -/
import Derived.Test.YtnklgbafjppgoaaAmK5
import Derived.Test.YtnklgbafjppgoaaAmK2
set_option linter.unusedVariables false
set_option linter.unusedSimpArgs false
set_option maxRecDepth 20000
set_option maxHeartbeats 2000000
namespace Am
open Go

theorem law209 (h : Heap) (vs : List Value) (hp : 0 < h.length) (ha : All2 (ArgR h) [shJournal] vs) : ACall Gam 209 vs h fun v _ => v = .bool true := by
 obtain ⟨v0, vs0, rfl, b0, ha⟩ := all2_cons ha
 obtain rfl := all2_nil ha
 obtain ⟨X0, va0⟩ := b0.vr
 obtain ⟨a0qa, a0qb, a0qc, a0qd, a0qe, rfl⟩ := va0.journal5
 have G : Grows h h := Grows.refl h
 refine ACall_intro g209 rfl ?_
 unfold fn209
 try simp (maxSteps := 10000000) (disch := omega)
 refine callW_of (c291J _ _ X0 (1048576) va0 (by omega)) ?_
 rintro v0 h0 ⟨e0, rfl⟩
 refine ⟨fun _ => Grows.refl _, ?_⟩
 subst e0
 by_cases hs0 : siz shJournal X0 ≤ 1048576
 rotate_left
 ·rw [if_neg hs0]
  simp (maxSteps := 10000000) (disch := omega)
 rw [if_pos hs0]
 obtain ⟨left0, hl0⟩ : ∃ k, k = 1048576 - siz shJournal X0 := ⟨_, rfl⟩
 rw [← hl0]
 have hs0 : siz shJournal X0 ≤ 1048576 := by omega
 try simp (maxSteps := 10000000) (disch := omega)
 refine callW_of (c298J _ _ X0 (pos_of hp G) (va0.grow G) hs0) ?_
 rintro t0 h1 ⟨g1, ot0⟩
 have l1 := g1.le
 refine ⟨fun _ => g1, ?_⟩
 obtain ⟨t0n1qa, t0n1qb, t0n1qc, t0n1qd, t0n1qe, rfl⟩ := ot0.vr.journal5
 have G := G.trans g1
 try simp (maxSteps := 10000000) (disch := omega)
 refine callW_of (c342 _ (pos_of hp G) _ X0 ot0.vr hs0) ?_
 rintro _ h2 ⟨g2, w0, rfl, ow, zw⟩
 have l2 := g2.le
 refine ⟨fun _ => g2, ?_⟩
 have G := G.trans g2
 have vw := ow.vr
 have Gw : Grows h2 h2 := Grows.refl _
 try simp (maxSteps := 10000000) (disch := omega)
 refine callW_of (c298J _ _ X0 (pos_of hp G) (va0.grow G) hs0) ?_
 rintro x0 h3 ⟨g3, ox0⟩
 have l3 := g3.le
 refine ⟨fun _ => g3, ?_⟩
 obtain ⟨x0n3qa, x0n3qb, x0n3qc, x0n3qd, x0n3qe, rfl⟩ := ox0.vr.journal5
 have G := G.trans g3
 have Gw := Gw.trans g3
 try simp (maxSteps := 10000000) (disch := omega)
 refine callW_of (c74 _ (pos_of hp G) _ X0 ox0.vr hs0) ?_
 rintro _ h4 ⟨g4, gg0, rfl, ogg, zgg⟩
 have l4 := g4.le
 refine ⟨fun _ => g4, ?_⟩
 have G := G.trans g4
 have Gw := Gw.trans g4
 have ox0 := ox0.grow g4
 try simp (maxSteps := 10000000) (disch := omega)
 refine callW_of (c259 _ _ _ ((alongA X0).1) ogg.vr (vw.grow Gw)) ?_
 rintro v0 h0 ⟨rfl, rfl⟩
 refine ⟨fun _ => Grows.refl _, ?_⟩
 try simp (maxSteps := 10000000) (disch := omega)
 refine callW_of (c298J _ _ X0 (pos_of hp G) (va0.grow G) hs0) ?_
 rintro u0 h5 ⟨g5, ou0⟩
 have l5 := g5.le
 refine ⟨fun _ => g5, ?_⟩
 obtain ⟨u0n5qa, u0n5qb, u0n5qc, u0n5qd, u0n5qe, rfl⟩ := ou0.vr.journal5
 have G := G.trans g5
 have Gw := Gw.trans g5
 have ox0 := ox0.grow g5
 have ogg := ogg.grow g5
 try simp (maxSteps := 10000000) (disch := omega)
 refine callW_of (c260J _ _ _ X0 ox0.vr ou0.vr) ?_
 rintro v0 h0 ⟨rfl, rfl⟩
 refine ⟨fun _ => Grows.refl _, ?_⟩
 try simp (maxSteps := 10000000) (disch := omega)
 have cb6 := cvd_le_shJournal (X0)
 have zb6 := hs0
 refine callW_of (c283J _ _ _ _ X0 1 ox0 (by omega)) ?_
 rintro v0 h6 ⟨rfl, m6, ox0⟩
 have l6 := m6.1
 refine ⟨fun e => (by cases e), ?_⟩
 obtain ⟨k6, hk6⟩ : ∃ k, k = 1 + cvd shJournal X0 := ⟨_, rfl⟩
 rw [← hk6]
 have G := m6.grows G (by omega)
 have Gw := m6.grows Gw (by omega)
 have ogg := ogg.mod m6 (by omega)
 try simp (maxSteps := 10000000) (disch := omega)
 refine callW_of (c259 _ _ _ ((alongA X0).1) ogg.vr (vw.grow Gw)) ?_
 rintro v0 h0 ⟨rfl, rfl⟩
 refine ⟨fun _ => Grows.refl _, ?_⟩
 try simp (maxSteps := 10000000) (disch := omega)
 have cb7 := cvd_le_shInts (((alongA X0).1))
 have zb7 := zgg
 refine callW_of (c282 _ _ _ _ ((alongA X0).1) 1 ogg (by omega)) ?_
 rintro v0 h7 ⟨rfl, m7, ogg⟩
 have l7 := m7.1
 refine ⟨fun e => (by cases e), ?_⟩
 obtain ⟨k7, hk7⟩ : ∃ k, k = 1 + cvd shInts ((alongA X0).1) := ⟨_, rfl⟩
 rw [← hk7]
 have G := m7.grows G (by omega)
 have Gw := m7.grows Gw (by omega)
 try simp (maxSteps := 10000000) (disch := omega)
 have cb8 := cvd_le_shInts ((alongA X0).1)
 refine callW_of (c275 _ _ ((alongA X0).1) 1 ogg.vr (by omega)) ?_
 rintro v0 h8 ⟨rfl, g8⟩
 have l8 := g8.le
 refine ⟨fun _ => g8, ?_⟩
 rw [← hk7]
 have G := G.trans g8
 have Gw := Gw.trans g8
 have ogg := ogg.grow g8
 try simp (maxSteps := 10000000) (disch := omega)
 refine callW_of (c298J _ _ X0 (pos_of hp G) (va0.grow G) hs0) ?_
 rintro y0 h9 ⟨g9, oy0⟩
 have l9 := g9.le
 refine ⟨fun _ => g9, ?_⟩
 obtain ⟨y0n9qa, y0n9qb, y0n9qc, y0n9qd, y0n9qe, rfl⟩ := oy0.vr.journal5
 have G := G.trans g9
 have Gw := Gw.trans g9
 have ogg := ogg.grow g9
 try simp (maxSteps := 10000000) (disch := omega)
 refine callW_of (c74 _ (pos_of hp G) _ X0 oy0.vr hs0) ?_
 rintro _ h10 ⟨g10, y0, rfl, oyy, zyy⟩
 have l10 := g10.le
 refine ⟨fun _ => g10, ?_⟩
 have G := G.trans g10
 have Gw := Gw.trans g10
 have ogg := ogg.grow g10
 try simp (maxSteps := 10000000) (disch := omega)
 refine callW_of (c259 _ _ _ ((alongA X0).1) oyy.vr (vw.grow Gw)) ?_
 rintro v0 h0 ⟨rfl, rfl⟩
 refine ⟨fun _ => Grows.refl _, ?_⟩
 try simp (maxSteps := 10000000) (disch := omega)
 have cb11 := cvd_le_shInts ((alongA X0).1)
 refine callW_of (c275 _ _ ((alongA X0).1) 1 ogg.vr (by omega)) ?_
 rintro v0 h11 ⟨rfl, g11⟩
 have l11 := g11.le
 refine ⟨fun _ => g11, ?_⟩
 rw [← hk7]
 have G := G.trans g11
 have Gw := Gw.trans g11
 have ogg := ogg.grow g11
 have oyy := oyy.grow g11
 try simp (maxSteps := 10000000) (disch := omega)
end Am

/- The contract of the law FnSquashed. -/
import Derived.Test.YtaeaaogpdipjfaaAmK8
set_option linter.unusedVariables false
set_option linter.unusedSimpArgs false
set_option maxHeartbeats 4000000
set_option maxRecDepth 20000
namespace Am
open Go

theorem law256 (h : Heap) (vs : List Value) (hp : 0 < h.length) (ha : All2 (ArgR h) [shBytes] vs) : ACall Gam 256 vs h fun v _ => v = .bool true := by
  obtain ⟨v0, vs0, rfl, b0, ha⟩ := all2_cons ha
  obtain rfl := all2_nil ha
  obtain ⟨(X : List Int), va⟩ := b0.vr
  refine ACall_intro g256 rfl ?_
  unfold fn256
  rw [awp_seq, awp_reg]
  generalize hK : seqQ Gam _ _ 0 = K
  simp (disch := omega)
  subst hK
  simp only [seqQ_zero]
  rw [awp_seq]
  generalize hK : seqQ Gam _ _ = K
  simp (disch := omega)
  refine callW_of (c258 h v0 _ X [] va nil_bytes) ?_
  rintro _ h1 ⟨rfl, rfl⟩
  generalize (decide (3000 < X.length) || decide (3000 < ([] : List Int).length)) = w
  cases w
  rotate_left
  · subst hK
    simp (disch := omega)
  simp (disch := omega)
  subst hK
  simp only [seqQ_zero]
  rw [awp_seq, awp_reg]
  generalize hK : seqQ Gam _ _ 0 = K
  simp (disch := omega)
  refine callW_of (c327 h1 v0 X va) ?_
  rintro _ h2 ⟨J, okX, hJn, G, ov⟩
  have vJ := ov.vr
  have hs := okJ_siz okX
  obtain ⟨b1', z1, b2, z2, b3, z3, rest, rfl, _, i1, _⟩ := ov
  have hp2 : 0 < h2.length := pos_of hp G
  obtain ⟨⟨W, H, br⟩, p, f⟩ := J
  simp only at vJ hJn ⊢
  have S := sq_ok okX
  have A := along_ok okX
  obtain ⟨st, est⟩ : ∃ st, st = startB ((W, H, br), p, f) := ⟨_, rfl⟩
  obtain ⟨Sok, Slen, Sst, Sfin⟩ := S
  rw [← est] at Sok Slen Sst Sfin
  obtain ⟨D, eD⟩ : ∃ D, D = dpre st br br.length := ⟨_, rfl⟩
  rw [← eD] at Sok Slen Sst
  have esq : sqAns ((W, H, br), p, f) = (((W, H, br), D, []), 0) := by unfold sqAns; rw [okX, ← est]; simp only [if_true]; rw [← eD]
  have ost : OkP (W, H, st) := by
    have := A.ok 0 (by omega)
    simpa [fwdB, ← est] using this
  have obr : OkP (W, H, br) := (okJ_parts okX).1
  have sD := okJ_siz Sok
  simp (disch := omega)
  subst hK
  simp only [seqQ_zero]
  -- the squashed journal
  rw [awp_seq, awp_reg]
  generalize hK : seqQ Gam _ _ 0 = K
  simp (disch := omega)
  refine callW_of (c131 h2 hp2 _ _ vJ hs) ?_
  rintro _ h3 ⟨g3, r0, rfl, o3, _⟩
  try refine ⟨fun e => (by first | exact g3 | cases e), ?_⟩
  rw [esq] at o3 ⊢
  have vD : Vr h3 shJournal r0 ((W, H, br), D, []) := o3.vr
  have vD' := vD
  obtain ⟨sb, sp, sf, rfl, w1, w2, r1, r2, r3⟩ := vD.journal
  obtain ⟨pb, po, pz, rfl, _⟩ := r2.trips
  obtain ⟨fb, fo, fz, rfl, _⟩ := r3.trips
  have hp3 := pos_of hp2 g3
  clear o3 vD
  simp only [List.length_nil] at vD'
  simp (disch := omega)
  subst hK
  simp only [seqQ_zero]
  rw [awp_seq]
  generalize hK : seqQ Gam _ _ = K
  simp (disch := omega)
  refine callW_of (c427 h3 hp3 _ _ vD' sD) ?_
  rintro _ h4 ⟨g4, rfl⟩
  try refine ⟨fun e => (by first | exact g4 | cases e), ?_⟩
  rw [Sok]
  have hp4 := pos_of hp3 g4
  have hgt : ¬ (p.length : Int) < D.length := by omega
  have hgt' : ¬ p.length < D.length := by omega
  simp (disch := omega) [hgt, hgt']
  subst hK
  simp only [seqQ_zero]
  -- where both begin
  rw [awp_seq, awp_reg]
  generalize hK : seqQ Gam _ _ 0 = K
  simp (disch := omega)
  refine callW_of (c423 h4 hp4 _ _ (vD'.grow g4) sD) ?_
  rintro _ h5 ⟨g5, u5, rfl, o5, _⟩
  try refine ⟨fun e => (by first | exact g5 | cases e), ?_⟩
  have e5 : stAns ((W, H, br), D, []) = ((W, H, st), 0) := by unfold stAns; rw [Sok, Sst]; rfl
  rw [e5] at o5 ⊢
  have v5 : Vr h5 shPanel u5 (W, H, st) := o5.vr
  have v5' := v5
  obtain ⟨s5, rfl, _, _, _⟩ := v5.panel
  have hp5 := pos_of hp4 g5
  clear o5 v5
  simp (disch := omega)
  subst hK
  simp only [seqQ_zero]
  rw [awp_seq, awp_reg]
  generalize hK : seqQ Gam _ _ 0 = K
  simp (disch := omega)
  have G25 := (g3.trans g4).trans g5
  refine callW_of (c423 h5 hp5 _ _ (vJ.grow G25) hs) ?_
  rintro _ h6 ⟨g6, u6, rfl, o6, _⟩
  try refine ⟨fun e => (by first | exact g6 | cases e), ?_⟩
  have e6 : stAns ((W, H, br), p, f) = ((W, H, st), 0) := by unfold stAns; rw [okX, ← est]; rfl
  rw [e6] at o6 ⊢
  have v6 : Vr h6 shPanel u6 (W, H, st) := o6.vr
  have v6' := v6
  obtain ⟨s6, rfl, _, _, _⟩ := v6.panel
  have hp6 := pos_of hp5 g6
  clear o6 v6
  simp (disch := omega)
  subst hK
  simp only [seqQ_zero]
  -- the numbers of curves
  rw [awp_seq, awp_reg]
  generalize hK : seqQ Gam _ _ 0 = K
  simp (disch := omega)
  have G26 := G25.trans g6
  refine callW_of (c74 h6 hp6 _ _ (vJ.grow G26) hs) ?_
  rintro _ h7 ⟨g7, u7, rfl, o7, _⟩
  try refine ⟨fun e => (by first | exact g7 | cases e), ?_⟩
  obtain ⟨L, eL⟩ : ∃ L, L = alongL ((W, H, br), p, f) (p.length + 1) := ⟨_, rfl⟩
  have e7 : alongA ((W, H, br), p, f) = (L, 0) := by unfold alongA; rw [okX, eL]; rfl
  rw [e7] at o7 ⊢
  have v7 : Vr h7 shInts u7 L := o7.vr
  obtain ⟨lb, lo, lz, e, _⟩ := v7.ints
  subst e
  have hLl : L.length = p.length + 1 := by rw [eL, alongL_len]
  obtain ⟨_, hLc⟩ := v7.int_cell
  have hLg : ∀ i (hi : i < L.length), L[i] = (curveN (W, H, fwdB p st i) : Int) := by
    intro i hi
    subst eL
    rw [alongL_get hi, ← est]
  have hp7 := pos_of hp6 g7
  rw [hLl]
  clear o7
  simp (disch := omega)
  subst hK
  simp only [seqQ_zero]
  rw [awp_seq]
  generalize hK : seqQ Gam _ _ = K
  simp (disch := omega)
  refine callW_of (c420 h7 _ _ (W, H, st) (W, H, st) (v5'.grow (g6.trans g7)) (v6'.grow g7)) ?_
  rintro _ h8 ⟨rfl, g8⟩
  rw [samP_refl]
  try refine ⟨fun e => (by first | exact g8 | cases e), ?_⟩
  simp (disch := omega)
  refine callW_of (c420 h8 _ _ (W, H, br) (W, H, br) (vD'.grow (((g4.trans g5).trans (g6.trans g7)).trans g8)).jpanel (vJ.grow ((G26.trans g7).trans g8)).jpanel) ?_
  rintro _ h9 ⟨rfl, g9⟩
  rw [samP_refl]
  try refine ⟨fun e => (by first | exact g9 | cases e), ?_⟩
  have hp9 := pos_of (pos_of hp7 g8) g9
  simp (disch := omega) [wrap64]
  subst hK
  simp only [seqQ_zero]
  rw [awp_seq, awp_reg]
  generalize hK : seqQ Gam _ _ 0 = K
  simp (disch := omega)
  have sst : siz shPanel ((W, H, st) : Pan) ≤ 1048576 := by have := ost.siz; rw [siz_panel]; simp only at this; omega
  have sbr : siz shPanel ((W, H, br) : Pan) ≤ 1048576 := by have := obr.siz; rw [siz_panel]; simp only at this; omega
  refine callW_of (c340 h9 hp9 _ _ (v6'.grow ((g7.trans g8).trans g9)) sst) ?_
  rintro _ h10 ⟨g10, rfl⟩
  try refine ⟨fun e => (by first | exact g10 | cases e), ?_⟩
  have ec1 : curveA (W, H, st) = ((curveN (W, H, st) : Int), 0) := by unfold curveA; rw [okP_iff.2 ost]; rfl
  have ec2 : curveA (W, H, br) = ((curveN (W, H, br) : Int), 0) := by unfold curveA; rw [okP_iff.2 obr]; rfl
  have hp10 := pos_of hp9 g10
  rw [ec1]
  simp (disch := omega)
  subst hK
  simp only [seqQ_zero]
  rw [awp_seq, awp_reg]
  generalize hK : seqQ Gam _ _ 0 = K
  simp (disch := omega)
  refine callW_of (c340 h10 hp10 _ _ ((vJ.grow ((G26.trans g7).trans g8)).grow (g9.trans g10)).jpanel sbr) ?_
  rintro _ h11 ⟨g11, rfl⟩
  try refine ⟨fun e => (by first | exact g11 | cases e), ?_⟩
  rw [ec2]
  simp (disch := omega)
  subst hK
  simp only [seqQ_zero]
  -- first, last
  have G711 := ((g8.trans g9).trans g10).trans g11
  have hc : ∀ i (hi : i < L.length), cell h11 lb (lo + i) = some (I L[i]) := fun i hi => G711.cell (hLc i hi)
  have c0 := hc 0 (by omega)
  rw [hLg 0 (by omega)] at c0
  have f0 : fwdB p st 0 = st := rfl
  rw [f0, Nat.add_zero] at c0
  have cl := hc p.length (by omega)
  rw [hLg p.length (by omega), Sfin] at cl
  rw [awp_seq]
  generalize hK : seqQ Gam _ _ = K
  have i1 : (p.length : Int) + 1 - 1 = p.length := by omega
  have i2 : (0 : Int) < (p.length : Int) + 1 := by omega
  have i3 : (p.length : Int) < (p.length : Int) + 1 := by omega
  simp (disch := omega) [c0, cl, i1, i2, i3, wrap64]
  subst hK
  simp only [seqQ_zero]
  -- each beside the next
  rw [awp_seq]
  generalize hK : seqQ Gam _ _ = K
  simp (disch := omega)
  refine awp_loop (fun (k : Nat) σ h' => h' = h11 ∧ 1 ≤ k ∧ k ≤ p.length + 1 ∧ σ 10 = sl lb lo (p.length + 1) lz ∧ σ 16 = I k) (fun k => p.length + 1 - k) 1 ?_ ?_
  · exact ⟨rfl, by omega, by omega, by simp, by simp⟩
  · rintro k σ h' ⟨rfl, hk1, hk, q10, q16⟩
    simp (disch := omega) [q10, q16]
    refine fork_dec (fun hlt => ?_) (fun hge => ?_)
    · obtain ⟨j, rfl⟩ : ∃ j, k = j + 1 := ⟨k - 1, by omega⟩
      have hj : j < p.length := by omega
      have near := along_near okX hj
      rw [← est] at near
      have ca := hc (j + 1) (by omega)
      have cb := hc j (by omega)
      rw [hLg (j + 1) (by omega)] at ca
      rw [hLg j (by omega)] at cb
      obtain ⟨x, hx⟩ : ∃ x, x = curveN (W, H, fwdB p st j) := ⟨_, rfl⟩
      obtain ⟨y, hy⟩ : ∃ y, y = curveN (W, H, fwdB p st (j + 1)) := ⟨_, rfl⟩
      have bx := curveN_le (A.ok j (by omega))
      have by_ := curveN_le (A.ok (j + 1) (by omega))
      rw [← est] at bx by_
      rw [← hx] at near cb bx
      rw [← hy] at near ca by_
      have k1 : ((j : Int) + 1) - 1 = j := by omega
      have k2 : (j : Int) < (p.length : Int) + 1 := by omega
      have k3 : (j : Int) + 1 < (p.length : Int) + 1 := by omega
      have n1 : ¬ (x : Int) + 1 < y := by omega
      have n2 : ¬ (y : Int) < (x : Int) - 1 := by omega
      have k4 : (0 : Int) ≤ (j : Int) + 1 := by omega
      have k5 : ((j : Int) + 1).toNat = j + 1 := by omega
      simp (disch := omega) [q10, q16, ca, cb, k1, k2, k3, k4, k5, n1, n2, wrap64]
      exact ⟨j + 2, ⟨by omega, by omega, by omega⟩, by omega⟩
    · simp (disch := omega)
      subst hK
      simp (disch := omega)
end Am

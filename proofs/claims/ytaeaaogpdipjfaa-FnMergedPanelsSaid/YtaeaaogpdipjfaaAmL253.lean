/- The contract of the law FnMergedPanels. -/
import Derived.Test.YtaeaaogpdipjfaaAmK9
import Derived.Test.YtaeaaogpdipjfaaAmK8
set_option linter.unusedVariables false
set_option linter.unusedSimpArgs false
set_option maxHeartbeats 4000000
set_option maxRecDepth 20000
namespace Am
open Go

theorem curveA_le {X : Pan} {c : Int} (h : curveA X = (c, 0)) : 0 ≤ c ∧ c ≤ 256 := by
  unfold curveA at h
  split at h
  · rename_i hok
    have := curveN_le (okP_iff.1 hok)
    simp only [Prod.mk.injEq, and_true] at h
    omega
  · simp at h
theorem pan_siz {P : Pan} (h : P.2.2.length ≤ 200) : siz shPanel P ≤ 1048576 := by
  rw [show P = (P.1, P.2.1, P.2.2) from rfl, siz_panel]; omega

theorem law253 (h : Heap) (vs : List Value) (hp : 0 < h.length) (ha : All2 (ArgR h) [shBytes] vs) : ACall Gam 253 vs h fun v _ => v = .bool true := by
  obtain ⟨v0, vs0, rfl, b0, ha⟩ := all2_cons ha
  obtain rfl := all2_nil ha
  obtain ⟨(X : List Int), va⟩ := b0.vr
  refine ACall_intro g253 rfl ?_
  unfold fn253
  rw [awp_seq, awp_reg]
  generalize hK : seqQ Gam _ _ 0 = K
  try simp (disch := omega)
  subst hK
  simp only [seqQ_zero]
  rw [awp_seq]
  generalize hK : seqQ Gam _ _ = K
  try simp (disch := omega)
  refine callW_of (c269 h v0 X va) ?_
  rintro _ h1 ⟨rfl, rfl⟩
  generalize decide (4096 < X.length) = w
  cases w
  rotate_left
  · subst hK
    try simp (disch := omega)
  try simp (disch := omega)
  subst hK
  simp only [seqQ_zero]
  rw [awp_seq, awp_reg]
  generalize hK : seqQ Gam _ _ 0 = K
  try simp (disch := omega)
  refine callW_of (c359 h1 v0 X hp va) ?_
  rintro _ h2 ⟨B, P, Q, r0, r1, r2, rfl, ⟨hBl, hPl, hQl⟩, g2, vB, vP, vQ⟩
  try refine ⟨fun e => (by first | exact g2 | cases e), ?_⟩
  obtain ⟨ba, bb, bc, rfl⟩ := vB.panel3
  obtain ⟨pa, pb, pc, rfl⟩ := vP.panel3
  obtain ⟨qa, qb, qc, rfl⟩ := vQ.panel3
  have hp2 := pos_of hp g2
  have sB := pan_siz hBl
  have sP := pan_siz hPl
  have sQ := pan_siz hQl
  have G2 : Grows h2 h2 := Grows.refl _
  try simp (disch := omega)
  subst hK
  simp only [seqQ_zero]
  rw [awp_seq, awp_reg]
  generalize hK : seqQ Gam _ _ 0 = K
  try simp (disch := omega)
  refine callW_of (c98 h2 hp2 _ B (vB.grow G2) sB _ P (vP.grow G2) sP _ Q (vQ.grow G2) sQ) ?_
  rintro _ h3 ⟨g3, r3, rfl, o3, _⟩
  try refine ⟨fun e => (by first | exact g3 | cases e), ?_⟩
  have hp3 := pos_of hp2 g3
  have G3 := G2.trans g3
  obtain ⟨me, hme⟩ : ∃ me, me = mergeAns B P Q := ⟨_, rfl⟩
  rw [← hme] at o3 ⊢
  have v3 := o3.vr
  obtain ⟨xa3, xb3, xc3, rfl⟩ := v3.panel3
  clear o3
  try simp (disch := omega)
  subst hK
  simp only [seqQ_zero]
  rw [awp_seq, awp_reg]
  generalize hK : seqQ Gam _ _ 0 = K
  try simp (disch := omega)
  refine callW_of (c391 h3 hp3 _ B (vB.grow G3) sB _ P (vP.grow G3) sP _ Q (vQ.grow G3) sQ) ?_
  rintro _ h4 ⟨g4, r4, rfl, o4, _⟩
  try refine ⟨fun e => (by first | exact g4 | cases e), ?_⟩
  have hp4 := pos_of hp3 g4
  have G4 := G3.trans g4
  rw [← hme] at o4 ⊢
  have v4 := o4.vr
  obtain ⟨xa4, xb4, xc4, rfl⟩ := v4.panel3
  clear o4
  try simp (disch := omega)
  subst hK
  simp only [seqQ_zero]
  rw [awp_seq, awp_reg]
  generalize hK : seqQ Gam _ _ 0 = K
  try simp (disch := omega)
  refine callW_of (c65 h4 hp4 _ B (vB.grow G4) sB _ P (vP.grow G4) sP _ Q (vQ.grow G4) sQ) ?_
  rintro _ h5 ⟨g5, r5, rfl, o5, _⟩
  try refine ⟨fun e => (by first | exact g5 | cases e), ?_⟩
  have hp5 := pos_of hp4 g5
  have G5 := G4.trans g5
  obtain ⟨cl, hcl⟩ : ∃ cl, cl = clashAns B P Q := ⟨_, rfl⟩
  rw [← hcl] at o5 ⊢
  have v5 := o5.vr
  have v5' := v5
  obtain ⟨tb5, to5, tz5, rfl, _⟩ := v5'.ints
  clear o5
  try simp (disch := omega)
  subst hK
  simp only [seqQ_zero]
  rw [awp_seq, awp_reg]
  generalize hK : seqQ Gam _ _ 0 = K
  try simp (disch := omega)
  refine callW_of (c334 h5 hp5 _ B (vB.grow G5) sB _ P (vP.grow G5) sP _ Q (vQ.grow G5) sQ) ?_
  rintro _ h6 ⟨g6, r6, rfl, o6, _⟩
  try refine ⟨fun e => (by first | exact g6 | cases e), ?_⟩
  have hp6 := pos_of hp5 g6
  have G6 := G5.trans g6
  rw [← hcl] at o6 ⊢
  have v6 := o6.vr
  have v6' := v6
  obtain ⟨tb6, to6, tz6, rfl, _⟩ := v6'.ints
  clear o6
  try simp (disch := omega)
  subst hK
  simp only [seqQ_zero]
  rw [awp_seq, awp_reg]
  generalize hK : seqQ Gam _ _ 0 = K
  try simp (disch := omega)
  refine callW_of (c365 h6 v0 X hp6 (va.grow (g2.trans G6))) ?_
  rintro _ h7 ⟨U, V, x, y, r0, r1, rfl, ⟨hUl, hVl⟩, ⟨x64, y64⟩, g7, vU, vV⟩
  try refine ⟨fun e => (by first | exact g7 | cases e), ?_⟩
  obtain ⟨ua, ub, uc, rfl⟩ := vU.panel3
  obtain ⟨V1, V2, V3⟩ := V
  obtain ⟨vc, rfl, V164, V264, _⟩ := vV.panel
  have hp7 := pos_of hp6 g7
  have G7 := G6.trans g7
  have sU := pan_siz hUl
  have sV := pan_siz hVl
  have J7 : Grows h7 h7 := Grows.refl _
  try simp (disch := omega)
  subst hK
  simp only [seqQ_zero]
  rw [awp_seq, awp_reg]
  generalize hK : seqQ Gam _ _ 0 = K
  try simp (disch := omega)
  refine callW_of (c114 h7 hp7 _ U (vU.grow J7) sU x x64 y y64 _ (V1, V2, V3) (vV.grow J7) sV) ?_
  rintro _ h8 ⟨g8, r8, rfl, o8, _⟩
  try refine ⟨fun e => (by first | exact g8 | cases e), ?_⟩
  have hp8 := pos_of hp7 g8
  have G8 := G7.trans g8
  obtain ⟨pa', hpa'⟩ : ∃ pa', pa' = pasteAns U x y (V1, V2, V3) := ⟨_, rfl⟩
  rw [← hpa'] at o8 ⊢
  have v8 := o8.vr
  obtain ⟨xa8, xb8, xc8, rfl⟩ := v8.panel3
  clear o8
  try simp (disch := omega)
  subst hK
  simp only [seqQ_zero]
  have J8 := J7.trans g8
  rw [awp_seq, awp_reg]
  generalize hK : seqQ Gam _ _ 0 = K
  try simp (disch := omega)
  refine callW_of (c406 h8 hp8 _ U (vU.grow J8) sU x x64 y y64 _ (V1, V2, V3) (vV.grow J8) sV) ?_
  rintro _ h9 ⟨g9, r9, rfl, o9, _⟩
  try refine ⟨fun e => (by first | exact g9 | cases e), ?_⟩
  have hp9 := pos_of hp8 g9
  have G9 := G8.trans g9
  rw [← hpa'] at o9 ⊢
  have v9 := o9.vr
  obtain ⟨xa9, xb9, xc9, rfl⟩ := v9.panel3
  clear o9
  try simp (disch := omega)
  subst hK
  simp only [seqQ_zero]
  have J9 := J8.trans g9
  rw [awp_seq, awp_reg]
  generalize hK : seqQ Gam _ _ 0 = K
  try simp (disch := omega)
  refine callW_of (c364 h9 v0 X hp9 (va.grow (g2.trans G9))) ?_
  rintro _ h10 ⟨R, x1, y1, w1, z1, r0, rfl, hRl, ⟨x164, y164, w164, z164⟩, g10, vR⟩
  try refine ⟨fun e => (by first | exact g10 | cases e), ?_⟩
  obtain ⟨ra, rb, rc, rfl⟩ := vR.panel3
  have hp10 := pos_of hp9 g10
  have G10 := G9.trans g10
  have J10 := J9.trans g10
  have sR := pan_siz hRl
  have M10 : Grows h10 h10 := Grows.refl _
  try simp (disch := omega)
  subst hK
  simp only [seqQ_zero]
  rw [awp_seq, awp_reg]
  generalize hK : seqQ Gam _ _ 0 = K
  try simp (disch := omega)
  refine callW_of (c111 h10 hp10 _ R (vR.grow M10) sR x1 x164 y1 y164 w1 w164 z1 z164) ?_
  rintro _ h11 ⟨g11, r11, rfl, o11, _⟩
  try refine ⟨fun e => (by first | exact g11 | cases e), ?_⟩
  have hp11 := pos_of hp10 g11
  have G11 := G10.trans g11
  obtain ⟨pt1, hpt1⟩ : ∃ pt1, pt1 = partAns R x1 y1 w1 z1 := ⟨_, rfl⟩
  rw [← hpt1] at o11 ⊢
  have v11 := o11.vr
  obtain ⟨xa11, xb11, xc11, rfl⟩ := v11.panel3
  clear o11
  try simp (disch := omega)
  subst hK
  simp only [seqQ_zero]
  have J11 := J10.trans g11
  have M11 := M10.trans g11
  rw [awp_seq, awp_reg]
  generalize hK : seqQ Gam _ _ 0 = K
  try simp (disch := omega)
  refine callW_of (c403 h11 hp11 _ R (vR.grow M11) sR x1 x164 y1 y164 w1 w164 z1 z164) ?_
  rintro _ h12 ⟨g12, r12, rfl, o12, _⟩
  try refine ⟨fun e => (by first | exact g12 | cases e), ?_⟩
  have hp12 := pos_of hp11 g12
  have G12 := G11.trans g12
  rw [← hpt1] at o12 ⊢
  have v12 := o12.vr
  obtain ⟨xa12, xb12, xc12, rfl⟩ := v12.panel3
  clear o12
  try simp (disch := omega)
  subst hK
  simp only [seqQ_zero]
  have J12 := J11.trans g12
  rw [awp_seq, awp_reg]
  generalize hK : seqQ Gam _ _ 0 = K
  try simp (disch := omega)
  refine callW_of (c355 h12 v0 X hp12 (va.grow (g2.trans G12))) ?_
  rintro _ h13 ⟨C, D, r0, r1, rfl, ⟨hCl, hDl⟩, g13, vC, vD⟩
  try refine ⟨fun e => (by first | exact g13 | cases e), ?_⟩
  obtain ⟨ca, cb, cc, rfl⟩ := vC.panel3
  obtain ⟨da, db, dc, rfl⟩ := vD.panel3
  have hp13 := pos_of hp12 g13
  have G13 := G12.trans g13
  have J13 := J12.trans g13
  have sC := pan_siz hCl
  have sD := pan_siz hDl
  have N13 : Grows h13 h13 := Grows.refl _
  try simp (disch := omega)
  subst hK
  simp only [seqQ_zero]
  rw [awp_seq, awp_reg]
  generalize hK : seqQ Gam _ _ 0 = K
  try simp (disch := omega)
  refine callW_of (c92 h13 hp13 _ C (vC.grow N13) sC _ D (vD.grow N13) sD) ?_
  rintro _ h14 ⟨g14, r14, rfl, o14, _⟩
  try refine ⟨fun e => (by first | exact g14 | cases e), ?_⟩
  have hp14 := pos_of hp13 g14
  have G14 := G13.trans g14
  obtain ⟨jo, hjo⟩ : ∃ jo, jo = joinAns C D := ⟨_, rfl⟩
  rw [← hjo] at o14 ⊢
  have v14 := o14.vr
  obtain ⟨xa14, xb14, xc14, rfl⟩ := v14.panel3
  clear o14
  try simp (disch := omega)
  subst hK
  simp only [seqQ_zero]
  have J14 := J13.trans g14
  have N14 := N13.trans g14
  rw [awp_seq, awp_reg]
  generalize hK : seqQ Gam _ _ 0 = K
  try simp (disch := omega)
  refine callW_of (c384 h14 hp14 _ C (vC.grow N14) sC _ D (vD.grow N14) sD) ?_
  rintro _ h15 ⟨g15, r15, rfl, o15, _⟩
  try refine ⟨fun e => (by first | exact g15 | cases e), ?_⟩
  have hp15 := pos_of hp14 g15
  have G15 := G14.trans g15
  rw [← hjo] at o15 ⊢
  have v15 := o15.vr
  obtain ⟨xa15, xb15, xc15, rfl⟩ := v15.panel3
  clear o15
  try simp (disch := omega)
  subst hK
  simp only [seqQ_zero]
  have J15 := J14.trans g15
  have N15 := N14.trans g15
  -- compared
  rw [awp_seq]
  generalize hK : seqQ Gam _ _ = K
  try simp (disch := omega)
  refine callW_of (c420 h15 _ _ me.1 me.1 (v3.grow ((((((((((((g4.trans g5).trans g6).trans g7).trans g8).trans g9).trans g10).trans g11).trans g12).trans g13).trans g14).trans g15))) (v4.grow (((((((((((g5.trans g6).trans g7).trans g8).trans g9).trans g10).trans g11).trans g12).trans g13).trans g14).trans g15)))) ?_
  rintro _ h16 ⟨rfl, g16⟩
  rw [samP_refl]
  try refine ⟨fun e => (by first | exact g16 | cases e), ?_⟩
  have hp16 := pos_of hp15 g16
  try simp (disch := omega)
  refine callW_of (c271 h16 _ _ cl.1 cl.1 (v5.grow (((((((((((g6.trans g7).trans g8).trans g9).trans g10).trans g11).trans g12).trans g13).trans g14).trans g15).trans g16))) (v6.grow ((((((((((g7.trans g8).trans g9).trans g10).trans g11).trans g12).trans g13).trans g14).trans g15).trans g16)))) ?_
  rintro _ hx ⟨rfl, ex⟩
  have ex := ex.symm
  subst ex
  try refine ⟨fun e => (by cases e), ?_⟩
  try simp (disch := omega)
  refine callW_of (c420 h16 _ _ pa'.1 pa'.1 (v8.grow ((((((((g9.trans g10).trans g11).trans g12).trans g13).trans g14).trans g15).trans g16))) (v9.grow (((((((g10.trans g11).trans g12).trans g13).trans g14).trans g15).trans g16)))) ?_
  rintro _ h17 ⟨rfl, g17⟩
  rw [samP_refl]
  try refine ⟨fun e => (by first | exact g17 | cases e), ?_⟩
  have hp17 := pos_of hp16 g17
  try simp (disch := omega)
  refine callW_of (c420 h17 _ _ pt1.1 pt1.1 (v11.grow ((((((g12.trans g13).trans g14).trans g15).trans g16).trans g17))) (v12.grow (((((g13.trans g14).trans g15).trans g16).trans g17)))) ?_
  rintro _ h18 ⟨rfl, g18⟩
  rw [samP_refl]
  try refine ⟨fun e => (by first | exact g18 | cases e), ?_⟩
  have hp18 := pos_of hp17 g18
  try simp (disch := omega)
  refine callW_of (c420 h18 _ _ jo.1 jo.1 (v14.grow ((((g15.trans g16).trans g17).trans g18))) (v15.grow (((g16.trans g17).trans g18)))) ?_
  rintro _ h19 ⟨rfl, g19⟩
  rw [samP_refl]
  try refine ⟨fun e => (by first | exact g19 | cases e), ?_⟩
  have hp19 := pos_of hp18 g19
  try simp (disch := omega)
  have T2 : Grows h2 h19 := (((((((((((((((((g3.trans g4).trans g5).trans g6).trans g7).trans g8).trans g9).trans g10).trans g11).trans g12).trans g13).trans g14).trans g15).trans g16).trans g17).trans g18).trans g19))
  have Tm : Grows h3 h19 := ((((((((((((((((g4.trans g5).trans g6).trans g7).trans g8).trans g9).trans g10).trans g11).trans g12).trans g13).trans g14).trans g15).trans g16).trans g17).trans g18).trans g19))
  have Tv : Grows h7 h19 := ((((((((((((g8.trans g9).trans g10).trans g11).trans g12).trans g13).trans g14).trans g15).trans g16).trans g17).trans g18).trans g19))
  have Tp : Grows h8 h19 := (((((((((((g9.trans g10).trans g11).trans g12).trans g13).trans g14).trans g15).trans g16).trans g17).trans g18).trans g19))
  have Tc : Grows h13 h19 := ((((((g14.trans g15).trans g16).trans g17).trans g18).trans g19))
  have Tj : Grows h14 h19 := (((((g15.trans g16).trans g17).trans g18).trans g19))
  have tail : ∀ (σ : Nat → Value) (h' : Heap), Grows h19 h' → σ 3 = .agg #[ba, bb, bc] → σ 4 = .agg #[pa, pb, pc] → σ 5 = .agg #[qa, qb, qc] → σ 6 = .agg #[xa3, xb3, xc3] → σ 7 = I me.2 → σ 31 = .agg #[ca, cb, cc] → σ 32 = .agg #[da, db, dc] → σ 33 = .agg #[xa14, xb14, xc14] → σ 34 = I jo.2 → σ 15 = I x → σ 16 = I y → σ 17 = .agg #[I V1, I V2, vc] → σ 18 = .agg #[xa8, xb8, xc8] → σ 19 = I pa'.2 → K 0 σ h' := by
    intro σ h' g' q3 q4 q5 q6 q7 q31 q32 q33 q34 q15 q16 q17 q18 q19
    have hp' := pos_of hp19 g'
    subst hK
    simp only [seqQ_zero]
    rw [awp_seq]
    generalize hK : seqQ Gam _ _ = K
    have tail2 : ∀ (σ : Nat → Value) (h' : Heap), Grows h19 h' → σ 3 = .agg #[ba, bb, bc] → σ 4 = .agg #[pa, pb, pc] → σ 5 = .agg #[qa, qb, qc] → σ 6 = .agg #[xa3, xb3, xc3] → σ 7 = I me.2 → σ 31 = .agg #[ca, cb, cc] → σ 32 = .agg #[da, db, dc] → σ 33 = .agg #[xa14, xb14, xc14] → σ 34 = I jo.2 → K 0 σ h' := by
      intro σ h' g' q3 q4 q5 q6 q7 q31 q32 q33 q34
      have hp' := pos_of hp19 g'
      subst hK
      simp only [seqQ_zero]
      rw [awp_seq]
      generalize hK : seqQ Gam _ _ = K
      have tail3 : ∀ (σ : Nat → Value) (h' : Heap), Grows h19 h' → σ 3 = .agg #[ba, bb, bc] → σ 4 = .agg #[pa, pb, pc] → σ 5 = .agg #[qa, qb, qc] → σ 6 = .agg #[xa3, xb3, xc3] → σ 7 = I me.2 → K 0 σ h' := by
        intro σ h' g' q3 q4 q5 q6 q7
        have hp' := pos_of hp19 g'
        subst hK
        simp only [seqQ_zero]
        rw [awp_seq, awp_reg]
        generalize hK : seqQ Gam _ _ 0 = K
        try simp (disch := omega) [q3, q4, q5]
        refine callW_of (c98 h' hp' _ B (vB.grow (T2.trans g')) sB _ Q (vQ.grow (T2.trans g')) sQ _ P (vP.grow (T2.trans g')) sP) ?_
        rintro _ hb ⟨gb, rb, rfl, ob, _⟩
        try refine ⟨fun e => (by first | exact gb | cases e), ?_⟩
        rw [merge_symm, ← hme] at ob ⊢
        have vb := ob.vr
        obtain ⟨ya, yb, yc, rfl⟩ := vb.panel3
        clear ob
        try simp (disch := omega)
        subst hK
        simp only [seqQ_zero]
        try simp (disch := omega) [q6, q7]
        refine callW_of (c420 hb _ _ me.1 me.1 vb (v3.grow ((Tm.trans g').trans gb))) ?_
        rintro _ hc ⟨rfl, gc⟩
        rw [samP_refl]
        try refine ⟨fun e => (by first | exact gc | cases e), ?_⟩
        try simp (disch := omega)
      clear hK
      by_cases e0 : jo.2 = 0
      · have ed : joinAns C D = (jo.1, 0) := by rw [← hjo, ← e0]
        obtain ⟨e1, e2, e3, es⟩ := join_count ed
        have b1 := curveA_le e1
        have b2 := curveA_le e2
        obtain ⟨n1, hn1⟩ : ∃ n1 : Int, n1 = curveN C := ⟨_, rfl⟩
        obtain ⟨n2, hn2⟩ : ∃ n2 : Int, n2 = curveN D := ⟨_, rfl⟩
        rw [← hn1] at e1 e3 b1
        rw [← hn2] at e2 e3 b2
        try simp (disch := omega) [q31, q34, e0]
        refine callW_of (c340 h' hp' _ C (vC.grow (Tc.trans g')) sC) ?_
        rintro _ ha ⟨ga, rfl⟩
        try refine ⟨fun e => (by first | exact ga | cases e), ?_⟩
        have hpa := pos_of hp' ga
        rw [e1]
        try simp (disch := omega) [q32]
        refine callW_of (c340 ha hpa _ D (vD.grow ((Tc.trans g').trans ga)) sD) ?_
        rintro _ hb ⟨gb, rfl⟩
        try refine ⟨fun e => (by first | exact gb | cases e), ?_⟩
        have hpb := pos_of hpa gb
        rw [e2]
        try simp (disch := omega) [q33]
        refine callW_of (c72 hb hpb _ jo.1 (v14.grow (((Tj.trans g').trans ga).trans gb))) ?_
        rintro _ hc ⟨gc, rfl⟩
        try refine ⟨fun e => (by first | exact gc | cases e), ?_⟩
        rw [e3]
        try simp (disch := omega) [wrap64]
        exact tail3 _ hc (((g'.trans ga).trans gb).trans gc) (by simp [q3]) (by simp [q4]) (by simp [q5]) (by simp [q6]) (by simp [q7])
      · try simp (disch := omega) [q34, e0]
        exact tail3 _ h' g' (by simp [q3]) (by simp [q4]) (by simp [q5]) (by simp [q6]) (by simp [q7])
    clear hK
    by_cases e0 : pa'.2 = 0
    · have ed : pasteAns U x y (V1, V2, V3) = (pa'.1, 0) := by rw [← hpa', ← e0]
      obtain ⟨ei, es⟩ := part_paste ed
      simp only at ei
      try simp (disch := omega) [q15, q16, q17, q18, q19, e0]
      refine callW_of (c111 h' hp' _ pa'.1 (v8.grow (Tp.trans g')) es x x64 y y64 V1 V164 V2 V264) ?_
      rintro _ hb ⟨gb, rb, rfl, ob, _⟩
      try refine ⟨fun e => (by first | exact gb | cases e), ?_⟩
      rw [ei] at ob ⊢
      have vb := ob.vr
      obtain ⟨ya, yb, yc, rfl⟩ := vb.panel3
      clear ob
      try simp (disch := omega) [q17]
      refine callW_of (c420 hb _ _ (V1, V2, V3) (V1, V2, V3) vb (vV.grow ((Tv.trans g').trans gb))) ?_
      rintro _ hc ⟨rfl, gc⟩
      rw [samP_refl]
      try refine ⟨fun e => (by first | exact gc | cases e), ?_⟩
      try simp (disch := omega)
      exact tail2 _ hc ((g'.trans gb).trans gc) (by simp [q3]) (by simp [q4]) (by simp [q5]) (by simp [q6]) (by simp [q7]) (by simp [q31]) (by simp [q32]) (by simp [q33]) (by simp [q34])
    · try simp (disch := omega) [q19, e0]
      exact tail2 _ h' g' (by simp [q3]) (by simp [q4]) (by simp [q5]) (by simp [q6]) (by simp [q7]) (by simp [q31]) (by simp [q32]) (by simp [q33]) (by simp [q34])
  exact tail _ h19 (Grows.refl _) (by simp) (by simp) (by simp) (by simp) (by simp) (by simp) (by simp) (by simp) (by simp) (by simp) (by simp) (by simp) (by simp) (by simp)
end Am

/- The contract of the law FnPacked. -/
import Derived.Test.YtaeaaogpdipjfaaAmK7
set_option linter.unusedVariables false
set_option linter.unusedSimpArgs false
set_option maxHeartbeats 4000000
set_option maxRecDepth 20000
namespace Am
open Go

theorem law254 (h : Heap) (vs : List Value) (hp : 0 < h.length) (ha : All2 (ArgR h) [shBytes] vs) : ACall Gam 254 vs h fun v _ => v = .bool true := by
  obtain ⟨v0, vs0, rfl, b0, ha⟩ := all2_cons ha
  obtain rfl := all2_nil ha
  obtain ⟨(X : List Int), va⟩ := b0.vr
  refine ACall_intro g254 rfl ?_
  unfold fn254
  rw [awp_seq, awp_reg]
  generalize hK : seqQ Gam _ _ 0 = K
  try simp (disch := omega)
  subst hK
  simp only [seqQ_zero]
  rw [awp_seq]
  generalize hK : seqQ Gam _ _ = K
  try simp (disch := omega)
  refine callW_of (c269 h v0 X va) ?_
  rintro _ h1 ⟨rfl, rfl⟩
  generalize decide (4096 < X.length) = w
  cases w
  rotate_left
  · subst hK
    try simp (disch := omega)
  try simp (disch := omega)
  subst hK
  simp only [seqQ_zero]
  -- a panel
  rw [awp_seq, awp_reg]
  generalize hK : seqQ Gam _ _ 0 = K
  try simp (disch := omega)
  refine callW_of (c362 h1 v0 X hp va) ?_
  rintro _ h2 ⟨P, hPl, g2, oP⟩
  try refine ⟨fun e => (by first | exact g2 | cases e), ?_⟩
  obtain ⟨W, H, br⟩ := P
  have vP : Vr h2 shPanel _ ((W, H, br) : Pan) := oP.vr
  have vP' := vP
  obtain ⟨s, rfl, W64, H64, _⟩ := vP.panel
  have hp2 := pos_of hp g2
  have sP : siz shPanel ((W, H, br) : Pan) ≤ 1048576 := by rw [siz_panel]; simp only at hPl; omega
  clear oP vP
  try simp (disch := omega)
  subst hK
  simp only [seqQ_zero]
  rw [awp_seq, awp_reg]
  generalize hK : seqQ Gam _ _ 0 = K
  try simp (disch := omega)
  refine callW_of (c107 h2 hp2 _ _ vP' sP) ?_
  rintro _ h3 ⟨g3, rfl⟩
  try refine ⟨fun e => (by first | exact g3 | cases e), ?_⟩
  have hp3 := pos_of hp2 g3
  try simp (disch := omega)
  subst hK
  simp only [seqQ_zero]
  rw [awp_seq, awp_reg]
  generalize hK : seqQ Gam _ _ 0 = K
  try simp (disch := omega)
  refine callW_of (c398 h3 hp3 _ _ (vP'.grow g3) sP) ?_
  rintro _ h4 ⟨g4, rfl⟩
  try refine ⟨fun e => (by first | exact g4 | cases e), ?_⟩
  have hp4 := pos_of hp3 g4
  have G4 := g3.trans g4
  obtain ⟨pk, hpk⟩ : ∃ pk, pk = packAnsP (W, H, br) := ⟨_, rfl⟩
  rw [← hpk]
  try simp (disch := omega)
  subst hK
  simp only [seqQ_zero]
  -- bytes
  rw [awp_seq, awp_reg]
  generalize hK : seqQ Gam _ _ 0 = K
  try simp (disch := omega)
  refine callW_of (c375 h4 v0 X hp4 (va.grow (g2.trans G4))) ?_
  rintro _ h5 ⟨u, rfl, hul, g5⟩
  try refine ⟨fun e => (by first | exact g5 | cases e), ?_⟩
  have hp5 := pos_of hp4 g5
  try simp (disch := omega)
  subst hK
  simp only [seqQ_zero]
  rw [awp_seq, awp_reg]
  generalize hK : seqQ Gam _ _ 0 = K
  try simp (disch := omega)
  refine callW_of (c136 h5 hp5 u (by omega)) ?_
  rintro _ h6 ⟨g6, r6, rfl, o6, s6⟩
  try refine ⟨fun e => (by first | exact g6 | cases e), ?_⟩
  have hp6 := pos_of hp5 g6
  obtain ⟨ua, hua⟩ : ∃ ua, ua = unAns u := ⟨_, rfl⟩
  rw [← hua] at o6 s6 ⊢
  have v6 := o6.vr
  obtain ⟨a6, b6, d6, rfl⟩ := v6.panel3
  clear o6
  try simp (disch := omega)
  subst hK
  simp only [seqQ_zero]
  rw [awp_seq, awp_reg]
  generalize hK : seqQ Gam _ _ 0 = K
  try simp (disch := omega)
  refine callW_of (c426 h6 hp6 u (by omega)) ?_
  rintro _ h7 ⟨g7, r7, rfl, o7, _⟩
  try refine ⟨fun e => (by first | exact g7 | cases e), ?_⟩
  have hp7 := pos_of hp6 g7
  rw [← hua] at o7 ⊢
  have v7 := o7.vr
  obtain ⟨a7, b7, d7, rfl⟩ := v7.panel3
  clear o7
  try simp (disch := omega)
  subst hK
  simp only [seqQ_zero]
  rw [awp_seq, awp_reg]
  generalize hK : seqQ Gam _ _ 0 = K
  try simp (disch := omega)
  refine callW_of (c88 h7 hp7 u (by omega)) ?_
  rintro _ h8 ⟨g8, rfl⟩
  try refine ⟨fun e => (by first | exact g8 | cases e), ?_⟩
  have hp8 := pos_of hp7 g8
  try simp (disch := omega)
  subst hK
  simp only [seqQ_zero]
  -- sizes
  have G8 : Grows h2 h8 := (((G4.trans g5).trans g6).trans g7).trans g8
  rw [awp_seq, awp_reg]
  generalize hK : seqQ Gam _ _ 0 = K
  try simp (disch := omega)
  refine callW_of (c363 h8 v0 X hp8 (va.grow (g2.trans G8))) ?_
  rintro _ h9 ⟨a, b, rfl, _, _, g9⟩
  try refine ⟨fun e => (by first | exact g9 | cases e), ?_⟩
  have hp9 := pos_of hp8 g9
  try simp (disch := omega)
  subst hK
  simp only [seqQ_zero]
  rw [awp_seq, awp_reg]
  generalize hK : seqQ Gam _ _ 0 = K
  try simp (disch := omega)
  refine callW_of (c108 a b h9) ?_
  rintro _ h9 ⟨rfl, rfl⟩
  try refine ⟨fun e => (by cases e), ?_⟩
  try simp (disch := omega)
  subst hK
  simp only [seqQ_zero]
  rw [awp_seq, awp_reg]
  generalize hK : seqQ Gam _ _ 0 = K
  try simp (disch := omega)
  refine callW_of (c399 a b h9) ?_
  rintro _ h9 ⟨rfl, rfl⟩
  try refine ⟨fun e => (by cases e), ?_⟩
  obtain ⟨pz, hpz⟩ : ∃ pz, pz = packAns a b := ⟨_, rfl⟩
  rw [← hpz]
  try simp (disch := omega)
  subst hK
  simp only [seqQ_zero]
  -- digits
  rw [awp_seq, awp_reg]
  generalize hK : seqQ Gam _ _ 0 = K
  try simp (disch := omega)
  refine callW_of (c369 h9 v0 X hp9 (va.grow ((g2.trans G8).trans g9))) ?_
  rintro _ h10 ⟨t, rfl, htl, g10⟩
  try refine ⟨fun e => (by first | exact g10 | cases e), ?_⟩
  have hp10 := pos_of hp9 g10
  try simp (disch := omega)
  subst hK
  simp only [seqQ_zero]
  rw [awp_seq, awp_reg]
  generalize hK : seqQ Gam _ _ 0 = K
  try simp (disch := omega)
  refine callW_of (c120 t (by omega) h10 hp10) ?_
  rintro _ h11 ⟨rfl, g11⟩
  try refine ⟨fun e => (by first | exact g11 | cases e), ?_⟩
  have hp11 := pos_of hp10 g11
  obtain ⟨rh, hrh⟩ : ∃ rh, rh = readHex t := ⟨_, rfl⟩
  rw [← hrh]
  try simp (disch := omega)
  subst hK
  simp only [seqQ_zero]
  rw [awp_seq, awp_reg]
  generalize hK : seqQ Gam _ _ 0 = K
  try simp (disch := omega)
  refine callW_of (c411 t (by omega) h11 hp11) ?_
  rintro _ h12 ⟨rfl, g12⟩
  try refine ⟨fun e => (by first | exact g12 | cases e), ?_⟩
  have hp12 := pos_of hp11 g12
  rw [← hrh]
  try simp (disch := omega)
  subst hK
  simp only [seqQ_zero]
  -- compared
  have hf : (fault u = 0) ↔ ua.2 = 0 := by
    rw [hua, fault_zero]
    unfold unAns
    cases unOk u <;> simp
  have G12 : Grows h8 h12 := ((g9.trans g10).trans g11).trans g12
  rw [awp_seq]
  generalize hK : seqQ Gam _ _ = K
  try simp (disch := omega)
  refine callW_of (c420 h12 _ _ ua.1 ua.1 (v6.grow ((g7.trans g8).trans G12)) (v7.grow (g8.trans G12))) ?_
  rintro _ h13 ⟨rfl, g13⟩
  rw [samP_refl]
  try refine ⟨fun e => (by first | exact g13 | cases e), ?_⟩
  have hp13 := pos_of hp12 g13
  try simp (disch := omega)
  refine callW_of (c381 h13 hp13 u (by omega)) ?_
  rintro _ h14 ⟨g14, rfl⟩
  try refine ⟨fun e => (by first | exact g14 | cases e), ?_⟩
  have hp14 := pos_of hp13 g14
  have hf' : (decide (fault u = 0)) = (decide (ua.2 = 0)) := by simp [hf]
  try simp (disch := omega) [hf, hf']
  refine callW_of (c64 u (by omega) h14) ?_
  rintro _ h14 ⟨rfl, rfl⟩
  try refine ⟨fun e => (by cases e), ?_⟩
  try simp (disch := omega)
  refine callW_of (c333 u (by omega) h14) ?_
  rintro _ h14 ⟨rfl, rfl⟩
  try refine ⟨fun e => (by cases e), ?_⟩
  try simp (disch := omega)
  subst hK
  simp only [seqQ_zero]
  -- digits of the bytes
  have hhl := hexText_length u
  have hhr := readHex_text u
  rw [awp_seq, awp_reg]
  generalize hK : seqQ Gam _ _ 0 = K
  try simp (disch := omega)
  refine callW_of (c87 u (by omega) h14 hp14) ?_
  rintro _ h15 ⟨rfl, g15⟩
  try refine ⟨fun e => (by first | exact g15 | cases e), ?_⟩
  have hp15 := pos_of hp14 g15
  obtain ⟨x, hx⟩ : ∃ x, x = hexText u := ⟨_, rfl⟩
  rw [← hx] at hhl hhr ⊢
  try simp (disch := omega)
  subst hK
  simp only [seqQ_zero]
  rw [awp_seq, awp_reg]
  generalize hK : seqQ Gam _ _ 0 = K
  try simp (disch := omega)
  refine callW_of (c120 x (by omega) h15 hp15) ?_
  rintro _ h16 ⟨rfl, g16⟩
  try refine ⟨fun e => (by first | exact g16 | cases e), ?_⟩
  have hp16 := pos_of hp15 g16
  rw [hhr]
  try simp (disch := omega)
  subst hK
  simp only [seqQ_zero]
  rw [awp_seq]
  generalize hK : seqQ Gam _ _ = K
  try simp (disch := omega)
  refine callW_of (c380 u (by omega) h16 hp16) ?_
  rintro _ h17 ⟨rfl, g17⟩
  try refine ⟨fun e => (by first | exact g17 | cases e), ?_⟩
  have hp17 := pos_of hp16 g17
  rw [← hx]
  have hhl' : (x.length : Int) = 2 * u.length := by omega
  try simp (disch := omega) [hhl', wrap64]
  subst hK
  simp only [seqQ_zero]
  -- packed again
  rw [awp_seq]
  generalize hK : seqQ Gam _ _ = K
  have G17 : Grows h14 h17 := (g15.trans g16).trans g17
  have G217 : Grows h2 h17 := (G8.trans G12).trans ((g13.trans g14).trans G17)
  have tail : ∀ (σ : Nat → Value) (h' : Heap), Grows h17 h' → σ 5 = I pk.2 → σ 4 = S pk.1 → (∃ s, σ 3 = .agg #[I W, I H, s] ∧ Vr h2 shPanel (.agg #[I W, I H, s]) ((W, H, br) : Pan)) → K 0 σ h' := by
    rintro σ h' g' q5 q4 ⟨s, q3, vP⟩
    subst hK
    simp only [seqQ_zero]
    have hp' := pos_of hp17 g'
    rw [awp_seq]
    generalize hK : seqQ Gam _ _ = K
    cases qo : okP (W, H, br)
    · have e : pk = ([], 1) := by rw [hpk]; unfold packAnsP; rw [qo]; rfl
      rw [e] at q5
      try simp (disch := omega) [q5]
      subst hK
      try simp (disch := omega)
    · have ok := okP_iff.1 qo
      have e : pk = (packP (W, H, br), 0) := by rw [hpk]; unfold packAnsP; rw [qo]; rfl
      rw [e] at q5 q4
      have hl := packP_len ok
      have hz := packP_size ok
      have hun := unAns_pack ok
      try simp (disch := omega) [q5]
      subst hK
      simp only [seqQ_zero]
      obtain ⟨y, hy⟩ : ∃ y, y = packP (W, H, br) := ⟨_, rfl⟩
      rw [← hy] at q4 hl hz hun
      simp only at q4 hz
      rw [awp_seq, awp_reg]
      generalize hK : seqQ Gam _ _ 0 = K
      try simp (disch := omega) [q4]
      refine callW_of (c136 h' hp' y (by omega)) ?_
      rintro _ h18 ⟨g18, r18, rfl, o18, _⟩
      try refine ⟨fun e => (by first | exact g18 | cases e), ?_⟩
      rw [hun] at o18 ⊢
      have v18 := o18.vr
      obtain ⟨a18, b18, d18, rfl⟩ := v18.panel3
      clear o18
      try simp (disch := omega)
      subst hK
      simp only [seqQ_zero]
      rw [awp_seq, awp_reg]
      generalize hK : seqQ Gam _ _ 0 = K
      try simp (disch := omega) [q3]
      refine callW_of (c108 W H h18) ?_
      rintro _ h18 ⟨rfl, rfl⟩
      try refine ⟨fun e => (by cases e), ?_⟩
      have ep : packAns W H = ((y.length : Int), 0) := by
        unfold packAns
        rw [if_pos (okSz_iff.2 ⟨ok.w, ok.h⟩), hz]
      rw [ep]
      try simp (disch := omega)
      subst hK
      simp only [seqQ_zero]
      try simp (disch := omega) [q3]
      refine callW_of (c420 h18 _ _ (W, H, br) (W, H, br) v18 (vP.grow ((G217.trans g').trans g18))) ?_
      rintro _ h19 ⟨rfl, g19⟩
      rw [samP_refl]
      try refine ⟨fun e => (by first | exact g19 | cases e), ?_⟩
      try simp (disch := omega) [q4]
  clear hK
  cases qu : unOk u
  · have e : ua = ((0, 0, []), 8) := by rw [hua]; unfold unAns; rw [qu]; rfl
    rw [e]
    try simp (disch := omega)
    exact tail _ h17 (Grows.refl _) (by simp) (by simp) ⟨_, by simp, vP'⟩
  · obtain ⟨e, okU, pkU⟩ := unAns_yes qu
    rw [← hua] at e
    have v6' := v6.grow (((g7.trans g8).trans G12).trans ((g13.trans g14).trans G17))
    rw [e] at v6'
    have sU : siz shPanel (unP u) ≤ 1048576 := by
      have := (okP_iff.1 okU).siz
      have e : unP u = ((unP u).1, (unP u).2.1, (unP u).2.2) := rfl
      rw [e, siz_panel]; omega
    rw [e]
    try simp (disch := omega)
    refine callW_of (c107 h17 hp17 _ _ v6' sU) ?_
    rintro _ h18 ⟨g18, rfl⟩
    try refine ⟨fun e => (by first | exact g18 | cases e), ?_⟩
    have ep : packAnsP (unP u) = (u, 0) := by unfold packAnsP; rw [okU, pkU]; rfl
    rw [ep]
    try simp (disch := omega)
    exact tail _ h18 g18 (by simp) (by simp) ⟨_, by simp, vP'⟩
end Am

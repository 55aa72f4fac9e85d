/- The contract of the law FnDiffs. -/
import Derived.Test.YtaeaaogpdipjfaaAmK8
import Derived.Test.YtaeaaogpdipjfaaAmK7
set_option linter.unusedVariables false
set_option linter.unusedSimpArgs false
set_option maxHeartbeats 4000000
set_option maxRecDepth 20000
namespace Am
open Go

theorem app_ok {X Y : Pan} {l : List Trip} (h : appAns X l = (Y, 0)) : siz shPanel Y ≤ 1048576 := by
  obtain ⟨W, H, br⟩ := X
  unfold appAns at h
  split at h
  · rename_i hok
    have ok := okP_iff.1 hok
    have := ok_len ok
    have h2 := (runD_ok l br ok.b).1
    split at h
    · simp only [Prod.mk.injEq, and_true] at h
      subst h
      rw [siz_panel]
      rcases h2 with h2 | h2
      · rw [h2]; simp
      · rw [h2]; omega
    · rename_i h0
      simp only [Prod.mk.injEq] at h
      exact absurd h.2 h0
  · simp at h
theorem diff_ok {X Y : Pan} {L : List Trip} (h : diffAns X Y = (L, 0)) : okP X = true ∧ okP Y = true ∧ sameSz X Y = true ∧ L = dpre X.2.2 Y.2.2 X.2.2.length := by
  unfold diffAns at h
  split at h
  · rename_i h1
    split at h
    · rename_i h2
      simp only [Prod.mk.injEq, and_true] at h
      simp only [Bool.and_eq_true] at h1
      exact ⟨h1.1, h1.2, h2, h.symm⟩
    · simp at h
  · simp at h
theorem diff_siz2 (X Y : Pan) (h : X.2.2.length ≤ 200) : siz shTrips (diffAns X Y).1 ≤ 1048576 := by
  rw [siz_trips]
  unfold diffAns
  split
  · split
    · have := dpre_len X.2.2 Y.2.2 X.2.2.length; simp only; omega
    · simp
  · simp

theorem law204 (h : Heap) (vs : List Value) (hp : 0 < h.length) (ha : All2 (ArgR h) [shBytes] vs) : ACall Gam 204 vs h fun v _ => v = .bool true := by
  obtain ⟨v0, vs0, rfl, b0, ha⟩ := all2_cons ha
  obtain rfl := all2_nil ha
  obtain ⟨(X : List Int), va⟩ := b0.vr
  refine ACall_intro g204 rfl ?_
  unfold fn204
  rw [awp_seq, awp_reg]
  generalize hK : seqQ Gam _ _ 0 = K
  try simp (disch := omega)
  subst hK
  simp only [seqQ_zero]
  rw [awp_seq]
  generalize hK : seqQ Gam _ _ = K
  try simp (disch := omega)
  refine callW_of (c269 h v0 X va) ?_
  rintro _ h1 ⟨rfl, rfl⟩
  generalize decide (4096 < X.length) = w
  cases w
  rotate_left
  · subst hK
    try simp (disch := omega)
  try simp (disch := omega)
  subst hK
  simp only [seqQ_zero]
  rw [awp_seq, awp_reg]
  generalize hK : seqQ Gam _ _ 0 = K
  try simp (disch := omega)
  refine callW_of (c352 h1 v0 X hp va) ?_
  rintro _ h2 ⟨P, Q, p0, q0, rfl, hPl, hQl, g2, vP, vQ⟩
  try refine ⟨fun e => (by first | exact g2 | cases e), ?_⟩
  obtain ⟨pa, pb, pc, rfl⟩ := vP.panel3
  obtain ⟨qa, qb, qc, rfl⟩ := vQ.panel3
  have hp2 := pos_of hp g2
  have sP : siz shPanel P ≤ 1048576 := by rw [show P = (P.1, P.2.1, P.2.2) from rfl, siz_panel]; omega
  have sQ : siz shPanel Q ≤ 1048576 := by rw [show Q = (Q.1, Q.2.1, Q.2.2) from rfl, siz_panel]; omega
  try simp (disch := omega)
  subst hK
  simp only [seqQ_zero]
  rw [awp_seq, awp_reg]
  generalize hK : seqQ Gam _ _ 0 = K
  try simp (disch := omega)
  refine callW_of (c79 h2 hp2 _ P vP sP _ Q vQ sQ) ?_
  rintro _ h3 ⟨g3, r3, rfl, o3, _⟩
  try refine ⟨fun e => (by first | exact g3 | cases e), ?_⟩
  have hp3 := pos_of hp2 g3
  obtain ⟨dl, hdl⟩ : ∃ dl, dl = diffAns P Q := ⟨_, rfl⟩
  rw [← hdl] at o3 ⊢
  have sL : siz shTrips dl.1 ≤ 1048576 := by rw [hdl]; exact diff_siz2 P Q hPl
  have v3 := o3.vr
  have v3' := v3
  obtain ⟨tb3, to3, tz3, rfl, _⟩ := v3'.trips
  clear o3
  try simp (disch := omega)
  subst hK
  simp only [seqQ_zero]
  rw [awp_seq, awp_reg]
  generalize hK : seqQ Gam _ _ 0 = K
  try simp (disch := omega)
  refine callW_of (c346 h3 hp3 _ P (vP.grow g3) sP _ Q (vQ.grow g3) sQ) ?_
  rintro _ h4 ⟨g4, r4, rfl, o4, _⟩
  try refine ⟨fun e => (by first | exact g4 | cases e), ?_⟩
  have hp4 := pos_of hp3 g4
  rw [← hdl] at o4 ⊢
  have v4 := o4.vr
  have v4' := v4
  obtain ⟨tb4, to4, tz4, rfl, _⟩ := v4'.trips
  clear o4
  try simp (disch := omega)
  subst hK
  simp only [seqQ_zero]
  rw [awp_seq, awp_reg]
  generalize hK : seqQ Gam _ _ 0 = K
  try simp (disch := omega)
  refine callW_of (c350 h4 v0 X hp4 (va.grow (g2.trans (g3.trans g4)))) ?_
  rintro _ h5 ⟨R, L, r0, r1, rfl, hRl, hLl, g5, vR, vL⟩
  try refine ⟨fun e => (by first | exact g5 | cases e), ?_⟩
  have hp5 := pos_of hp4 g5
  obtain ⟨ra, rb, rc, rfl⟩ := vR.panel3
  have vL' := vL
  obtain ⟨tb5, to5, tz5, rfl, _, _, hL64, _⟩ := vL'.trips
  have sR : siz shPanel R ≤ 1048576 := by rw [show R = (R.1, R.2.1, R.2.2) from rfl, siz_panel]; omega
  have sLL : siz shTrips L ≤ 1048576 := by rw [siz_trips]; omega
  try simp (disch := omega)
  subst hK
  simp only [seqQ_zero]
  rw [awp_seq, awp_reg]
  generalize hK : seqQ Gam _ _ 0 = K
  try simp (disch := omega)
  refine callW_of (c62 h5 hp5 _ R vR sR _ L vL sLL) ?_
  rintro _ h6 ⟨g6, r6, rfl, o6, _⟩
  try refine ⟨fun e => (by first | exact g6 | cases e), ?_⟩
  have hp6 := pos_of hp5 g6
  obtain ⟨ap, hap⟩ : ∃ ap, ap = appAns R L := ⟨_, rfl⟩
  rw [← hap] at o6 ⊢
  have v6 := o6.vr
  obtain ⟨xa, xb, xc, rfl⟩ := v6.panel3
  clear o6
  try simp (disch := omega)
  subst hK
  simp only [seqQ_zero]
  rw [awp_seq, awp_reg]
  generalize hK : seqQ Gam _ _ 0 = K
  try simp (disch := omega)
  refine callW_of (c331 h6 hp6 _ R (vR.grow g6) sR _ L (vL.grow g6) sLL) ?_
  rintro _ h7 ⟨g7, r7, rfl, o7, _⟩
  try refine ⟨fun e => (by first | exact g7 | cases e), ?_⟩
  have hp7 := pos_of hp6 g7
  rw [← hap] at o7 ⊢
  have v7 := o7.vr
  obtain ⟨ya, yb, yc, rfl⟩ := v7.panel3
  clear o7
  have G7 : Grows h1 h7 := g2.trans (g3.trans (g4.trans (g5.trans (g6.trans g7))))
  try simp (disch := omega)
  subst hK
  simp only [seqQ_zero]
  rw [awp_seq, awp_reg]
  generalize hK : seqQ Gam _ _ 0 = K
  try simp (disch := omega)
  refine callW_of (c353 h7 v0 X hp7 (va.grow G7)) ?_
  rintro _ h8 ⟨T, hTl, g8, vT⟩
  try refine ⟨fun e => (by first | exact g8 | cases e), ?_⟩
  have hp8 := pos_of hp7 g8
  have vT' := vT
  obtain ⟨tb8, to8, tz8, rfl, _, _, hT64, _⟩ := vT'.trips
  have sT : siz shTrips T ≤ 1048576 := by rw [siz_trips]; omega
  have hdt := diffText_len hT64
  try simp (disch := omega)
  subst hK
  simp only [seqQ_zero]
  rw [awp_seq, awp_reg]
  generalize hK : seqQ Gam _ _ 0 = K
  try simp (disch := omega)
  refine callW_of (c80 h8 hp8 _ T vT sT) ?_
  rintro _ h9 ⟨g9, rfl⟩
  try refine ⟨fun e => (by first | exact g9 | cases e), ?_⟩
  have hp9 := pos_of hp8 g9
  obtain ⟨tx, htx⟩ : ∃ tx, tx = diffText T := ⟨_, rfl⟩
  have hback := rd_diffText (X := T)
  rw [← htx] at hdt hback ⊢
  try simp (disch := omega)
  subst hK
  simp only [seqQ_zero]
  rw [awp_seq, awp_reg]
  generalize hK : seqQ Gam _ _ 0 = K
  try simp (disch := omega)
  refine callW_of (c119 h9 hp9 tx (by omega)) ?_
  rintro _ h10 ⟨g10, r10, rfl, o10, _⟩
  try refine ⟨fun e => (by first | exact g10 | cases e), ?_⟩
  have hp10 := pos_of hp9 g10
  obtain ⟨bk, hbk⟩ : ∃ bk, bk = rdAns tx := ⟨_, rfl⟩
  rw [← hbk] at o10 hback ⊢
  have v10 := o10.vr
  have v10' := v10
  obtain ⟨tb10, to10, tz10, rfl, _⟩ := v10'.trips
  clear o10
  try simp (disch := omega)
  subst hK
  simp only [seqQ_zero]
  rw [awp_seq, awp_reg]
  generalize hK : seqQ Gam _ _ 0 = K
  try simp (disch := omega)
  refine callW_of (c368 h10 v0 X hp10 (va.grow (G7.trans (g8.trans (g9.trans g10))))) ?_
  rintro _ h11 ⟨s, rfl, hsl, g11⟩
  try refine ⟨fun e => (by first | exact g11 | cases e), ?_⟩
  have hp11 := pos_of hp10 g11
  try simp (disch := omega)
  subst hK
  simp only [seqQ_zero]
  rw [awp_seq, awp_reg]
  generalize hK : seqQ Gam _ _ 0 = K
  try simp (disch := omega)
  refine callW_of (c119 h11 hp11 s hsl) ?_
  rintro _ h12 ⟨g12, r12, rfl, o12, _⟩
  try refine ⟨fun e => (by first | exact g12 | cases e), ?_⟩
  have hp12 := pos_of hp11 g12
  obtain ⟨rs, hrs⟩ : ∃ rs, rs = rdAns s := ⟨_, rfl⟩
  rw [← hrs] at o12 ⊢
  have v12 := o12.vr
  have v12' := v12
  obtain ⟨tb12, to12, tz12, rfl, _⟩ := v12'.trips
  clear o12
  try simp (disch := omega)
  subst hK
  simp only [seqQ_zero]
  rw [awp_seq, awp_reg]
  generalize hK : seqQ Gam _ _ 0 = K
  try simp (disch := omega)
  refine callW_of (c410 h12 hp12 s hsl) ?_
  rintro _ h13 ⟨g13, r13, rfl, o13, _⟩
  try refine ⟨fun e => (by first | exact g13 | cases e), ?_⟩
  have hp13 := pos_of hp12 g13
  rw [← hrs] at o13 ⊢
  have v13 := o13.vr
  have v13' := v13
  obtain ⟨tb13, to13, tz13, rfl, _⟩ := v13'.trips
  clear o13
  try simp (disch := omega)
  subst hK
  simp only [seqQ_zero]
  -- compared
  have G4x13 : Grows h4 h13 := g5.trans (g6.trans (g7.trans (g8.trans (g9.trans (g10.trans (g11.trans (g12.trans g13)))))))
  have G7x13 : Grows h7 h13 := g8.trans (g9.trans (g10.trans (g11.trans (g12.trans g13))))
  have G8x13 : Grows h8 h13 := g9.trans (g10.trans (g11.trans (g12.trans g13)))
  have G10x13 : Grows h10 h13 := g11.trans (g12.trans g13)
  have G5x13 : Grows h5 h13 := g6.trans (g7.trans G7x13)
  have G2x13 : Grows h2 h13 := g3.trans (g4.trans G4x13)
  rw [awp_seq]
  generalize hK : seqQ Gam _ _ = K
  try simp (disch := omega)
  refine callW_of (c270 h13 _ _ dl.1 dl.1 (v3.grow (g4.trans G4x13)) (v4.grow G4x13)) ?_
  rintro _ h14 ⟨rfl, rfl⟩
  try refine ⟨fun e => (by cases e), ?_⟩
  try simp (disch := omega)
  refine callW_of (c420 h14 _ _ ap.1 ap.1 (v6.grow (g7.trans G7x13)) (v7.grow G7x13)) ?_
  rintro _ h15 ⟨rfl, g15⟩
  rw [samP_refl]
  try refine ⟨fun e => (by first | exact g15 | cases e), ?_⟩
  have hp15 := pos_of hp13 g15
  try simp (disch := omega)
  refine callW_of (c347 h15 hp15 _ T (vT.grow (G8x13.trans g15)) sT) ?_
  rintro _ h16 ⟨g16, rfl⟩
  try refine ⟨fun e => (by first | exact g16 | cases e), ?_⟩
  have hp16 := pos_of hp15 g16
  rw [← htx]
  have G2x16 : Grows h2 h16 := G2x13.trans (g15.trans g16)
  have G3x16 : Grows h3 h16 := g4.trans (G4x13.trans (g15.trans g16))
  have G5x16 : Grows h5 h16 := G5x13.trans (g15.trans g16)
  have G6x16 : Grows h6 h16 := g7.trans (G7x13.trans (g15.trans g16))
  have tail : ∀ (σ : Nat → Value) (h' : Heap), Grows h16 h' → σ 3 = .agg #[pa, pb, pc] → σ 4 = .agg #[qa, qb, qc] → σ 5 = sl tb3 to3 dl.1.length tz3 → σ 6 = I dl.2 → σ 9 = .agg #[ra, rb, rc] → σ 10 = sl tb5 to5 L.length tz5 → σ 11 = .agg #[xa, xb, xc] → σ 12 = I ap.2 → K 0 σ h' := by
    intro σ h' g' q3 q4 q5 q6 q9 q10 q11 q12
    have hp' := pos_of hp16 g'
    subst hK
    simp only [seqQ_zero]
    rw [awp_seq]
    generalize hK : seqQ Gam _ _ = K
    have tail2 : ∀ (σ : Nat → Value) (h' : Heap), Grows h16 h' → σ 3 = .agg #[pa, pb, pc] → σ 4 = .agg #[qa, qb, qc] → σ 5 = sl tb3 to3 dl.1.length tz3 → σ 6 = I dl.2 → K 0 σ h' := by
      intro σ h' g' q3 q4 q5 q6
      have hp' := pos_of hp16 g'
      subst hK
      simp only [seqQ_zero]
      rw [awp_seq]
      generalize hK : seqQ Gam _ _ = K
      by_cases e0 : dl.2 = 0
      · have ed : diffAns P Q = (dl.1, 0) := by rw [← hdl, ← e0]
        obtain ⟨o1, o2, o3, o4⟩ := diff_ok ed
        have ea : appAns P dl.1 = (Q, 0) := by rw [o4]; exact app_diff o1 o2 o3
        have ec : distAns P Q = ((dl.1.length : Int), 0) := by rw [o4]; simp [distAns, o1, o2, o3]
        try simp (disch := omega) [q6, e0]
        subst hK
        simp only [seqQ_zero]
        rw [awp_seq, awp_reg]
        generalize hK : seqQ Gam _ _ 0 = K
        try simp (disch := omega) [q3, q5]
        refine callW_of (c62 h' hp' _ P (vP.grow (G2x16.trans g')) sP _ dl.1 (v3.grow (G3x16.trans g')) sL) ?_
        rintro _ h17 ⟨g17, r17, rfl, o17, _⟩
        try refine ⟨fun e => (by first | exact g17 | cases e), ?_⟩
        rw [ea] at o17 ⊢
        have v17 := o17.vr
        obtain ⟨ka, kb, kc, rfl⟩ := v17.panel3
        clear o17
        try simp (disch := omega)
        subst hK
        simp only [seqQ_zero]
        rw [awp_seq, awp_reg]
        generalize hK : seqQ Gam _ _ 0 = K
        try simp (disch := omega) [q3, q4]
        refine callW_of (c81 h17 (pos_of hp' g17) _ P (vP.grow ((G2x16.trans g').trans g17)) _ Q (vQ.grow ((G2x16.trans g').trans g17))) ?_
        rintro _ h18 ⟨rfl, rfl⟩
        try refine ⟨fun e => (by cases e), ?_⟩
        rw [ec]
        try simp (disch := omega)
        subst hK
        simp only [seqQ_zero]
        try simp (disch := omega) [q4, q5]
        refine callW_of (c420 h18 _ _ Q Q v17 (vQ.grow ((G2x16.trans g').trans g17))) ?_
        rintro _ h19 ⟨rfl, g19⟩
        rw [samP_refl]
        try refine ⟨fun e => (by first | exact g19 | cases e), ?_⟩
        try simp (disch := omega) [q5]
      · try simp (disch := omega) [q6, e0]
        subst hK
        try simp (disch := omega)
    clear hK
    by_cases e0 : ap.2 = 0
    · have ed : appAns R L = (ap.1, 0) := by rw [← hap, ← e0]
      have ei := app_inverse ed
      have es := app_ok ed
      try simp (disch := omega) [q10, q11, q12, e0]
      refine callW_of (c89 h' hp' _ L (vL.grow (G5x16.trans g')) sLL) ?_
      rintro _ h17 ⟨g17, o17, _⟩
      try refine ⟨fun e => (by first | exact g17 | cases e), ?_⟩
      have hp17 := pos_of hp' g17
      have v17 := o17.vr
      have v17' := v17
      obtain ⟨tb17, to17, tz17, rfl, _⟩ := v17'.trips
      clear o17
      try simp (disch := omega)
      refine callW_of (c62 h17 hp17 _ ap.1 (v6.grow ((G6x16.trans g').trans g17)) es _ (inverse L) v17 (by rw [siz_trips, inverse_len]; rw [siz_trips] at sLL; exact sLL)) ?_
      rintro _ h18 ⟨g18, r18, rfl, o18, _⟩
      try refine ⟨fun e => (by first | exact g18 | cases e), ?_⟩
      rw [ei] at o18 ⊢
      have v18 := o18.vr
      obtain ⟨ka, kb, kc, rfl⟩ := v18.panel3
      clear o18
      try simp (disch := omega) [q9]
      refine callW_of (c420 h18 _ _ R R v18 (vR.grow (((G5x16.trans g').trans g17).trans g18))) ?_
      rintro _ h19 ⟨rfl, g19⟩
      rw [samP_refl]
      try refine ⟨fun e => (by first | exact g19 | cases e), ?_⟩
      try simp (disch := omega)
      exact tail2 _ h19 (((g'.trans g17).trans g18).trans g19) (by simp [q3]) (by simp [q4]) (by simp [q5]) (by simp [q6])
    · try simp (disch := omega) [q12, e0]
      exact tail2 _ h' g' (by simp [q3]) (by simp [q4]) (by simp [q5]) (by simp [q6])
  clear hK
  have G12x16 : Grows h12 h16 := g13.trans (g15.trans g16)
  have G8x16 : Grows h8 h16 := G8x13.trans (g15.trans g16)
  by_cases e0 : tx = []
  · try simp (disch := omega) [e0]
    refine callW_of (c270 h16 _ _ rs.1 rs.1 (v12.grow G12x16) (v13.grow (g15.trans g16))) ?_
    rintro _ h16' ⟨rfl, rfl⟩
    try refine ⟨fun e => (by cases e), ?_⟩
    try simp (disch := omega)
    refine callW_of (c89 h16' hp16 _ T (vT.grow G8x16) sT) ?_
    rintro _ h17 ⟨g17, o17, _⟩
    try refine ⟨fun e => (by first | exact g17 | cases e), ?_⟩
    have v17 := o17.vr
    have v17' := v17
    obtain ⟨tb17, to17, tz17, rfl, _⟩ := v17'.trips
    clear o17
    try simp (disch := omega)
    refine callW_of (c382 h17 (pos_of hp16 g17) _ T (vT.grow (G8x16.trans g17)) sT) ?_
    rintro _ h18 ⟨g18, o18, _⟩
    try refine ⟨fun e => (by first | exact g18 | cases e), ?_⟩
    have v18 := o18.vr
    have v18' := v18
    obtain ⟨tb18, to18, tz18, rfl, _⟩ := v18'.trips
    clear o18
    try simp (disch := omega)
    refine callW_of (c270 h18 _ _ (inverse T) (inverse T) (v17.grow g18) v18) ?_
    rintro _ h18' ⟨rfl, rfl⟩
    try refine ⟨fun e => (by cases e), ?_⟩
    try simp (disch := omega)
    exact tail _ h18' (g17.trans g18) (by simp) (by simp) (by simp) (by simp) (by simp) (by simp) (by simp) (by simp)
  · have eb := hback e0
    rw [eb] at v10 ⊢
    try simp (disch := omega) [e0]
    refine callW_of (c270 h16 _ _ T T (v10.grow (G10x13.trans (g15.trans g16))) (vT.grow G8x16)) ?_
    rintro _ h16'' ⟨rfl, rfl⟩
    try refine ⟨fun e => (by cases e), ?_⟩
    try simp (disch := omega)
    refine callW_of (c270 h16'' _ _ rs.1 rs.1 (v12.grow G12x16) (v13.grow (g15.trans g16))) ?_
    rintro _ h16' ⟨rfl, rfl⟩
    try refine ⟨fun e => (by cases e), ?_⟩
    try simp (disch := omega)
    refine callW_of (c89 h16' hp16 _ T (vT.grow G8x16) sT) ?_
    rintro _ h17 ⟨g17, o17, _⟩
    try refine ⟨fun e => (by first | exact g17 | cases e), ?_⟩
    have v17 := o17.vr
    have v17' := v17
    obtain ⟨tb17, to17, tz17, rfl, _⟩ := v17'.trips
    clear o17
    try simp (disch := omega)
    refine callW_of (c382 h17 (pos_of hp16 g17) _ T (vT.grow (G8x16.trans g17)) sT) ?_
    rintro _ h18 ⟨g18, o18, _⟩
    try refine ⟨fun e => (by first | exact g18 | cases e), ?_⟩
    have v18 := o18.vr
    have v18' := v18
    obtain ⟨tb18, to18, tz18, rfl, _⟩ := v18'.trips
    clear o18
    try simp (disch := omega)
    refine callW_of (c270 h18 _ _ (inverse T) (inverse T) (v17.grow g18) v18) ?_
    rintro _ h18' ⟨rfl, rfl⟩
    try refine ⟨fun e => (by cases e), ?_⟩
    try simp (disch := omega)
    exact tail _ h18' (g17.trans g18) (by simp) (by simp) (by simp) (by simp) (by simp) (by simp) (by simp) (by simp)
end Am

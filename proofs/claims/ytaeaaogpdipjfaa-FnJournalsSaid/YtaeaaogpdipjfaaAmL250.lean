/- The contract of the law FnJournals. -/
import Derived.Test.YtaeaaogpdipjfaaAmK5
set_option linter.unusedVariables false
set_option linter.unusedSimpArgs false
set_option maxHeartbeats 4000000
set_option maxRecDepth 20000
namespace Am
open Go

theorem samP_refl (X : Pan) : samP X X = true := by simp [samP]
theorem samJ_refl (X : Jrn) : samJ X X = true := by simp [samJ, samP_refl]
theorem okJ_siz {X : Jrn} (h : okJ X = true) : siz shJournal X ≤ 1048576 := by
  obtain ⟨⟨W, H, br⟩, p, f⟩ := X
  obtain ⟨ok, hle, _⟩ := okJ_parts h
  have := ok_len ok
  rw [siz_journal]; omega

theorem Vr.jpanel {h : Heap} {a b c d e : Value} {X : Jrn} (x : Vr h shJournal (.agg #[a, b, c, d, e]) X) : Vr h shPanel (.agg #[a, b, c]) X.1 := by
  obtain ⟨⟨W, H, br⟩, p, f⟩ := X
  obtain ⟨s, sp, sf, e', w1, w2, r1, _, _⟩ := x.journal
  simp at e'
  obtain ⟨rfl, rfl, rfl, rfl, rfl⟩ := e'
  exact Vr.of_panel w1 w2 r1
theorem law250 (h : Heap) (vs : List Value) (hp : 0 < h.length) (ha : All2 (ArgR h) [shBytes, shBytes] vs) : ACall Gam 250 vs h fun v _ => v = .bool true := by
  obtain ⟨v0, vs0, rfl, b0, ha⟩ := all2_cons ha
  obtain ⟨v1, vs1, rfl, b1, ha⟩ := all2_cons ha
  obtain rfl := all2_nil ha
  obtain ⟨(X : List Int), va⟩ := b0.vr
  obtain ⟨(Y : List Int), vb⟩ := b1.vr
  refine ACall_intro g250 rfl ?_
  unfold fn250
  rw [awp_seq, awp_reg]
  generalize hK : seqQ Gam _ _ 0 = K
  simp (disch := omega)
  subst hK
  simp only [seqQ_zero]
  rw [awp_seq]
  generalize hK : seqQ Gam _ _ = K
  simp (disch := omega)
  refine callW_of (c258 h v0 v1 X Y va vb) ?_
  rintro _ h1 ⟨rfl, rfl⟩
  generalize (decide (3000 < X.length) || decide (3000 < Y.length)) = w
  cases w
  rotate_left
  · subst hK
    simp (disch := omega)
  simp (disch := omega)
  subst hK
  simp only [seqQ_zero]
  rw [awp_seq, awp_reg]
  generalize hK : seqQ Gam _ _ 0 = K
  simp (disch := omega)
  refine callW_of (c327 h1 v0 X va) ?_
  rintro _ h2 ⟨J, okX, hJn, G, ov⟩
  have vJ := ov.vr
  have hs := okJ_siz okX
  obtain ⟨b1', z1, b2, z2, b3, z3, rest, rfl, _, i1, _⟩ := ov
  simp (disch := omega)
  subst hK
  simp only [seqQ_zero]
  rw [awp_seq, awp_reg]
  generalize hK : seqQ Gam _ _ 0 = K
  simp (disch := omega)
  subst hK
  simp only [seqQ_zero]
  rw [awp_seq]
  generalize hK : seqQ Gam _ _ = K
  have tail : ∀ (σ : Nat → Value) (h3 : Heap), Grows h2 h3 → σ 1 = v1 → σ 5 = .agg #[I J.1.1, I J.1.2.1, sl b1' 0 J.1.2.2.length z1, sl b2 0 J.2.1.length z2, sl b3 0 J.2.2.length z3] → K 0 σ h3 := by
    intro σ h3 g3 q1 q5
    subst hK
    simp only [seqQ_zero]
    have hp3 : 0 < h3.length := by have := G.le; have := g3.le; omega
    rw [awp_seq, awp_reg]
    generalize hK : seqQ Gam _ _ 0 = K
    simp (disch := omega) [q5, wrap64]
    subst hK
    simp only [seqQ_zero]
    rw [awp_seq, awp_reg]
    generalize hK : seqQ Gam _ _ 0 = K
    simp (disch := omega) [q1, wrap64]
    refine callW_of (c257 h3 v1 Y 2 _ (vb.grow (G.trans g3)) (by omega) (by unfold I64; omega)) ?_
    rintro _ h4 ⟨⟨n, rfl, hn⟩, rfl⟩
    have hn : n ≤ J.2.1.length + J.2.2.length := by have := hn (by omega); omega
    simp (disch := omega)
    subst hK
    simp only [seqQ_zero]
    rw [awp_seq, awp_reg]
    generalize hK : seqQ Gam _ _ 0 = K
    simp (disch := omega) [q5]
    refine callW_of (c86 h4 hp3 _ J (vJ.grow g3) hs n (by unfold I64; omega)) ?_
    rintro _ h5 ⟨g5, u, rfl, ou, zu⟩
    have eg : goAns J n = (goJ J n, 0) := by
      unfold goAns
      have : inR (n : Int) 0 ((J.2.1.length + J.2.2.length : Nat) : Int) = true := inR_iff.2 (by omega)
      rw [okX, this]; simp
    rw [eg] at ou zu ⊢
    obtain ⟨ok2, len2, st2, back2, w2, h2'⟩ := go_ok okX hn
    obtain ⟨Z, hZ⟩ : ∃ Z, Z = goJ J n := ⟨_, rfl⟩
    rw [← hZ] at ou zu ok2 len2 st2 back2 w2 h2' ⊢
    have vZ : Vr h5 shJournal u Z := ou.vr
    have sZ := okJ_siz ok2
    have hp5 := pos_of hp3 g5
    have totZ := (JK.of ok2).n
    obtain ⟨c1', y1, c2, y2, c3, y3, rest2, rfl, _⟩ := ou
    simp (disch := omega)
    obtain ⟨zv, hzv⟩ : ∃ zv, zv = Value.agg #[I Z.1.1, I Z.1.2.1, sl c1' 0 Z.1.2.2.length y1, sl c2 0 Z.2.1.length y2, sl c3 0 Z.2.2.length y3] := ⟨_, rfl⟩
    subst hK
    simp only [seqQ_zero]
    rw [awp_seq]
    generalize hK : seqQ Gam _ _ = K
    simp (disch := omega)
    refine callW_of (c427 h5 hp5 _ Z vZ sZ) ?_
    rintro _ h6 ⟨g6, rfl⟩
    rw [ok2]
    refine ⟨fun _ => g6, ?_⟩
    simp (disch := omega) [len2]
    simp only at vZ
    rw [len2] at vZ
    subst hK
    simp only [seqQ_zero]
    rw [awp_seq, awp_reg]
    generalize hK : seqQ Gam _ _ 0 = K
    have hp6 := pos_of hp5 g6
    simp (disch := omega) [q5]
    refine callW_of (c86 h6 hp6 _ Z (vZ.grow g6) sZ J.2.1.length (by unfold I64; omega)) ?_
    rintro _ h7 ⟨g7, u7, rfl, ou7, zu7⟩
    have eg7 : goAns Z (J.2.1.length : Nat) = (J, 0) := by
      unfold goAns
      have hz2 : J.2.1.length ≤ Z.2.1.length + Z.2.2.length := by
        have e1 := (redoN_len (n - (undoN (J.2.1.length - n) J).2.1.length) (undoN (J.2.1.length - n) J)).2
        have e2 := (undoN_len (J.2.1.length - n) J).2
        rw [hZ]; unfold goJ; omega
      have : inR ((J.2.1.length : Nat) : Int) 0 ((Z.2.1.length + Z.2.2.length : Nat) : Int) = true := inR_iff.2 (by omega)
      rw [ok2, this]; simp [back2]
    rw [eg7] at ou7 zu7 ⊢
    have v7 := ou7.vr
    have hp7 := pos_of hp6 g7
    obtain ⟨d1, d2, d3, d4, d5, rfl⟩ := v7.journal5
    clear ou7
    simp (disch := omega)
    subst hK
    simp only [seqQ_zero]
    rw [awp_seq, awp_reg]
    generalize hK : seqQ Gam _ _ 0 = K
    simp (disch := omega) [q5]
    refine callW_of (c133 h7 hp7 _ J (((vJ.grow g3).grow ((g5.trans g6).trans g7))) hs) ?_
    rintro _ h8 ⟨g8, u8, rfl, ou8, zu8⟩
    have es8 : stAns J = ((J.1.1, J.1.2.1, startB J), 0) := by unfold stAns; rw [okX]; rfl
    rw [es8] at ou8 ⊢
    have v8 := ou8.vr
    obtain ⟨s8, rfl, _, _, _⟩ := v8.panel
    clear ou8
    have hp8 := pos_of hp7 g8
    simp (disch := omega)
    subst hK
    simp only [seqQ_zero]
    rw [awp_seq, awp_reg]
    generalize hK : seqQ Gam _ _ 0 = K
    simp (disch := omega)
    refine callW_of (c133 h8 hp8 _ Z (vZ.grow ((g6.trans g7).trans g8)) sZ) ?_
    rintro _ h9 ⟨g9, u9, rfl, ou9, zu9⟩
    have es9 : stAns Z = ((J.1.1, J.1.2.1, startB J), 0) := by unfold stAns; rw [ok2, st2, w2, h2']; rfl
    rw [es9] at ou9 ⊢
    have v9 := ou9.vr
    obtain ⟨s9, rfl, _, _, _⟩ := v9.panel
    clear ou9
    have hp9 := pos_of hp8 g9
    simp (disch := omega)
    subst hK
    simp only [seqQ_zero]
    simp (disch := omega) [q5]
    refine callW_of (c418 h9 hp9 _ J (v7.grow (g8.trans g9)) hs _ J ((vJ.grow g3).grow (((g5.trans g6).trans (g7.trans g8)).trans g9)) hs) ?_
    rintro _ h10 ⟨g10, rfl⟩
    rw [samJ_refl]
    refine ⟨fun _ => g10, ?_⟩
    simp (disch := omega)
    refine callW_of (c420 h10 _ _ (J.1.1, J.1.2.1, startB J) (J.1.1, J.1.2.1, startB J) (v8.grow (g9.trans g10)) (v9.grow g10)) ?_
    rintro _ h11 ⟨rfl, g11⟩
    rw [samP_refl]
    refine ⟨fun _ => g11, ?_⟩
    simp (disch := omega)
  have hp2 : 0 < h2.length := pos_of hp G
  have vJ2 : Vr h2 shJournal (.agg #[I J.1.1, I J.1.2.1, sl b1' 0 J.1.2.2.length z1, sl b2 0 J.2.1.length z2, sl b3 0 J.2.2.length z3]) J := vJ
  have hbl : J.1.2.2.length ≤ 112 := by
    obtain ⟨ok, _, _⟩ := okJ_parts (W := J.1.1) (H := J.1.2.1) (br := J.1.2.2) (p := J.2.1) (f := J.2.2) okX
    exact ok_len ok
  clear hK
  simp (disch := omega)
  refine fork_dec (fun hlt => ?_) (fun hge => ?_)
  rotate_left
  · simp (disch := omega)
    exact tail _ h2 (Grows.refl _) (by simp) (by simp)
  have hlt : 0 < J.1.2.2.length := by omega
  simp (disch := omega)
  refine callW_of (c257 h2 v1 Y 0 _ (vb.grow G) (by omega) (by unfold I64; omega)) ?_
  rintro _ h3 ⟨⟨k, rfl, hk⟩, rfl⟩
  have hk : k < J.1.2.2.length := by have := hk (by omega); omega
  refine ⟨fun e => (by cases e), ?_⟩
  refine callW_of (c257 h3 v1 Y 1 3 (vb.grow G) (by omega) (by unfold I64; omega)) ?_
  rintro _ h4 ⟨⟨kd, rfl, hkd⟩, rfl⟩
  have hkd : kd < 3 := by have := hkd (by omega); omega
  refine ⟨fun e => (by cases e), ?_⟩
  have hne : J.1.2.2 ≠ [] := by intro e; rw [e] at hk; simp at hk
  have cb := cell_int (i1.resolve_left hne).1 hk
  refine callW_of (c82 h4 hp2 _ J vJ2 hs k (by unfold I64; omega) kd (by unfold I64; omega)) ?_
  rintro _ h5 ⟨g5, x, rfl, ox, zx⟩
  have cb5 := g5.cell cb
  refine ⟨fun _ => g5, ?_⟩
  have hp5 := pos_of hp2 g5
  have hkl : (k : Int) < J.1.2.2.length := by omega
  have ea : doAns J k kd = if at0 J.1.2.2 k = kd then (noJ, 6) else (doJ J k kd, 0) := by
    have q1 : inR (k : Int) 0 ((J.1.2.2.length : Int) - 1) = true := inR_iff.2 (by omega)
    have q2 : okBr (kd : Int) = true := okBr_iff.2 (by omega)
    unfold doAns doCode
    simp only [okX, q1, q2, if_true, Bool.and_self, Int.toNat_natCast]
    by_cases hc : at0 J.1.2.2 k = kd
    · simp [hc]
    · have : ¬ 50 ≤ J.2.1.length := by omega
      simp [hc, this]
  by_cases hc : at0 J.1.2.2 k = kd
  · rw [ea, if_pos hc] at ox zx ⊢
    have vx : Vr h5 shJournal x noJ := ox.vr
    obtain ⟨d1, d2, d3, d4, d5, rfl⟩ := vx.journal5
    clear ox
    simp (disch := omega) [hkl, cb5, hc]
    exact tail _ h5 g5 (by simp) (by simp)
  · rw [ea, if_neg hc] at ox zx ⊢
    have dl := do_law (W := J.1.1) (H := J.1.2.1) (br := J.1.2.2) (p := J.2.1) (f := J.2.2) (k := k) (kind := kd) okX (by
      have q1 : inR (k : Int) 0 ((J.1.2.2.length : Int) - 1) = true := inR_iff.2 (by omega)
      have q2 : okBr (kd : Int) = true := okBr_iff.2 (by omega)
      have : ¬ 50 ≤ J.2.1.length := by omega
      simp only [doCode, q1, q2, Bool.and_self, if_true, Int.toNat_natCast, if_neg hc, if_neg this])
    have vx : Vr h5 shJournal x (doJ J k kd) := ox.vr
    have vx' : Vr h5 shJournal x ((J.1.1, J.1.2.1, J.1.2.2.set (k : Int).toNat kd), J.2.1 ++ [((k : Int), at0 J.1.2.2 (k : Int).toNat, (kd : Int))], []) := vx
    obtain ⟨s, sp, sf, rfl, _, _, _, _, r3⟩ := vx'.journal
    obtain ⟨fb, fo, fz, rfl, _, _⟩ := trips_at r3
    have okD : okJ (doJ J k kd) = true := dl.1
    have neD : (doJ J k kd).2.1 ≠ [] := by simp [doJ]
    have nowD : (undoJ (doJ J k kd)).1 = J.1 := dl.2
    obtain ⟨D, hD⟩ : ∃ D, D = doJ J k kd := ⟨_, rfl⟩
    rw [← hD] at vx okD neD nowD
    clear ox vx' r3 dl ea
    have sD := okJ_siz okD
    obtain ⟨okU, reU, _, neU, _, _⟩ := undo_ok okD neD
    have sU := okJ_siz okU
    simp only [List.length_nil] at vx
    simp (disch := omega) [hkl, cb5, hc]
    refine callW_of (c427 h5 hp5 _ D vx sD) ?_
    rintro _ h6 ⟨g6, rfl⟩
    rw [okD]
    have hp6 := pos_of hp5 g6
    refine ⟨fun _ => g6, ?_⟩
    simp (disch := omega)
    refine callW_of (c134 h6 hp6 _ D (vx.grow g6) sD) ?_
    rintro _ h7 ⟨g7, y, rfl, oy, zy⟩
    have eu : undoAns D = (undoJ D, 0) := by unfold undoAns; rw [okD, if_neg neD]; rfl
    rw [eu] at oy zy ⊢
    have vy : Vr h7 shJournal y (undoJ D) := oy.vr
    obtain ⟨d1, d2, d3, d4, d5, rfl⟩ := vy.journal5
    obtain ⟨U, hU⟩ : ∃ U, U = undoJ D := ⟨_, rfl⟩
    rw [← hU] at vy okU sU reU neU nowD
    clear oy
    have hp7 := pos_of hp6 g7
    simp (disch := omega)
    refine callW_of (c427 h7 hp7 _ U vy sU) ?_
    rintro _ h8 ⟨g8, rfl⟩
    rw [okU]
    have hp8 := pos_of hp7 g8
    refine ⟨fun _ => g8, ?_⟩
    simp (disch := omega)
    refine callW_of (c420 h8 _ _ U.1 J.1 (vy.grow g8).jpanel (vJ2.grow ((g5.trans g6).trans (g7.trans g8))).jpanel) ?_
    rintro _ h9 ⟨rfl, g9⟩
    rw [nowD, samP_refl]
    have hp9 := pos_of hp8 g9
    refine ⟨fun _ => g9, ?_⟩
    simp (disch := omega)
    refine callW_of (c123 h9 hp9 _ U (vy.grow (g8.trans g9)) sU) ?_
    rintro _ h10 ⟨g10, z, rfl, oz, zz⟩
    have er : redoAns U = (D, 0) := by unfold redoAns; rw [okU, if_neg neU, reU]; rfl
    rw [er] at oz zz ⊢
    have vz : Vr h10 shJournal z D := oz.vr
    obtain ⟨f1, f2, f3, f4, f5, rfl⟩ := vz.journal5
    clear oz
    have hp10 := pos_of hp9 g10
    simp (disch := omega)
    refine callW_of (c418 h10 hp10 _ D vz sD _ D (vx.grow ((g6.trans g7).trans ((g8.trans g9).trans g10))) sD) ?_
    rintro _ h11 ⟨g11, rfl⟩
    rw [samJ_refl]
    refine ⟨fun _ => g11, ?_⟩
    simp (disch := omega)
    exact tail _ h11 ((((g5.trans g6).trans (g7.trans g8)).trans (g9.trans g10)).trans g11) (by simp) (by simp)
end Am

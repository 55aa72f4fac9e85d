/- The contract of the law FnKept. -/
import Derived.Test.YtbljglfnbjbknaaGreatAmK12
import Derived.Test.YtbljglfnbjbknaaGreatAmK11
import Derived.Test.YtbljglfnbjbknaaGreatAmK6
import Derived.Test.YtbljglfnbjbknaaGreatAmK7
import Derived.Test.YtbljglfnbjbknaaGreatAmK9
import Derived.Test.YtbljglfnbjbknaaGreatAmK10
set_option linter.unusedVariables false
set_option linter.unusedSimpArgs false
set_option maxHeartbeats 4000000
set_option maxRecDepth 40000
namespace Am
open Go

theorem addK_siz (X : Lib) (s : List UInt8) (P : Pan) : siz shKepts (addAns X s P).1 ≤ 1048576 := by
 obtain ⟨m, hm⟩ : ∃ m, m = addAns X s P := ⟨_, rfl⟩
 by_cases e : m.2 = 0
 ·have h : addAns X s P = (m.1, 0) := by rw [← hm, ← e]
  have g := (add_good h).1
  rw [h]
  exact good_siz g
 ·have : (addAns X s P).1 = [] := by
   rw [hm] at e
   unfold addAns at e ⊢
   split
   ·rename_i h1
    rw [if_pos h1] at e
    split
    ·rename_i h2
     rw [if_pos h2] at e
     split
     ·rfl
     ·rename_i h3
      rw [if_neg h3] at e
      split
      ·rfl
      ·rename_i h4
       rw [if_neg h4] at e
       exact absurd rfl e
    ·rfl
   ·rfl
  rw [this]; simp [siz_kepts, sizL]
theorem rmK_siz (X : Lib) (s : List UInt8) : siz shKepts (removeAns X s).1 ≤ 1048576 := by
 unfold removeAns
 split
 ·rename_i h
  split
  ·exact good_siz ((good_iff.1 (keptOk_iff.1 h)).sub (List.eraseIdx_sublist _ _))
  ·simp [siz_kepts, sizL]
 ·simp [siz_kepts, sizL]
theorem samK_same (X : Lib) : samK X X = true := by unfold samK; simp
theorem Vo.txv {h : Heap} {lo hi : Nat} {v : Value} {X : List (List UInt8)} (x : Vo h lo hi shTexts v X) (hl : X.length ≤ 1048576) : TxV h v X := by
 obtain ⟨b, z, rfl, _, _, _, hb⟩ := x.texts
 refine ⟨b, 0, z, rfl, hl, fun k hk => ?_⟩
 rcases hb with e | ⟨e, _⟩
 ·subst e; simp at hk
 ·exact cell_of e (by simp [Am.texts, hk])
theorem with_len (X : Lib) (a : Int) : (withC X a).1.length ≤ 1048576 := by
 have h1 := withC_siz X a
 unfold withC withAns
 split
 ·rename_i h
  have := (keptOk_iff.1 h).len
  simp only [List.length_map]
  refine Nat.le_trans (List.length_filter_le _ _) (by omega)
 ·simp

theorem law251 (h : Heap) (vs : List Value) (hp : 0 < h.length) (ha : All2 (ArgR h) [shBytes] vs) : ACall Gam 251 vs h fun v _ => v = .bool true := by
 obtain ⟨v0, vs0, rfl, b0, ha⟩ := all2_cons ha
 obtain rfl := all2_nil ha
 obtain ⟨(X : List Int), va⟩ := b0.vr
 refine ACall_intro g251 rfl ?_
 unfold fn251
 rw [awp_seq, awp_reg]
 generalize hK : seqQ Gam _ _ 0 = K
 try simp (disch := omega)
 subst hK
 simp only [seqQ_zero]
 rw [awp_seq]
 generalize hK : seqQ Gam _ _ = K
 try simp (disch := omega)
 refine callW_of (c269 h v0 X va) ?_
 rintro _ h1 ⟨rfl, rfl⟩
 generalize decide (4096 < X.length) = w
 cases w
 rotate_left
 ·subst hK
  try simp (disch := omega)
 try simp (disch := omega)
 subst hK
 simp only [seqQ_zero]
 rw [awp_seq, awp_reg]
 generalize hK : seqQ Gam _ _ 0 = K
 try simp (disch := omega)
 refine callW_of (c349 h1 v0 X hp va) ?_
 rintro _ h2 ⟨A, s, PA, _, _, rfl, vA, vP, sA, ss, sP, g2⟩
 try refine ⟨fun e => (by first | exact g2 | cases e), ?_⟩
 have hp2 := pos_of hp g2
 have va := va.grow g2
 have vAk := vA
 obtain ⟨kab, kao, kaz, rfl, _⟩ := vAk.kat
 obtain ⟨WA, HA, brA⟩ := PA
 obtain ⟨sA', rfl, uA1, uA2, _⟩ := vP.panel
 have sP' : siz shPanel ((WA, HA, brA) : Pan) ≤ 1048576 := by rw [siz_panel]; simp only at sP; omega
 try simp (disch := omega)
 subst hK
 simp only [seqQ_zero]
 rw [awp_seq, awp_reg]
 generalize hK : seqQ Gam _ _ 0 = K
 try simp (disch := omega)
 refine callW_of (c61 h2 hp2 _ A vA (by omega) s (by omega) _ _ vP sP') ?_
 rintro _ h3 ⟨g3, _, rfl, m1, _⟩
 try refine ⟨fun e => (by first | exact g3 | cases e), ?_⟩
 have hp3 := pos_of hp2 g3
 have va := va.grow g3
 have vA := vA.grow g3
 have vP := vP.grow g3
 obtain ⟨me, hme⟩ : ∃ me, me = addAns A s (WA, HA, brA) := ⟨_, rfl⟩
 have sme := addK_siz A s (WA, HA, brA)
 rw [← hme] at m1 sme ⊢
 have m1 := m1.vr
 have m1k := m1
 obtain ⟨kcb, kco, kcz, rfl, _⟩ := m1k.kat
 try simp (disch := omega)
 subst hK
 simp only [seqQ_zero]
 rw [awp_seq, awp_reg]
 generalize hK : seqQ Gam _ _ 0 = K
 try simp (disch := omega)
 refine callW_of (c329 h3 hp3 _ A vA (by omega) s (by omega) _ _ vP sP') ?_
 rintro _ h4 ⟨g4, _, rfl, m2, _⟩
 try refine ⟨fun e => (by first | exact g4 | cases e), ?_⟩
 have hp4 := pos_of hp3 g4
 have va := va.grow g4
 have vA := vA.grow g4
 have vP := vP.grow g4
 have m1 := m1.grow g4
 rw [← hme] at m2 ⊢
 have m2 := m2.vr
 have m2k := m2
 obtain ⟨kdb, kdo, kdz, rfl, _⟩ := m2k.kat
 try simp (disch := omega)
 subst hK
 simp only [seqQ_zero]
 rw [awp_seq, awp_reg]
 generalize hK : seqQ Gam _ _ 0 = K
 try simp (disch := omega)
 refine callW_of (c371 h4 v0 X hp4 va) ?_
 rintro _ h5 ⟨R, t, _, rfl, vR, sR, st, g5⟩
 try refine ⟨fun e => (by first | exact g5 | cases e), ?_⟩
 have hp5 := pos_of hp4 g5
 have va := va.grow g5
 have vA := vA.grow g5
 have vP := vP.grow g5
 have m1 := m1.grow g5
 have m2 := m2.grow g5
 have vRk := vR
 obtain ⟨keb, keo, kez, rfl, _⟩ := vRk.kat
 try simp (disch := omega)
 subst hK
 simp only [seqQ_zero]
 rw [awp_seq, awp_reg]
 generalize hK : seqQ Gam _ _ 0 = K
 try simp (disch := omega)
 refine callW_of (c124 h5 hp5 _ R vR (by omega) t (by omega)) ?_
 rintro _ h6 ⟨g6, _, rfl, y1, _⟩
 try refine ⟨fun e => (by first | exact g6 | cases e), ?_⟩
 have hp6 := pos_of hp5 g6
 have va := va.grow g6
 have vA := vA.grow g6
 have vP := vP.grow g6
 have m1 := m1.grow g6
 have m2 := m2.grow g6
 have vR := vR.grow g6
 obtain ⟨re, hre⟩ : ∃ re, re = removeAns R t := ⟨_, rfl⟩
 have sre := rmK_siz R t
 rw [← hre] at y1 sre ⊢
 have y1 := y1.vr
 have y1k := y1
 obtain ⟨kfb, kfo, kfz, rfl, _⟩ := y1k.kat
 try simp (disch := omega)
 subst hK
 simp only [seqQ_zero]
 rw [awp_seq, awp_reg]
 generalize hK : seqQ Gam _ _ 0 = K
 try simp (disch := omega)
 refine callW_of (c415 h6 hp6 _ R vR (by omega) t (by omega)) ?_
 rintro _ h7 ⟨g7, _, rfl, y2, _⟩
 try refine ⟨fun e => (by first | exact g7 | cases e), ?_⟩
 have hp7 := pos_of hp6 g7
 have va := va.grow g7
 have vA := vA.grow g7
 have vP := vP.grow g7
 have m1 := m1.grow g7
 have m2 := m2.grow g7
 have vR := vR.grow g7
 have y1 := y1.grow g7
 rw [← hre] at y2 ⊢
 have y2 := y2.vr
 have y2k := y2
 obtain ⟨kgb, kgo, kgz, rfl, _⟩ := y2k.kat
 try simp (disch := omega)
 subst hK
 simp only [seqQ_zero]
 rw [awp_seq, awp_reg]
 generalize hK : seqQ Gam _ _ 0 = K
 try simp (disch := omega)
 refine callW_of (c360 h7 v0 X hp7 va) ?_
 rintro _ h8 ⟨U, PB, _, _, rfl, vU, vQ, sU, sQ, g8⟩
 try refine ⟨fun e => (by first | exact g8 | cases e), ?_⟩
 have hp8 := pos_of hp7 g8
 have va := va.grow g8
 have vA := vA.grow g8
 have vP := vP.grow g8
 have m1 := m1.grow g8
 have m2 := m2.grow g8
 have vR := vR.grow g8
 have y1 := y1.grow g8
 have y2 := y2.grow g8
 have vUk := vU
 obtain ⟨khb, kho, khz, rfl, _⟩ := vUk.kat
 obtain ⟨WB, HB, brB⟩ := PB
 obtain ⟨sB', rfl, uB1, uB2, _⟩ := vQ.panel
 have sQ' : siz shPanel ((WB, HB, brB) : Pan) ≤ 1048576 := by rw [siz_panel]; simp only at sQ; omega
 try simp (disch := omega)
 subst hK
 simp only [seqQ_zero]
 rw [awp_seq, awp_reg]
 generalize hK : seqQ Gam _ _ 0 = K
 try simp (disch := omega)
 refine callW_of (c99 h8 hp8 _ U vU (by omega) _ _ vQ sQ') ?_
 rintro _ h9 ⟨g9, rfl⟩
 try refine ⟨fun e => (by first | exact g9 | cases e), ?_⟩
 have hp9 := pos_of hp8 g9
 have va := va.grow g9
 have vA := vA.grow g9
 have vP := vP.grow g9
 have m1 := m1.grow g9
 have m2 := m2.grow g9
 have vR := vR.grow g9
 have y1 := y1.grow g9
 have y2 := y2.grow g9
 have vU := vU.grow g9
 have vQ := vQ.grow g9
 obtain ⟨nm, hnm⟩ : ∃ nm, nm = nameOfAns U (WB, HB, brB) := ⟨_, rfl⟩
 rw [← hnm]
 try simp (disch := omega)
 subst hK
 simp only [seqQ_zero]
 rw [awp_seq, awp_reg]
 generalize hK : seqQ Gam _ _ 0 = K
 try simp (disch := omega)
 refine callW_of (c392 h9 hp9 _ U vU (by omega) _ _ vQ sQ') ?_
 rintro _ h10 ⟨g10, rfl⟩
 try refine ⟨fun e => (by first | exact g10 | cases e), ?_⟩
 have hp10 := pos_of hp9 g10
 have va := va.grow g10
 have vA := vA.grow g10
 have vP := vP.grow g10
 have m1 := m1.grow g10
 have m2 := m2.grow g10
 have vR := vR.grow g10
 have y1 := y1.grow g10
 have y2 := y2.grow g10
 have vU := vU.grow g10
 have vQ := vQ.grow g10
 rw [← hnm]
 try simp (disch := omega)
 subst hK
 simp only [seqQ_zero]
 rw [awp_seq, awp_reg]
 generalize hK : seqQ Gam _ _ 0 = K
 try simp (disch := omega)
 refine callW_of (c357 h10 v0 X hp10 va) ?_
 rintro _ h11 ⟨C, n, _, rfl, vC, sC, n64, g11⟩
 try refine ⟨fun e => (by first | exact g11 | cases e), ?_⟩
 have hp11 := pos_of hp10 g11
 have va := va.grow g11
 have vA := vA.grow g11
 have vP := vP.grow g11
 have m1 := m1.grow g11
 have m2 := m2.grow g11
 have vR := vR.grow g11
 have y1 := y1.grow g11
 have y2 := y2.grow g11
 have vU := vU.grow g11
 have vQ := vQ.grow g11
 have vCk := vC
 obtain ⟨kib, kio, kiz, rfl, _⟩ := vCk.kat
 try simp (disch := omega)
 subst hK
 simp only [seqQ_zero]
 rw [awp_seq, awp_reg]
 generalize hK : seqQ Gam _ _ 0 = K
 try simp (disch := omega)
 refine callW_of (c95 h11 hp11 _ C vC (by omega) n n64) ?_
 rintro _ h12 ⟨g12, _, rfl, t1, _⟩
 try refine ⟨fun e => (by first | exact g12 | cases e), ?_⟩
 have hp12 := pos_of hp11 g12
 have va := va.grow g12
 have vA := vA.grow g12
 have vP := vP.grow g12
 have m1 := m1.grow g12
 have m2 := m2.grow g12
 have vR := vR.grow g12
 have y1 := y1.grow g12
 have y2 := y2.grow g12
 have vU := vU.grow g12
 have vQ := vQ.grow g12
 have vC := vC.grow g12
 obtain ⟨wi, hwi⟩ : ∃ wi, wi = withC C n := ⟨_, rfl⟩
 have t1 := t1.txv (with_len C n)
 rw [← hwi] at t1
 have t1k := t1
 obtain ⟨kjb, kjo, kjz, rfl, _⟩ := t1k
 rw [← hwi]
 try simp (disch := omega)
 subst hK
 simp only [seqQ_zero]
 rw [awp_seq, awp_reg]
 generalize hK : seqQ Gam _ _ 0 = K
 try simp (disch := omega)
 refine callW_of (c387 h12 hp12 _ C vC (by omega) n n64) ?_
 rintro _ h13 ⟨g13, _, rfl, t2, _⟩
 try refine ⟨fun e => (by first | exact g13 | cases e), ?_⟩
 have hp13 := pos_of hp12 g13
 have va := va.grow g13
 have vA := vA.grow g13
 have vP := vP.grow g13
 have m1 := m1.grow g13
 have m2 := m2.grow g13
 have vR := vR.grow g13
 have y1 := y1.grow g13
 have y2 := y2.grow g13
 have vU := vU.grow g13
 have vQ := vQ.grow g13
 have vC := vC.grow g13
 have t1 := t1.grow g13
 have t2 := t2.txv (with_len C n)
 rw [← hwi] at t2
 have t2k := t2
 obtain ⟨kkb, kko, kkz, rfl, _⟩ := t2k
 rw [← hwi]
 try simp (disch := omega)
 subst hK
 simp only [seqQ_zero]
 rw [awp_seq]
 generalize hK : seqQ Gam _ _ = K
 try simp (disch := omega)
 refine callW_of (c419 h13 hp13 _ me.1 m1 (by omega) _ me.1 m2 (by omega)) ?_
 rintro _ h14 ⟨g14, rfl⟩
 try refine ⟨fun e => (by first | exact g14 | cases e), ?_⟩
 have hp14 := pos_of hp13 g14
 have va := va.grow g14
 have vA := vA.grow g14
 have vP := vP.grow g14
 have m1 := m1.grow g14
 have m2 := m2.grow g14
 have vR := vR.grow g14
 have y1 := y1.grow g14
 have y2 := y2.grow g14
 have vU := vU.grow g14
 have vQ := vQ.grow g14
 have vC := vC.grow g14
 have t1 := t1.grow g14
 have t2 := t2.grow g14
 rw [samK_same]
 try simp (disch := omega)
 refine callW_of (c419 h14 hp14 _ re.1 y1 (by omega) _ re.1 y2 (by omega)) ?_
 rintro _ h15 ⟨g15, rfl⟩
 try refine ⟨fun e => (by first | exact g15 | cases e), ?_⟩
 have hp15 := pos_of hp14 g15
 have va := va.grow g15
 have vA := vA.grow g15
 have vP := vP.grow g15
 have m1 := m1.grow g15
 have m2 := m2.grow g15
 have vR := vR.grow g15
 have y1 := y1.grow g15
 have y2 := y2.grow g15
 have vU := vU.grow g15
 have vQ := vQ.grow g15
 have vC := vC.grow g15
 have t1 := t1.grow g15
 have t2 := t2.grow g15
 rw [samK_same]
 try simp (disch := omega)
 refine callW_of (c274 h15 _ _ wi.1 wi.1 t1 t2) ?_
 rintro _ h16 ⟨rfl, rfl⟩
 try refine ⟨fun e => (by cases e), ?_⟩
 have hp16 := hp15
 try simp (disch := omega)
 refine callW_of (c139v h16 hp16 _ A vA (by omega)) ?_
 rintro _ h17 ⟨g17, rfl⟩
 try refine ⟨fun e => (by first | exact g17 | cases e), ?_⟩
 have hp17 := pos_of hp16 g17
 have va := va.grow g17
 have vA := vA.grow g17
 have vP := vP.grow g17
 have m1 := m1.grow g17
 have m2 := m2.grow g17
 have vR := vR.grow g17
 have y1 := y1.grow g17
 have y2 := y2.grow g17
 have vU := vU.grow g17
 have vQ := vQ.grow g17
 have vC := vC.grow g17
 have t1 := t1.grow g17
 have t2 := t2.grow g17
 try simp (disch := omega)
 refine callW_of (c428 h17 hp17 _ A vA (by omega)) ?_
 rintro _ h18 ⟨g18, rfl⟩
 try refine ⟨fun e => (by first | exact g18 | cases e), ?_⟩
 have hp18 := pos_of hp17 g18
 have va := va.grow g18
 have vA := vA.grow g18
 have vP := vP.grow g18
 have m1 := m1.grow g18
 have m2 := m2.grow g18
 have vR := vR.grow g18
 have y1 := y1.grow g18
 have y2 := y2.grow g18
 have vU := vU.grow g18
 have vQ := vQ.grow g18
 have vC := vC.grow g18
 have t1 := t1.grow g18
 have t2 := t2.grow g18
 try simp (disch := omega)
 subst hK
 simp only [seqQ_zero]
 clear vU vQ vR y1 y2 t1 t2 vC m2
 rw [awp_seq]
 generalize hK : seqQ Gam _ _ = K
 by_cases e0 : me.2 = 0
 rotate_left
 ·try simp (disch := omega) [e0]
  subst hK
  try simp (disch := omega)
 have hadd : addAns A s (WA, HA, brA) = (me.1, 0) := by rw [← hme, ← e0]
 try simp (disch := omega) [e0]
 subst hK
 simp only [seqQ_zero]
 rw [awp_seq, awp_reg]
 generalize hK : seqQ Gam _ _ 0 = K
 try simp (disch := omega)
 refine callW_of (c273 h18 v0 X 2401 va) ?_
 rintro _ ha ⟨rfl, ga, dice⟩
 try refine ⟨fun e => (by first | exact ga | cases e), ?_⟩
 try simp (disch := omega)
 refine callW_of (c3 ha _ dice) ?_
 rintro _ hb ⟨t8, rfl, t8l, mdb⟩
 try refine ⟨fun e => (by cases e), ?_⟩
 have gb := mdb.grows ga (Nat.le_refl _)
 have hpb := pos_of hp18 gb
 obtain ⟨okp, f1, f2, f3, f4⟩ := add_found hadd t8l
 clear va
 have vA := vA.grow gb
 have vP := vP.grow gb
 have m1 := m1.grow gb
 try simp (disch := omega)
 refine callW_of (c389 hb hpb _ (WA, HA, brA) vP t8 t8l) ?_
 rintro _ hc ⟨gc, _, rfl, oc⟩
 try refine ⟨fun e => (by first | exact gc | cases e), ?_⟩
 have eM : mapAns (WA, HA, brA) t8 = (mapP (WA, HA, brA) t8, 0) := by simp [mapAns, okP_iff.2 okp]
 rw [eM] at oc ⊢
 have hpc := pos_of hpb gc
 have okM := mapP_ok okp t8
 obtain ⟨M, hM⟩ : ∃ M, M = mapP (WA, HA, brA) t8 := ⟨_, rfl⟩
 simp only [← hM] at oc f2 okM ⊢
 obtain ⟨WM, HM, brM⟩ := M
 obtain ⟨sM, rfl, um1, um2, _⟩ := oc.panel
 have vM := oc.vr
 have sM' : siz shPanel ((WM, HM, brM) : Pan) ≤ 1048576 := by have := okM.siz; rw [siz_panel]; simp only at this; omega
 have vA := vA.grow gc
 have vP := vP.grow gc
 have m1 := m1.grow gc
 try simp (disch := omega)
 subst hK
 simp only [seqQ_zero]
 rw [awp_seq, awp_reg]
 generalize hK : seqQ Gam _ _ 0 = K
 try simp (disch := omega)
 refine callW_of (c99 hc hpc _ me.1 m1 (by omega) _ _ vM sM') ?_
 rintro _ hd ⟨gd, rfl⟩
 try refine ⟨fun e => (by first | exact gd | cases e), ?_⟩
 have hpd := pos_of hpc gd
 have vA := vA.grow gd
 have vP := vP.grow gd
 have m1 := m1.grow gd
 have vM := vM.grow gd
 rw [f2]
 try simp (disch := omega)
 subst hK
 simp only [seqQ_zero]
 rw [awp_seq, awp_reg]
 generalize hK : seqQ Gam _ _ 0 = K
 try simp (disch := omega)
 refine callW_of (c93 hd hpd _ me.1 m1 (by omega) s (by omega)) ?_
 rintro _ he ⟨ge, _, rfl, oe, _⟩
 try refine ⟨fun e => (by first | exact ge | cases e), ?_⟩
 have hpe := pos_of hpd ge
 have vA := vA.grow ge
 have vP := vP.grow ge
 have m1 := m1.grow ge
 have vM := vM.grow ge
 rw [f3] at oe ⊢
 obtain ⟨N, hN⟩ : ∃ N, N = canonP (WA, HA, brA) := ⟨_, rfl⟩
 have okN : OkP N := by rw [hN]; exact canonP_ok okp
 have canN : canonP N = canonP (WA, HA, brA) := by rw [hN]; exact canon_idem okp
 simp only [← hN] at oe ⊢
 obtain ⟨WN, HN, brN⟩ := N
 obtain ⟨sN, rfl, un1, un2, _⟩ := oe.panel
 have vN := oe.vr
 try simp (disch := omega)
 subst hK
 simp only [seqQ_zero]
 rw [awp_seq, awp_reg]
 generalize hK : seqQ Gam _ _ 0 = K
 try simp (disch := omega)
 refine callW_of (c124 he hpe _ me.1 m1 (by omega) s (by omega)) ?_
 rintro _ hf ⟨gf, _, rfl, of, _⟩
 try refine ⟨fun e => (by first | exact gf | cases e), ?_⟩
 have hpf := pos_of hpe gf
 have vA := vA.grow gf
 have vP := vP.grow gf
 have m1 := m1.grow gf
 have vM := vM.grow gf
 have vN := vN.grow gf
 rw [f4] at of ⊢
 have vF := of.vr
 have vFk := vF
 obtain ⟨kfb2, kfo2, kfz2, rfl, _⟩ := vFk.kat
 try simp (disch := omega)
 subst hK
 simp only [seqQ_zero]
 try simp (disch := omega)
 refine callW_of (c330 hf hpf _ (WN, HN, brN) vN _ (WA, HA, brA) vP okN okp) ?_
 rintro _ hg ⟨gg, rfl⟩
 try refine ⟨fun e => (by first | exact gg | cases e), ?_⟩
 have hpg := pos_of hpf gg
 have e1 : samP (canonP (WN, HN, brN)) (canonP (WA, HA, brA)) = true := by rw [canN]; simp [samP]
 rw [e1]
 have vF := vF.grow gg
 have vA := vA.grow gg
 have m1 := m1.grow gg
 try simp (disch := omega)
 refine callW_of (c419 hg hpg _ A vF (by omega) _ A vA (by omega)) ?_
 rintro _ hh ⟨gh, rfl⟩
 try refine ⟨fun e => (by first | exact gh | cases e), ?_⟩
 have hph := pos_of hpg gh
 rw [samK_same]
 have m1 := m1.grow gh
 try simp (disch := omega)
 refine callW_of (c139v hh hph _ me.1 m1 (by omega)) ?_
 rintro _ hi ⟨gi, rfl⟩
 try refine ⟨fun e => (by first | exact gi | cases e), ?_⟩
 rw [f1]
 try simp (disch := omega)
end Am

/- The contract of the law FnMergedKept. -/
import Derived.Test.YtbljglfnbjbknaaGreatAmK13
import Derived.Test.YtbljglfnbjbknaaGreatAmK7
import Derived.Test.YtbljglfnbjbknaaGreatAmK8
import Derived.Test.YtbljglfnbjbknaaGreatAmK9
import Derived.Test.YtbljglfnbjbknaaGreatAmK10
import Derived.Test.YtbljglfnbjbknaaGreatAmK11
set_option linter.unusedVariables false
set_option linter.unusedSimpArgs false
set_option maxHeartbeats 4000000
set_option maxRecDepth 40000
namespace Am
open Go

theorem mgk_siz (A B : Lib) : siz shKepts (mergeAnsK A B).1 ≤ 1048576 := by
 obtain ⟨m, hm⟩ : ∃ m, m = mergeAnsK A B := ⟨_, rfl⟩
 rw [← hm]
 by_cases e : m.2 = 0
 ·have := (merge_both (x := m.1) (by rw [← hm, ← e])).2
  exact good_siz (good_iff.1 (keptOk_iff.1 this))
 ·have : m.1 = [] := by
   rw [hm] at e ⊢
   unfold mergeAnsK mergeRes at e ⊢
   split
   ·rename_i hk
    rw [if_pos hk] at e
    split at e
    ·rfl
    ·split at e
     ·rename_i h; rw [if_pos h]
     ·simp at e
   ·rfl
  rw [this]; simp [siz_kepts, sizL]
theorem read_siz (s : List UInt8) : siz shKepts (readK s).1 ≤ 1048576 := by
 unfold readK
 split
 ·simp [siz_kepts, sizL]
 ·split
  ·simp [siz_kepts, sizL]
  ·split
   ·simp [siz_kepts, sizL]
   ·split
    ·rename_i h
     exact good_siz (good_iff.1 (keptOk_iff.1 h))
    ·simp [siz_kepts, sizL]
theorem unpack_siz (s : List UInt8) : siz shKepts (unpackK s).1 ≤ 1048576 := by
 unfold unpackK
 split
 ·rename_i h
  exact good_siz (good_iff.1 (keptOk_iff.1 (Classical.choose_spec h).1))
 ·simp [siz_kepts, sizL]
theorem text_siz (X : Lib) : (keptText X).length ≤ 1048576 := by
 unfold keptText
 split
 ·rename_i h
  have := txt_len' (good_iff.1 (keptOk_iff.1 h)).tx
  omega
 ·simp
theorem pack_siz (X : Lib) : (packAnsK X).1.length ≤ 1048576 := by
 unfold packAnsK
 split
 ·rename_i h
  have ok := keptOk_iff.1 h
  have pl := packBodyK_len ok X.length (Nat.le_refl _)
  rw [List.take_length] at pl
  have pl2 : (packK X).length = 4 + (packBodyK X).length := packK_len
  have := ok.len
  simp only; omega
 ·simp
theorem std_sz : siz shKepts stdK ≤ 1048576 := good_siz std_good

theorem samK_refl (X : Lib) : samK X X = true := by unfold samK; simp

theorem law252 (h : Heap) (vs : List Value) (hp : 0 < h.length) (ha : All2 (ArgR h) [shBytes] vs) : ACall Gam 252 vs h fun v _ => v = .bool true := by
 obtain ⟨v0, vs0, rfl, b0, ha⟩ := all2_cons ha
 obtain rfl := all2_nil ha
 obtain ⟨(X : List Int), va⟩ := b0.vr
 refine ACall_intro g252 rfl ?_
 unfold fn252
 rw [awp_seq, awp_reg]
 generalize hK : seqQ Gam _ _ 0 = K
 try simp (disch := omega)
 subst hK
 simp only [seqQ_zero]
 rw [awp_seq]
 generalize hK : seqQ Gam _ _ = K
 try simp (disch := omega)
 refine callW_of (c269 h v0 X va) ?_
 rintro _ h1 ⟨rfl, rfl⟩
 generalize decide (4096 < X.length) = w
 cases w
 rotate_left
 ·subst hK
  try simp (disch := omega)
 try simp (disch := omega)
 subst hK
 simp only [seqQ_zero]
 rw [awp_seq, awp_reg]
 generalize hK : seqQ Gam _ _ 0 = K
 try simp (disch := omega)
 refine callW_of (c358 h1 v0 X hp va) ?_
 rintro _ h2 ⟨A, B, _, _, rfl, vA, vB, ⟨sA, sB⟩, g2⟩
 try refine ⟨fun e => (by first | exact g2 | cases e), ?_⟩
 have hp2 := pos_of hp g2
 have va := va.grow g2
 have vAk := vA
 obtain ⟨kab, kao, kaz, rfl, _⟩ := vAk.kat
 have vBk := vB
 obtain ⟨kbb, kbo, kbz, rfl, _⟩ := vBk.kat
 try simp (disch := omega)
 subst hK
 simp only [seqQ_zero]
 rw [awp_seq, awp_reg]
 generalize hK : seqQ Gam _ _ 0 = K
 try simp (disch := omega)
 refine callW_of (c97 h2 hp2 _ A vA (by omega) _ B vB (by omega)) ?_
 rintro _ h3 ⟨g3, _, rfl, m1, _⟩
 try refine ⟨fun e => (by first | exact g3 | cases e), ?_⟩
 have hp3 := pos_of hp2 g3
 have va := va.grow g3
 have vA := vA.grow g3
 have vB := vB.grow g3
 obtain ⟨me, hme⟩ : ∃ me, me = mergeAnsK A B := ⟨_, rfl⟩
 have sme := mgk_siz A B
 rw [← hme] at m1 sme ⊢
 have m1 := m1.vr
 have m1k := m1
 obtain ⟨kcb, kco, kcz, rfl, _⟩ := m1k.kat
 try simp (disch := omega)
 subst hK
 simp only [seqQ_zero]
 rw [awp_seq, awp_reg]
 generalize hK : seqQ Gam _ _ 0 = K
 try simp (disch := omega)
 refine callW_of (c390 h3 hp3 _ A vA (by omega) _ B vB (by omega)) ?_
 rintro _ h4 ⟨g4, _, rfl, m2, _⟩
 try refine ⟨fun e => (by first | exact g4 | cases e), ?_⟩
 have hp4 := pos_of hp3 g4
 have va := va.grow g4
 have vA := vA.grow g4
 have vB := vB.grow g4
 have m1 := m1.grow g4
 rw [← hme] at m2 ⊢
 have m2 := m2.vr
 have m2k := m2
 obtain ⟨kdb, kdo, kdz, rfl, _⟩ := m2k.kat
 try simp (disch := omega)
 subst hK
 simp only [seqQ_zero]
 rw [awp_seq, awp_reg]
 generalize hK : seqQ Gam _ _ 0 = K
 try simp (disch := omega)
 refine callW_of (c356 h4 v0 X hp4 va) ?_
 rintro _ h5 ⟨T, vT, sT, g5⟩
 try refine ⟨fun e => (by first | exact g5 | cases e), ?_⟩
 have hp5 := pos_of hp4 g5
 have va := va.grow g5
 have vA := vA.grow g5
 have vB := vB.grow g5
 have m1 := m1.grow g5
 have m2 := m2.grow g5
 have vTk := vT
 obtain ⟨ktb, kto, ktz, rfl, _⟩ := vTk.kat
 try simp (disch := omega)
 subst hK
 simp only [seqQ_zero]
 rw [awp_seq, awp_reg]
 generalize hK : seqQ Gam _ _ 0 = K
 try simp (disch := omega)
 refine callW_of (c94 h5 hp5 _ T vT (by omega)) ?_
 rintro _ h6 ⟨g6, rfl⟩
 try refine ⟨fun e => (by first | exact g6 | cases e), ?_⟩
 have hp6 := pos_of hp5 g6
 have va := va.grow g6
 have vA := vA.grow g6
 have vB := vB.grow g6
 have m1 := m1.grow g6
 have m2 := m2.grow g6
 have vT := vT.grow g6
 obtain ⟨tx, htx⟩ : ∃ tx, tx = keptText T := ⟨_, rfl⟩
 have stx := text_siz T
 rw [← htx] at stx ⊢
 try simp (disch := omega)
 subst hK
 simp only [seqQ_zero]
 rw [awp_seq, awp_reg]
 generalize hK : seqQ Gam _ _ 0 = K
 try simp (disch := omega)
 refine callW_of (c121 h6 hp6 tx (by omega)) ?_
 rintro _ h7 ⟨g7, _, rfl, k1, _⟩
 try refine ⟨fun e => (by first | exact g7 | cases e), ?_⟩
 have hp7 := pos_of hp6 g7
 have va := va.grow g7
 have vA := vA.grow g7
 have vB := vB.grow g7
 have m1 := m1.grow g7
 have m2 := m2.grow g7
 have vT := vT.grow g7
 obtain ⟨rk, hrk⟩ : ∃ rk, rk = readK tx := ⟨_, rfl⟩
 have srk := read_siz tx
 rw [← hrk] at k1 srk ⊢
 have k1 := k1.vr
 have k1k := k1
 obtain ⟨keb, keo, kez, rfl, _⟩ := k1k.kat
 try simp (disch := omega)
 subst hK
 simp only [seqQ_zero]
 rw [awp_seq, awp_reg]
 generalize hK : seqQ Gam _ _ 0 = K
 try simp (disch := omega)
 refine callW_of (c370 h7 v0 X hp7 va) ?_
 rintro _ h8 ⟨s, rfl, ss, g8⟩
 try refine ⟨fun e => (by first | exact g8 | cases e), ?_⟩
 have hp8 := pos_of hp7 g8
 have va := va.grow g8
 have vA := vA.grow g8
 have vB := vB.grow g8
 have m1 := m1.grow g8
 have m2 := m2.grow g8
 have vT := vT.grow g8
 have k1 := k1.grow g8
 try simp (disch := omega)
 subst hK
 simp only [seqQ_zero]
 rw [awp_seq, awp_reg]
 generalize hK : seqQ Gam _ _ 0 = K
 try simp (disch := omega)
 refine callW_of (c121 h8 hp8 s (by omega)) ?_
 rintro _ h9 ⟨g9, _, rfl, y1, _⟩
 try refine ⟨fun e => (by first | exact g9 | cases e), ?_⟩
 have hp9 := pos_of hp8 g9
 have va := va.grow g9
 have vA := vA.grow g9
 have vB := vB.grow g9
 have m1 := m1.grow g9
 have m2 := m2.grow g9
 have vT := vT.grow g9
 have k1 := k1.grow g9
 obtain ⟨ry, hry⟩ : ∃ ry, ry = readK s := ⟨_, rfl⟩
 have sry := read_siz s
 rw [← hry] at y1 sry ⊢
 have y1 := y1.vr
 have y1k := y1
 obtain ⟨kyb, kyo, kyz, rfl, _⟩ := y1k.kat
 try simp (disch := omega)
 subst hK
 simp only [seqQ_zero]
 rw [awp_seq, awp_reg]
 generalize hK : seqQ Gam _ _ 0 = K
 try simp (disch := omega)
 refine callW_of (c412 h9 hp9 s (by omega)) ?_
 rintro _ h10 ⟨g10, _, rfl, y2, _⟩
 try refine ⟨fun e => (by first | exact g10 | cases e), ?_⟩
 have hp10 := pos_of hp9 g10
 have va := va.grow g10
 have vA := vA.grow g10
 have vB := vB.grow g10
 have m1 := m1.grow g10
 have m2 := m2.grow g10
 have vT := vT.grow g10
 have k1 := k1.grow g10
 have y1 := y1.grow g10
 rw [← hry] at y2 ⊢
 have y2 := y2.vr
 have y2k := y2
 obtain ⟨kzb, kzo, kzz, rfl, _⟩ := y2k.kat
 try simp (disch := omega)
 subst hK
 simp only [seqQ_zero]
 rw [awp_seq, awp_reg]
 generalize hK : seqQ Gam _ _ 0 = K
 try simp (disch := omega)
 refine callW_of (c361 h10 v0 X hp10 va) ?_
 rintro _ h11 ⟨P, vP, sP, g11⟩
 try refine ⟨fun e => (by first | exact g11 | cases e), ?_⟩
 have hp11 := pos_of hp10 g11
 have va := va.grow g11
 have vA := vA.grow g11
 have vB := vB.grow g11
 have m1 := m1.grow g11
 have m2 := m2.grow g11
 have vT := vT.grow g11
 have k1 := k1.grow g11
 have y1 := y1.grow g11
 have y2 := y2.grow g11
 have vPk := vP
 obtain ⟨kpb, kpo, kpz, rfl, _⟩ := vPk.kat
 try simp (disch := omega)
 subst hK
 simp only [seqQ_zero]
 rw [awp_seq, awp_reg]
 generalize hK : seqQ Gam _ _ 0 = K
 try simp (disch := omega)
 refine callW_of (c106 h11 hp11 _ P vP (by omega)) ?_
 rintro _ h12 ⟨g12, rfl⟩
 try refine ⟨fun e => (by first | exact g12 | cases e), ?_⟩
 have hp12 := pos_of hp11 g12
 have va := va.grow g12
 have vA := vA.grow g12
 have vB := vB.grow g12
 have m1 := m1.grow g12
 have m2 := m2.grow g12
 have vT := vT.grow g12
 have k1 := k1.grow g12
 have y1 := y1.grow g12
 have y2 := y2.grow g12
 have vP := vP.grow g12
 obtain ⟨pk, hpk⟩ : ∃ pk, pk = packAnsK P := ⟨_, rfl⟩
 have spk := pack_siz P
 rw [← hpk] at spk ⊢
 try simp (disch := omega)
 subst hK
 simp only [seqQ_zero]
 rw [awp_seq, awp_reg]
 generalize hK : seqQ Gam _ _ 0 = K
 try simp (disch := omega)
 refine callW_of (c397 h12 hp12 _ P vP (by omega)) ?_
 rintro _ h13 ⟨g13, rfl⟩
 try refine ⟨fun e => (by first | exact g13 | cases e), ?_⟩
 have hp13 := pos_of hp12 g13
 have va := va.grow g13
 have vA := vA.grow g13
 have vB := vB.grow g13
 have m1 := m1.grow g13
 have m2 := m2.grow g13
 have vT := vT.grow g13
 have k1 := k1.grow g13
 have y1 := y1.grow g13
 have y2 := y2.grow g13
 have vP := vP.grow g13
 rw [← hpk]
 try simp (disch := omega)
 subst hK
 simp only [seqQ_zero]
 rw [awp_seq, awp_reg]
 generalize hK : seqQ Gam _ _ 0 = K
 try simp (disch := omega)
 refine callW_of (c374 h13 v0 X hp13 va) ?_
 rintro _ h14 ⟨u, rfl, su, g14⟩
 try refine ⟨fun e => (by first | exact g14 | cases e), ?_⟩
 have hp14 := pos_of hp13 g14
 have va := va.grow g14
 have vA := vA.grow g14
 have vB := vB.grow g14
 have m1 := m1.grow g14
 have m2 := m2.grow g14
 have vT := vT.grow g14
 have k1 := k1.grow g14
 have y1 := y1.grow g14
 have y2 := y2.grow g14
 have vP := vP.grow g14
 try simp (disch := omega)
 subst hK
 simp only [seqQ_zero]
 rw [awp_seq, awp_reg]
 generalize hK : seqQ Gam _ _ 0 = K
 try simp (disch := omega)
 refine callW_of (c135 h14 hp14 u (by omega)) ?_
 rintro _ h15 ⟨g15, _, rfl, u1, _⟩
 try refine ⟨fun e => (by first | exact g15 | cases e), ?_⟩
 have hp15 := pos_of hp14 g15
 have va := va.grow g15
 have vA := vA.grow g15
 have vB := vB.grow g15
 have m1 := m1.grow g15
 have m2 := m2.grow g15
 have vT := vT.grow g15
 have k1 := k1.grow g15
 have y1 := y1.grow g15
 have y2 := y2.grow g15
 have vP := vP.grow g15
 obtain ⟨uk, huk⟩ : ∃ uk, uk = unpackK u := ⟨_, rfl⟩
 have suk := unpack_siz u
 rw [← huk] at u1 suk ⊢
 have u1 := u1.vr
 have u1k := u1
 obtain ⟨kub, kuo, kuz, rfl, _⟩ := u1k.kat
 try simp (disch := omega)
 subst hK
 simp only [seqQ_zero]
 rw [awp_seq, awp_reg]
 generalize hK : seqQ Gam _ _ 0 = K
 try simp (disch := omega)
 refine callW_of (c425 h15 hp15 u (by omega)) ?_
 rintro _ h16 ⟨g16, _, rfl, u2, _⟩
 try refine ⟨fun e => (by first | exact g16 | cases e), ?_⟩
 have hp16 := pos_of hp15 g16
 have va := va.grow g16
 have vA := vA.grow g16
 have vB := vB.grow g16
 have m1 := m1.grow g16
 have m2 := m2.grow g16
 have vT := vT.grow g16
 have k1 := k1.grow g16
 have y1 := y1.grow g16
 have y2 := y2.grow g16
 have vP := vP.grow g16
 have u1 := u1.grow g16
 rw [← huk] at u2 ⊢
 have u2 := u2.vr
 have u2k := u2
 obtain ⟨kwb, kwo, kwz, rfl, _⟩ := u2k.kat
 try simp (disch := omega)
 subst hK
 simp only [seqQ_zero]
 rw [awp_seq, awp_reg]
 generalize hK : seqQ Gam _ _ 0 = K
 try simp (disch := omega)
 refine callW_of (c373 h16 v0 X hp16 va) ?_
 rintro _ h17 ⟨C, D, _, _, rfl, vC, vD, ⟨sC, sD⟩, g17⟩
 try refine ⟨fun e => (by first | exact g17 | cases e), ?_⟩
 have hp17 := pos_of hp16 g17
 have va := va.grow g17
 have vA := vA.grow g17
 have vB := vB.grow g17
 have m1 := m1.grow g17
 have m2 := m2.grow g17
 have vT := vT.grow g17
 have k1 := k1.grow g17
 have y1 := y1.grow g17
 have y2 := y2.grow g17
 have vP := vP.grow g17
 have u1 := u1.grow g17
 have u2 := u2.grow g17
 have vCk := vC
 obtain ⟨kfb, kfo, kfz, rfl, _⟩ := vCk.kat
 have vDk := vD
 obtain ⟨kgb, kgo, kgz, rfl, _⟩ := vDk.kat
 try simp (disch := omega)
 subst hK
 simp only [seqQ_zero]
 clear va
 -- what the text gives
 have hread : tx = [] ∨ (rk = (T, true)) := by
  by_cases e : keptOk T = true
  ·right
   rw [hrk, htx]
   unfold keptText
   rw [if_pos e, read_text e]
  ·left
   rw [htx]; unfold keptText; rw [if_neg e]
 rw [awp_seq]
 generalize hK : seqQ Gam _ _ = K
 try simp (disch := omega)
 have tail : ∀ (σ : Nat → Value) (h' : Heap), Grows h17 h' → σ 3 = sl kab kao A.length kaz → σ 4 = sl kbb kbo B.length kbz → σ 5 = sl kcb kco me.1.length kcz → σ 6 = I me.2 → σ 18 = sl kpb kpo P.length kpz → σ 19 = S pk.1 → σ 20 = I pk.2 → K 0 σ h' := by
  intro σ h' g' q3 q4 q5 q6 q18 q19 q20
  have hp' := pos_of hp17 g'
  have vA := vA.grow g'
  have vB := vB.grow g'
  have vP := vP.grow g'
  have m1 := m1.grow g'
  subst hK
  simp only [seqQ_zero]
  rw [awp_seq]
  generalize hK : seqQ Gam _ _ = K
  have tail2 : ∀ (σ : Nat → Value) (h'' : Heap), Grows h' h'' → σ 3 = sl kab kao A.length kaz → σ 4 = sl kbb kbo B.length kbz → σ 5 = sl kcb kco me.1.length kcz → σ 6 = I me.2 → K 0 σ h'' := by
   intro σ h'' g'' q3 q4 q5 q6
   have hp'' := pos_of hp' g''
   have vA := vA.grow g''
   have vB := vB.grow g''
   have m1 := m1.grow g''
   subst hK
   simp only [seqQ_zero]
   rw [awp_seq]
   generalize hK : seqQ Gam _ _ = K
   by_cases e0 : me.2 = 0
   rotate_left
   ·try simp (disch := omega) [q6, e0]
    subst hK
    try simp (disch := omega)
   obtain ⟨mb, mk⟩ := merge_both (A := A) (B := B) (x := me.1) (by rw [← hme, ← e0])
   try simp (disch := omega) [q6, e0]
   subst hK
   simp only [seqQ_zero]
   rw [awp_seq, awp_reg]
   generalize hK : seqQ Gam _ _ 0 = K
   try simp (disch := omega) [q3, q4]
   refine callW_of (c97 h'' hp'' _ B vB (by omega) _ A vA (by omega)) ?_
   rintro _ ha ⟨ga, _, rfl, o1, _⟩
   try refine ⟨fun e => (by first | exact ga | cases e), ?_⟩
   rw [mb] at o1 ⊢
   have w1 := o1.vr
   have m1 := m1.grow ga
   have hpa := pos_of hp'' ga
   obtain ⟨kkb, kko, kkz, rfl, _⟩ := w1.kat
   clear o1
   try simp (disch := omega)
   subst hK
   simp only [seqQ_zero]
   try simp (disch := omega) [q5]
   refine callW_of (c419 ha hpa _ me.1 w1 (by omega) _ me.1 m1 (by omega)) ?_
   rintro _ hb ⟨gb, rfl⟩
   try refine ⟨fun e => (by first | exact gb | cases e), ?_⟩
   rw [samK_refl]
   have m1 := m1.grow gb
   have hpb := pos_of hpa gb
   try simp (disch := omega) [q5]
   refine callW_of (c139v hb hpb _ me.1 m1 (by omega)) ?_
   rintro _ hc ⟨gc, rfl⟩
   try refine ⟨fun e => (by first | exact gc | cases e), ?_⟩
   rw [mk]
   try simp (disch := omega)
  clear hK
  by_cases e0 : pk.2 = 0
  ·have ek : keptOk P = true ∧ pk.1 = packK P := by
    rw [hpk] at e0 ⊢
    unfold packAnsK at e0 ⊢
    split
    ·rename_i h; exact ⟨h, rfl⟩
    ·rename_i h; rw [if_neg h] at e0; simp at e0
   try simp (disch := omega) [q19, q20, e0]
   refine callW_of (c135 h' hp' pk.1 (by omega)) ?_
   rintro _ ha ⟨ga, _, rfl, o1, _⟩
   try refine ⟨fun e => (by first | exact ga | cases e), ?_⟩
   rw [ek.2, unpackK_yes ek.1] at o1 ⊢
   have w1 := o1.vr
   have vP := vP.grow ga
   have hpa := pos_of hp' ga
   obtain ⟨kkb, kko, kkz, rfl, _⟩ := w1.kat
   clear o1
   try simp (disch := omega) [q18]
   refine callW_of (c419 ha hpa _ P w1 (by omega) _ P vP (by omega)) ?_
   rintro _ hb ⟨gb, rfl⟩
   try refine ⟨fun e => (by first | exact gb | cases e), ?_⟩
   rw [samK_refl]
   try simp (disch := omega)
   exact tail2 _ hb (ga.trans gb) (by simp [q3]) (by simp [q4]) (by simp [q5]) (by simp [q6])
  ·try simp (disch := omega) [q20, e0]
   exact tail2 _ h' (Grows.refl _) (by simp [q3]) (by simp [q4]) (by simp [q5]) (by simp [q6])
 clear hK
 have JJ : Grows h17 h17 := Grows.refl _
 refine callW_of (c419 h17 hp17 _ me.1 m1 (by omega) _ me.1 m2 (by omega)) ?_
 rintro _ h18 ⟨g18, rfl⟩
 try refine ⟨fun e => (by first | exact g18 | cases e), ?_⟩
 have hp18 := pos_of hp17 g18
 have vA := vA.grow g18
 have vB := vB.grow g18
 have m1 := m1.grow g18
 have m2 := m2.grow g18
 have vT := vT.grow g18
 have k1 := k1.grow g18
 have y1 := y1.grow g18
 have y2 := y2.grow g18
 have vP := vP.grow g18
 have u1 := u1.grow g18
 have u2 := u2.grow g18
 have vC := vC.grow g18
 have vD := vD.grow g18
 rw [samK_refl]
 try simp (disch := omega)
 refine callW_of (c386 h18 hp18 _ T vT (by omega)) ?_
 rintro _ h19 ⟨g19, rfl⟩
 try refine ⟨fun e => (by first | exact g19 | cases e), ?_⟩
 have hp19 := pos_of hp18 g19
 have vA := vA.grow g19
 have vB := vB.grow g19
 have m1 := m1.grow g19
 have m2 := m2.grow g19
 have vT := vT.grow g19
 have k1 := k1.grow g19
 have y1 := y1.grow g19
 have y2 := y2.grow g19
 have vP := vP.grow g19
 have u1 := u1.grow g19
 have u2 := u2.grow g19
 have vC := vC.grow g19
 have vD := vD.grow g19
 rw [← htx]
 try simp (disch := omega)
 by_cases etx : tx = []
 ·try simp (disch := omega) [etx]
  refine callW_of (c419 h19 hp19 _ ry.1 y1 (by omega) _ ry.1 y2 (by omega)) ?_
  rintro _ h20 ⟨g20, rfl⟩
  try refine ⟨fun e => (by first | exact g20 | cases e), ?_⟩
  have hp20 := pos_of hp19 g20
  have vA := vA.grow g20
  have vB := vB.grow g20
  have m1 := m1.grow g20
  have m2 := m2.grow g20
  have vT := vT.grow g20
  have k1 := k1.grow g20
  have y1 := y1.grow g20
  have y2 := y2.grow g20
  have vP := vP.grow g20
  have u1 := u1.grow g20
  have u2 := u2.grow g20
  have vC := vC.grow g20
  have vD := vD.grow g20
  rw [samK_refl]
  try simp (disch := omega)
  refine callW_of (c419 h20 hp20 _ uk.1 u1 (by omega) _ uk.1 u2 (by omega)) ?_
  rintro _ h21 ⟨g21, rfl⟩
  try refine ⟨fun e => (by first | exact g21 | cases e), ?_⟩
  have hp21 := pos_of hp20 g21
  have vA := vA.grow g21
  have vB := vB.grow g21
  have m1 := m1.grow g21
  have m2 := m2.grow g21
  have vT := vT.grow g21
  have k1 := k1.grow g21
  have y1 := y1.grow g21
  have y2 := y2.grow g21
  have vP := vP.grow g21
  have u1 := u1.grow g21
  have u2 := u2.grow g21
  have vC := vC.grow g21
  have vD := vD.grow g21
  rw [samK_refl]
  try simp (disch := omega)
  refine callW_of (c128 h21 hp21 _ C vC (by omega) _ D vD (by omega)) ?_
  rintro _ h22 ⟨g22, rfl⟩
  try refine ⟨fun e => (by first | exact g22 | cases e), ?_⟩
  have hp22 := pos_of hp21 g22
  have vA := vA.grow g22
  have vB := vB.grow g22
  have m1 := m1.grow g22
  have m2 := m2.grow g22
  have vT := vT.grow g22
  have k1 := k1.grow g22
  have y1 := y1.grow g22
  have y2 := y2.grow g22
  have vP := vP.grow g22
  have u1 := u1.grow g22
  have u2 := u2.grow g22
  have vC := vC.grow g22
  have vD := vD.grow g22
  try simp (disch := omega)
  refine callW_of (c419 h22 hp22 _ C vC (by omega) _ D vD (by omega)) ?_
  rintro _ h23 ⟨g23, rfl⟩
  try refine ⟨fun e => (by first | exact g23 | cases e), ?_⟩
  have hp23 := pos_of hp22 g23
  have vA := vA.grow g23
  have vB := vB.grow g23
  have m1 := m1.grow g23
  have m2 := m2.grow g23
  have vT := vT.grow g23
  have k1 := k1.grow g23
  have y1 := y1.grow g23
  have y2 := y2.grow g23
  have vP := vP.grow g23
  have u1 := u1.grow g23
  have u2 := u2.grow g23
  have vC := vC.grow g23
  have vD := vD.grow g23
  try simp (disch := omega)
  refine callW_of (c132 h23 hp23) ?_
  rintro _ h24 ⟨g24, o1, _⟩
  try refine ⟨fun e => (by first | exact g24 | cases e), ?_⟩
  have hp24 := pos_of hp23 g24
  have vA := vA.grow g24
  have vB := vB.grow g24
  have m1 := m1.grow g24
  have m2 := m2.grow g24
  have vT := vT.grow g24
  have k1 := k1.grow g24
  have y1 := y1.grow g24
  have y2 := y2.grow g24
  have vP := vP.grow g24
  have u1 := u1.grow g24
  have u2 := u2.grow g24
  have vC := vC.grow g24
  have vD := vD.grow g24
  have w1 := o1.vr
  have w1k := w1
  obtain ⟨kib, kio, kiz, rfl, _⟩ := w1k.kat
  clear o1
  try simp (disch := omega)
  refine callW_of (c422 h24 hp24) ?_
  rintro _ h25 ⟨g25, o2, _⟩
  try refine ⟨fun e => (by first | exact g25 | cases e), ?_⟩
  have hp25 := pos_of hp24 g25
  have vA := vA.grow g25
  have vB := vB.grow g25
  have m1 := m1.grow g25
  have m2 := m2.grow g25
  have vT := vT.grow g25
  have k1 := k1.grow g25
  have y1 := y1.grow g25
  have y2 := y2.grow g25
  have vP := vP.grow g25
  have u1 := u1.grow g25
  have u2 := u2.grow g25
  have vC := vC.grow g25
  have vD := vD.grow g25
  have w1 := w1.grow g25
  have w2 := o2.vr
  have w2k := w2
  obtain ⟨kjb, kjo, kjz, rfl, _⟩ := w2k.kat
  clear o2
  try simp (disch := omega)
  refine callW_of (c419 h25 hp25 _ stdK w1 std_sz _ stdK w2 std_sz) ?_
  rintro _ h26 ⟨g26, rfl⟩
  try refine ⟨fun e => (by first | exact g26 | cases e), ?_⟩
  have hp26 := pos_of hp25 g26
  have vA := vA.grow g26
  have vB := vB.grow g26
  have m1 := m1.grow g26
  have m2 := m2.grow g26
  have vT := vT.grow g26
  have k1 := k1.grow g26
  have y1 := y1.grow g26
  have y2 := y2.grow g26
  have vP := vP.grow g26
  have u1 := u1.grow g26
  have u2 := u2.grow g26
  have vC := vC.grow g26
  have vD := vD.grow g26
  have w1 := w1.grow g26
  have w2 := w2.grow g26
  rw [samK_refl]
  try simp (disch := omega)
  exact tail _ _ ((((((((g18.trans g19).trans g20).trans g21).trans g22).trans g23).trans g24).trans g25).trans g26) (by simp) (by simp) (by simp) (by simp) (by simp) (by simp) (by simp)
 ·have erk : rk = (T, true) := hread.resolve_left etx
  have er1 : rk.1 = T := by rw [erk]
  have er2 : rk.2 = true := by rw [erk]
  try simp (disch := omega) [etx, er2]
  refine callW_of (c419 h19 hp19 _ rk.1 k1 (by omega) _ T vT (by omega)) ?_
  rintro _ h20 ⟨g20, rfl⟩
  try refine ⟨fun e => (by first | exact g20 | cases e), ?_⟩
  have hp20 := pos_of hp19 g20
  have vA := vA.grow g20
  have vB := vB.grow g20
  have m1 := m1.grow g20
  have m2 := m2.grow g20
  have vT := vT.grow g20
  have k1 := k1.grow g20
  have y1 := y1.grow g20
  have y2 := y2.grow g20
  have vP := vP.grow g20
  have u1 := u1.grow g20
  have u2 := u2.grow g20
  have vC := vC.grow g20
  have vD := vD.grow g20
  rw [er1, samK_refl]
  try simp (disch := omega)
  refine callW_of (c419 h20 hp20 _ ry.1 y1 (by omega) _ ry.1 y2 (by omega)) ?_
  rintro _ h21 ⟨g21, rfl⟩
  try refine ⟨fun e => (by first | exact g21 | cases e), ?_⟩
  have hp21 := pos_of hp20 g21
  have vA := vA.grow g21
  have vB := vB.grow g21
  have m1 := m1.grow g21
  have m2 := m2.grow g21
  have vT := vT.grow g21
  have k1 := k1.grow g21
  have y1 := y1.grow g21
  have y2 := y2.grow g21
  have vP := vP.grow g21
  have u1 := u1.grow g21
  have u2 := u2.grow g21
  have vC := vC.grow g21
  have vD := vD.grow g21
  rw [samK_refl]
  try simp (disch := omega)
  refine callW_of (c419 h21 hp21 _ uk.1 u1 (by omega) _ uk.1 u2 (by omega)) ?_
  rintro _ h22 ⟨g22, rfl⟩
  try refine ⟨fun e => (by first | exact g22 | cases e), ?_⟩
  have hp22 := pos_of hp21 g22
  have vA := vA.grow g22
  have vB := vB.grow g22
  have m1 := m1.grow g22
  have m2 := m2.grow g22
  have vT := vT.grow g22
  have k1 := k1.grow g22
  have y1 := y1.grow g22
  have y2 := y2.grow g22
  have vP := vP.grow g22
  have u1 := u1.grow g22
  have u2 := u2.grow g22
  have vC := vC.grow g22
  have vD := vD.grow g22
  rw [samK_refl]
  try simp (disch := omega)
  refine callW_of (c128 h22 hp22 _ C vC (by omega) _ D vD (by omega)) ?_
  rintro _ h23 ⟨g23, rfl⟩
  try refine ⟨fun e => (by first | exact g23 | cases e), ?_⟩
  have hp23 := pos_of hp22 g23
  have vA := vA.grow g23
  have vB := vB.grow g23
  have m1 := m1.grow g23
  have m2 := m2.grow g23
  have vT := vT.grow g23
  have k1 := k1.grow g23
  have y1 := y1.grow g23
  have y2 := y2.grow g23
  have vP := vP.grow g23
  have u1 := u1.grow g23
  have u2 := u2.grow g23
  have vC := vC.grow g23
  have vD := vD.grow g23
  try simp (disch := omega)
  refine callW_of (c419 h23 hp23 _ C vC (by omega) _ D vD (by omega)) ?_
  rintro _ h24 ⟨g24, rfl⟩
  try refine ⟨fun e => (by first | exact g24 | cases e), ?_⟩
  have hp24 := pos_of hp23 g24
  have vA := vA.grow g24
  have vB := vB.grow g24
  have m1 := m1.grow g24
  have m2 := m2.grow g24
  have vT := vT.grow g24
  have k1 := k1.grow g24
  have y1 := y1.grow g24
  have y2 := y2.grow g24
  have vP := vP.grow g24
  have u1 := u1.grow g24
  have u2 := u2.grow g24
  have vC := vC.grow g24
  have vD := vD.grow g24
  try simp (disch := omega)
  refine callW_of (c132 h24 hp24) ?_
  rintro _ h25 ⟨g25, o1, _⟩
  try refine ⟨fun e => (by first | exact g25 | cases e), ?_⟩
  have hp25 := pos_of hp24 g25
  have vA := vA.grow g25
  have vB := vB.grow g25
  have m1 := m1.grow g25
  have m2 := m2.grow g25
  have vT := vT.grow g25
  have k1 := k1.grow g25
  have y1 := y1.grow g25
  have y2 := y2.grow g25
  have vP := vP.grow g25
  have u1 := u1.grow g25
  have u2 := u2.grow g25
  have vC := vC.grow g25
  have vD := vD.grow g25
  have w1 := o1.vr
  have w1k := w1
  obtain ⟨kib, kio, kiz, rfl, _⟩ := w1k.kat
  clear o1
  try simp (disch := omega)
  refine callW_of (c422 h25 hp25) ?_
  rintro _ h26 ⟨g26, o2, _⟩
  try refine ⟨fun e => (by first | exact g26 | cases e), ?_⟩
  have hp26 := pos_of hp25 g26
  have vA := vA.grow g26
  have vB := vB.grow g26
  have m1 := m1.grow g26
  have m2 := m2.grow g26
  have vT := vT.grow g26
  have k1 := k1.grow g26
  have y1 := y1.grow g26
  have y2 := y2.grow g26
  have vP := vP.grow g26
  have u1 := u1.grow g26
  have u2 := u2.grow g26
  have vC := vC.grow g26
  have vD := vD.grow g26
  have w1 := w1.grow g26
  have w2 := o2.vr
  have w2k := w2
  obtain ⟨kjb, kjo, kjz, rfl, _⟩ := w2k.kat
  clear o2
  try simp (disch := omega)
  refine callW_of (c419 h26 hp26 _ stdK w1 std_sz _ stdK w2 std_sz) ?_
  rintro _ h27 ⟨g27, rfl⟩
  try refine ⟨fun e => (by first | exact g27 | cases e), ?_⟩
  have hp27 := pos_of hp26 g27
  have vA := vA.grow g27
  have vB := vB.grow g27
  have m1 := m1.grow g27
  have m2 := m2.grow g27
  have vT := vT.grow g27
  have k1 := k1.grow g27
  have y1 := y1.grow g27
  have y2 := y2.grow g27
  have vP := vP.grow g27
  have u1 := u1.grow g27
  have u2 := u2.grow g27
  have vC := vC.grow g27
  have vD := vD.grow g27
  have w1 := w1.grow g27
  have w2 := w2.grow g27
  rw [samK_refl]
  try simp (disch := omega)
  exact tail _ _ (((((((((g18.trans g19).trans g20).trans g21).trans g22).trans g23).trans g24).trans g25).trans g26).trans g27) (by simp) (by simp) (by simp) (by simp) (by simp) (by simp) (by simp)
end Am

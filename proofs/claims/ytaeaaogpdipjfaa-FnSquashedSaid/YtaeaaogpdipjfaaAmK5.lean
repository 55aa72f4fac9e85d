/- Contracts: AmS3, AmS4, AmY1, AmY7, AmY28. -/
import Derived.Test.YtaeaaogpdipjfaaAmK4
import Derived.Test.YtaeaaogpdipjfaaAmK2
/-! AmS3 -/
set_option linter.unusedVariables false
set_option linter.unusedSimpArgs false
set_option maxHeartbeats 4000000
set_option maxRecDepth 4000
namespace Am
open Go

theorem JM.mod {h h' : Heap} {lo jb lo' hi' : Nat} {X : Jrn} {rest : List Value} (x : JM h lo jb X rest) (m : Mod lo' hi' h h') (hd : hi' ≤ lo) : JM h' lo jb X rest := by
  obtain ⟨b1, z1, b2, z2, b3, z3, hjb, hlo, hpos, hz1, i1, i2, i3, wf⟩ := x
  exact ⟨b1, z1, b2, z2, b3, z3, by rw [m.2 _ (at_lt hjb) (by omega)]; exact hjb, hlo, hpos, hz1, i1.imp id fun e => ⟨by rw [m.2 _ (at_lt e.1) (by omega)]; exact e.1, e.2⟩, i2.imp id fun e => ⟨e.1, by rw [m.2 _ (at_lt e.2.1) (by omega)]; exact e.2.1, e.2.2⟩, i3.imp id fun e => ⟨e.1, by rw [m.2 _ (at_lt e.2.1) (by omega)]; exact e.2.1, e.2.2⟩, wf⟩
theorem c433 (h : Heap) (a b : Int) : ACall Gam 433 [I a, I b] h fun r h' => r = I (if b < a then a else b) ∧ h' = h := by
  refine ACall_intro g433 rfl ?_
  unfold fn433
  simp (disch := omega)
  refine fork_dec (fun h3 => ?_) (fun h3 => ?_)
  · rw [if_pos (by omega)]; simp (disch := omega)
  · rw [if_neg (by omega)]; simp (disch := omega)
/-- A journal of ours that is valid. -/
def OwnJ (h : Heap) (lo jb c : Nat) : Prop := ∃ X rest, JM h lo jb X rest ∧ okJ X = true ∧ X.2.1.length + X.2.2.length ≤ c

theorem c557 (h : Heap) (b m : Nat) (n : Int) (hs : Src h b m) (hm : m ≤ 10000000) (hn : 1 ≤ n ∧ n ≤ 100) : ACall Gam 557 [pt b 0, I n] h fun r h' => ∃ X : Jrn, okJ X = true ∧ ((X.2.1.length + X.2.2.length : Nat) : Int) ≤ n ∧ Mod b (b + 1) h h' ∧ VoJ h' h.length h'.length r X := by
  have hb : b < h.length := by
    obtain ⟨_, _, _, _, _, _, e, _⟩ := hs
    exact at_lt e
  refine ACall_intro g557 rfl ?_
  unfold fn557
  rw [awp_seq, awp_reg]
  generalize hK : seqQ Gam _ _ 0 = K
  simp (disch := omega)
  subst hK
  simp only [seqQ_zero]
  rw [awp_seq, awp_reg]
  generalize hK : seqQ Gam _ _ 0 = K
  simp (disch := omega)
  refine callW_of (c445 h b m 4 hs (by omega) (by omega)) ?_
  rintro _ h1 ⟨⟨W, H, br⟩, ok, w4, h4, md1, o1, hs1⟩
  obtain ⟨s, rfl, w64, h64, o1⟩ := o1.panel
  obtain ⟨bb, zz, e, hz, hmx, hx, hbb⟩ := o1.ints
  subst e
  have hbl := ok_len ok
  have L1 := md1.1
  have hsb : storeAt (h1 ++ [⟨[I 0, I 0, sl 0 0 0 0, sl 0 0 0 0, sl 0 0 0 0], true⟩]) h1.length 0 [I W, I H, sl bb 0 br.length zz, sl 0 0 0 0, sl 0 0 0 0] = some (h1 ++ [⟨[I W, I H, sl bb 0 br.length zz, sl 0 0 0 0, sl 0 0 0 0], true⟩]) := store_box rfl
  simp (disch := omega) [hsb]
  obtain ⟨h2, e2⟩ : ∃ h2, h2 = h1 ++ [⟨[I W, I H, sl bb 0 br.length zz, sl 0 0 0 0, sl 0 0 0 0], true⟩] := ⟨_, rfl⟩
  rw [← e2]
  have g2 : Grows h1 h2 := ⟨_, e2⟩
  have hJ : JM h2 h.length h1.length ((W, H, br), [], []) [] := by
    refine ⟨bb, zz, 0, 0, 0, 0, by rw [e2]; simp, by omega, by omega, hz, ?_, .inl ⟨rfl, rfl⟩, .inl ⟨rfl, rfl⟩, ⟨w64, h64, hx, by simp, by simp, by simp only; omega, by simp, by simp⟩⟩
    exact hbb.imp id fun e => ⟨by rw [g2.look (at_lt e.1)]; exact e.1, by omega, by omega, by omega, by omega⟩
  have okX : okJ ((W, H, br), [], []) = true := okJ_iff.2 ⟨okP_iff.2 ok, by simp, ⟨_, rfl⟩, ⟨_, rfl⟩⟩
  have O2 : OwnJ h2 h.length h1.length 0 := ⟨_, _, hJ, okX, by simp⟩
  have hs2 := hs1.grow g2
  have m2 : Mod b (b + 1) h h2 := md1.trans g2.mod
  obtain ⟨jb, ejb⟩ : ∃ jb, jb = h1.length := ⟨_, rfl⟩
  rw [← ejb] at O2 ⊢
  clear hJ hsb
  subst hK
  simp only [seqQ_zero]
  rw [awp_seq]
  generalize hK : seqQ Gam _ _ = K
  simp (disch := omega) [wrap64]
  refine callW_of (c7 h2 b _ (n + 1) hs2 (by omega) (by unfold I64; omega)) ?_
  rintro _ h3 ⟨k, rfl, _, k2, md3, l3, hs3⟩
  have O3 : OwnJ h3 h.length jb (k - k) := by
    obtain ⟨X, rest, hJ, ok, hc⟩ := O2
    exact ⟨X, rest, hJ.mod md3 (by omega), ok, by omega⟩
  have m3 := m2.trans md3
  simp (disch := omega)
  refine awp_loop (fun (i : Nat) σ h' => i ≤ k ∧ Mod b (b + 1) h h' ∧ σ 0 = pt b 0 ∧ σ 4 = .agg #[I 0, I 0, sl 0 0 0 0, sl 0 0 0 0, sl 0 0 0 0] ∧ σ 5 = pt jb 0 ∧ σ 6 = I i ∧ Src h' b (m + 2000 + 10 * (k - i)) ∧ OwnJ h' h.length jb (k - i)) (fun i => i) k ?_ ?_
  · exact ⟨by omega, m3, by simp, by simp, by simp, by simp, hs3.mono (by omega), O3⟩
  · rintro i σ h' ⟨hi, md, q0, q4, q5, q6, hs', ⟨X, rest, hJ, okX, hXc⟩⟩
    have hL := md.1
    rw [awp_seq]
    generalize hA : seqQ Gam _ _ = A
    simp (disch := omega) [q6]
    refine fork_dec (fun hlt => ?_) (fun hge => ?_)
    · simp (disch := omega)
      subst hA
      simp only [seqQ_zero]
      rw [awp_seq]
      generalize hP : seqQ Gam _ _ = P
      have post : ∀ (σ : Nat → Value) (h8 : Heap), σ 0 = pt b 0 → σ 4 = .agg #[I 0, I 0, sl 0 0 0 0, sl 0 0 0 0, sl 0 0 0 0] → σ 5 = pt jb 0 → σ 6 = I i → Mod b (b + 1) h h8 → Src h8 b (m + 2000 + 10 * (k - i) + 8) → OwnJ h8 h.length jb (k - i + 1) → P 0 σ h8 := by
        intro σ h8 q0 q4 q5 q6 M8 hs8 hO
        subst hP
        simp only [seqQ_zero]
        simp (disch := omega) [q0, q4, q5, q6, wrap64]
        have hO' : OwnJ h8 h.length jb (k - (i - 1)) := by
          obtain ⟨X', r', x1, x2, x3⟩ := hO
          exact ⟨X', r', x1, x2, by omega⟩
        exact ⟨i - 1, ⟨by omega, M8, by omega, hs8.mono (by omega), hO'⟩, by omega⟩
      rw [awp_block]
      have post' : ∀ (σ : Nat → Value) (h8 : Heap), σ 0 = pt b 0 → σ 4 = .agg #[I 0, I 0, sl 0 0 0 0, sl 0 0 0 0, sl 0 0 0 0] → σ 5 = pt jb 0 → σ 6 = I i → Mod b (b + 1) h h8 → Src h8 b (m + 2000 + 10 * (k - i) + 8) → OwnJ h8 h.length jb (k - i + 1) → blockQ 1 P 0 σ h8 := by
        intro σ h8 q0 q4 q5 q6 M8 hs8 hO
        rw [blockQ_eq, if_neg (by omega)]
        exact post σ h8 q0 q4 q5 q6 M8 hs8 hO
      clear post hP
      generalize blockQ 1 P = B1 at post' ⊢
      obtain ⟨b1, z1, b2, z2, b3, z3, hx⟩ := hJ
      have hJ : JM h' h.length jb X rest := ⟨b1, z1, b2, z2, b3, z3, hx⟩
      have hx : JMx h' h.length jb X rest b1 z1 b2 z2 b3 z3 := hx
      have kk2 := hx.cells.1
      have hbl : X.1.2.2.length ≤ 112 := by
        obtain ⟨ok, _, _⟩ := okJ_parts (W := X.1.1) (H := X.1.2.1) (br := X.1.2.2) (p := X.2.1) (f := X.2.2) okX
        exact ok_len ok
      rw [awp_seq, awp_reg]
      generalize hC : seqQ Gam _ _ 0 = C
      simp (disch := omega) [q0, q5, kk2]
      refine callW_of (c433 h' 1 X.1.2.2.length) ?_
      rintro _ h4 ⟨rfl, rfl⟩
      obtain ⟨mx, emx⟩ : ∃ mx : Int, mx = (if (X.1.2.2.length : Int) < 1 then (1 : Int) else (X.1.2.2.length : Int)) := ⟨_, rfl⟩
      refine ⟨fun e => (by cases e), ?_⟩
      have bmx : 1 ≤ mx ∧ mx ≤ 112 := by rw [emx]; split <;> omega
      rw [← emx]
      refine callW_of (c7 h4 b _ mx hs' (by omega) (by unfold I64; omega)) ?_
      rintro _ h5 ⟨nu, rfl, nu1, nu2, md5, l5, hs5⟩
      have hJ5 := hJ.mod md5 (by omega)
      clear hJ hx kk2 emx
      refine ⟨fun e => (by cases e), ?_⟩
      try simp (disch := omega) [q0, q5]
      subst hC
      simp only [seqQ_zero]
      rw [awp_seq, awp_reg]
      generalize hC : seqQ Gam _ _ 0 = C
      simp (disch := omega) [q0, q5]
      refine callW_of (c7 h5 b _ 3 hs5 (by omega) (by unfold I64; omega)) ?_
      rintro _ h6 ⟨kd, rfl, kd1, kd2, md6, l6, hs6⟩
      have hJ6 := hJ5.mod md6 (by omega)
      refine ⟨fun e => (by cases e), ?_⟩
      try simp (disch := omega) [q0, q5]
      refine callW_of (c556 h6 h.length jb X rest nu kd (by unfold I64; omega) (by unfold I64; omega) hJ6) ?_
      rintro _ h7 ⟨rfl, hn0, h0⟩
      have key : ∃ Y rest', JM h7 h.length jb Y rest' ∧ okJ Y = true ∧ Y.2.1.length + Y.2.2.length ≤ k - i + 1 ∧ Mod h.length h6.length h6 h7 := by
        by_cases hc : doCode X nu kd = 0
        · obtain ⟨mdd, hJd⟩ := h0 hc
          exact ⟨_, _, hJd, (do_law (W := X.1.1) (H := X.1.2.1) (br := X.1.2.2) (p := X.2.1) (f := X.2.2) okX hc).1, by simp [doJ]; omega, mdd⟩
        · obtain rfl := hn0 hc
          exact ⟨X, rest, hJ6, okX, by omega, Mod.refl _ _ _⟩
      obtain ⟨Y, rest', hJ7, okY, hYc, md7⟩ := key
      have hs7 := hs6.mod md7 hb
      have L5 := md5.1; have L6 := md6.1; have L7 := md7.1
      have M7 : Mod b (b + 1) h h7 := ⟨by omega, fun c hc hn => by rw [md7.2 c (by omega) (by omega), ((md.trans md5).trans md6).2 c hc hn]⟩
      have L7h := M7.1
      clear hn0 h0 hJ6 hJ5 md5 md6 hs5 hs6 md7 md
      obtain ⟨b1, z1, b2, z2, b3, z3, hx⟩ := hJ7
      have hJ7 : JM h7 h.length jb Y rest' := ⟨b1, z1, b2, z2, b3, z3, hx⟩
      have hx : JMx h7 h.length jb Y rest' b1 z1 b2 z2 b3 z3 := hx
      have kk3 := hx.cells.2.1
      clear hx
      have hnY := (JK.of okY).n
      refine ⟨fun e => (by cases e), ?_⟩
      try simp (disch := omega) [q0, q5]
      subst hC
      simp only [seqQ_zero]
      obtain ⟨w, hw⟩ : ∃ w : Bool, w = decide (0 < Y.2.1.length) := ⟨_, rfl⟩
      rw [awp_seq, awp_reg]
      generalize hC : seqQ Gam _ _ 0 = C
      simp (disch := omega) [q0, q5, kk3, ← hw]
      cases w
      · simp (disch := omega) [q0, q5]
        subst hC
        simp only [seqQ_zero]
        simp (disch := omega)
        exact post' _ h7 (by simpa using q0) (by simpa using q4) (by simpa using q5) (by simpa using q6) M7 (hs7.mono (by omega)) ⟨Y, rest', hJ7, okY, hYc⟩
      · have hpe : Y.2.1 ≠ [] := by intro e; rw [e] at hw; simp at hw
        simp (disch := omega) [q0, q5]
        refine callW_of (c6 h7 b _ 4 hs7 (by omega) (by unfold I64; omega)) ?_
        rintro _ h8 ⟨x, rfl, md8, l8, hs8⟩
        have hJ8 := hJ7.mod md8 (by omega)
        have M8 := M7.trans md8
        refine ⟨fun e => (by cases e), ?_⟩
        try simp (disch := omega)
        subst hC
        simp only [seqQ_zero]
        cases x
        · simp (disch := omega)
          exact post' _ h8 (by simpa using q0) (by simpa using q4) (by simpa using q5) (by simpa using q6) M8 (hs8.mono (by omega)) ⟨Y, rest', hJ8, okY, hYc⟩
        · simp (disch := omega) [q0, q5]
          refine callW_of (undo_s h8 _ jb Y rest' hJ8 (JK.of okY) hpe) ?_
          rintro _ h9 ⟨md9, rest9, hJ9⟩
          have hs9 := hs8.mod md9 hb
          have M9 : Mod b (b + 1) h h9 := ⟨by have := md9.1; omega, fun c hc hn => by rw [md9.2 c (by omega) (by omega), M8.2 c hc hn]⟩
          simp (disch := omega)
          exact post' _ h9 (by simpa using q0) (by simpa using q4) (by simpa using q5) (by simpa using q6) M9 (hs9.mono (by omega)) ⟨_, rest9, hJ9, (undo_ok okY hpe).1, by have := (undoJ_len Y).2; omega⟩
    · simp (disch := omega)
      subst hA
      subst hK
      obtain ⟨cs, hk, hl, ov⟩ := hJ.voj
      have cw : cellsAt h' jb 0 5 = some cs := cellsAt_all hk hl.symm
      simp (disch := omega) [cw, hl, q4, q5, resOf, resAll, resOne, aField]
      have et : cs.take 5 = cs := List.take_of_length_le (by omega)
      try rw [et]
      obtain ⟨⟨W', H', br'⟩, p', f'⟩ := X
      exact ⟨W', H', br', p', f', okX, by simp only at hXc; omega, md, ov⟩
end Am
/-! AmS4 -/
set_option linter.unusedVariables false
set_option linter.unusedSimpArgs false
set_option maxHeartbeats 4000000
set_option maxRecDepth 4000
namespace Am
open Go

theorem c327 (h : Heap) (v : Value) (X : List Int) (hv : Vr h shBytes v X) : ACall Gam 327 [v] h fun r h' => ∃ J : Jrn, okJ J = true ∧ J.2.1.length + J.2.2.length ≤ 9 ∧ Grows h h' ∧ VoJ h' h.length h'.length r J := by
  refine ACall_intro g327 rfl ?_
  unfold fn327
  simp (disch := omega)
  refine callW_of (c431 h v X hv) ?_
  rintro _ h1 ⟨rfl, g1, l1, hs1⟩
  simp (disch := omega)
  refine callW_of (c557 h1 h.length 0 9 hs1 (by omega) (by omega)) ?_
  rintro r h2 ⟨J, ok, hle, md, ov⟩
  have G : Grows h h2 := md.grows g1 (Nat.le_refl _)
  obtain ⟨a1, a2, a3, a4, a5, rfl⟩ := ov.vr.journal5
  obtain ⟨⟨W, H, br⟩, p, f⟩ := J
  simp (disch := omega) [resOf, resAll, resOne, aField]
  exact ⟨W, H, br, p, f, ok, by simp only at hle; omega, G, ov.wide (by omega) (Nat.le_refl _)⟩
theorem c258 (h : Heap) (v w : Value) (X Y : List Int) (hv : Vr h shBytes v X) (hw : Vr h shBytes w Y) : ACall Gam 258 [v, w] h fun r h' => r = B (decide (3000 < X.length) || decide (3000 < Y.length)) ∧ h' = h := by
  obtain ⟨b, o, z, rfl, hm, _⟩ := byte_at hv
  obtain ⟨b2, o2, z2, rfl, hm2, _⟩ := byte_at hw
  refine ACall_intro g258 rfl ?_
  unfold fn258
  obtain ⟨w1, hw1⟩ : ∃ w1 : Bool, w1 = decide ((3000 : Int) < X.length) := ⟨_, rfl⟩
  have e1 : decide (3000 < X.length) = w1 := by rw [hw1]; congr 1; apply propext; omega
  simp (disch := omega) [← hw1, e1]
  cases w1
  · simp (disch := omega)
    omega
  · simp (disch := omega)
theorem c420 (h : Heap) (v w : Value) (X Y : Pan) (hv : Vr h shPanel v X) (hw : Vr h shPanel w Y) : ACall Gam 420 [v, w] h fun r h' => r = B (samP X Y) ∧ Grows h h' := by
  obtain ⟨W, H, br⟩ := X
  obtain ⟨W2, H2, br2⟩ := Y
  obtain ⟨s, rfl, w1, w2, r1⟩ := hv.panel
  obtain ⟨s', rfl, w3, w4, r2⟩ := hw.panel
  refine ACall_intro g420 rfl ?_
  unfold fn420
  simp (disch := omega)
  obtain ⟨ha, eha⟩ : ∃ ha, ha = h ++ [⟨[I W, I H, s], true⟩] ++ [⟨[I W2, I H2, s'], true⟩] := ⟨_, rfl⟩
  have ga : Grows h ha := ⟨[⟨[I W, I H, s], true⟩, ⟨[I W2, I H2, s'], true⟩], by rw [eha]; simp⟩
  have ka : ha[h.length]? = some ⟨[I W, I H, s], true⟩ := by rw [eha]; simp
  have kb : ha[h.length + 1]? = some ⟨[I W2, I H2, s'], true⟩ := by rw [eha]; simp
  simp only [List.append_assoc, List.cons_append, List.nil_append] at eha
  rw [← eha]
  refine callW_of (c456 ha _ _ _ _ (PtP.at ka (r1.grow ga) w1 w2) (PtP.at kb (r2.grow ga) w3 w4)) ?_
  rintro _ h1 ⟨rfl, rfl⟩
  refine ⟨fun e => (by cases e), ?_⟩
  simp (disch := omega)
  exact ga
end Am
/-! AmY1 -/
set_option linter.unusedVariables false
set_option linter.unusedSimpArgs false
set_option maxHeartbeats 4000000
set_option maxRecDepth 4000
namespace Am
open Go

/-- Where a symmetry moves a point. -/
def mapX (W H x y s : Nat) : Nat :=
  let x1 := if 4 ≤ s then y else x
  let w := if 4 ≤ s then H else W
  if s % 2 = 1 then 2 * w - x1 else x1
def mapY (W H x y s : Nat) : Nat :=
  let y1 := if 4 ≤ s then x else y
  let h := if 4 ≤ s then W else H
  if s / 2 % 2 = 1 then 2 * h - y1 else y1
def mapW (W H s : Nat) : Nat := if 4 ≤ s then H else W
def mapH (W H s : Nat) : Nat := if 4 ≤ s then W else H
/-- A break as a symmetry moves it. -/
def kindM (k : Int) (s : Nat) : Int := if 4 ≤ s ∧ k ≠ 0 then 3 - k else k
noncomputable def idxM (W H s k : Nat) : Nat := numP (mapW W H s) (mapX W H (thePt W H k).1 (thePt W H k).2 s) (mapY W H (thePt W H k).1 (thePt W H k).2 s)
noncomputable def mapSt (W H s : Nat) (br : List Int) : Nat → List Int
  | 0 => List.replicate (rowN (mapW W H s) (2 * mapH W H s)) 0
  | k + 1 => (mapSt W H s br k).set (idxM W H s k) (kindM (at0 br k) s)
noncomputable def mapP (X : Pan) (s : Nat) : Pan := ((mapW X.1.toNat X.2.1.toNat s : Nat), (mapH X.1.toNat X.2.1.toNat s : Nat), mapSt X.1.toNat X.2.1.toNat s X.2.2 X.2.2.length)
theorem OkP.row {X : Pan} (ok : OkP X) : X.2.2.length = rowN X.1.toNat (2 * X.2.1.toNat) := by
  have h1 := ok.w; have h2 := ok.h; have h3 := ok.n
  have := rowN_end (W := X.1.toNat) (by omega) (H := X.2.1.toNat) (by omega) (by omega) (by omega)
  rw [Int.toNat_of_nonneg (by omega), Int.toNat_of_nonneg (by omega)] at this
  unfold inner at h3
  omega
/-! ### the order of panels -/
def cmpI (a b : Int) : Int := if a < b then -1 else if b < a then 1 else 0
def cmpL : List Int → List Int → Int
  | [], [] => 0
  | [], _ :: _ => -1
  | _ :: _, [] => 1
  | a :: l, b :: m => if cmpI a b = 0 then cmpL l m else cmpI a b
def cmpP (X Y : Pan) : Int := if cmpI X.1 Y.1 ≠ 0 then cmpI X.1 Y.1 else if cmpI X.2.1 Y.2.1 ≠ 0 then cmpI X.2.1 Y.2.1 else cmpL X.2.2 Y.2.2
noncomputable def canonF (X : Pan) : Nat → Pan
  | 0 => X
  | s + 1 => if cmpP (mapP X (s + 1)) (canonF X s) < 0 then mapP X (s + 1) else canonF X s
noncomputable def canonP (X : Pan) : Pan := canonF X 7
theorem OkP.siz {X : Pan} (ok : OkP X) : X.2.2.length ≤ 128 := by
  have h1 := ok.w; have h2 := ok.h
  rw [ok.row]
  exact rowN_le (by omega) (by omega)
end Am
/-! AmY7 -/
set_option linter.unusedVariables false
set_option linter.unusedSimpArgs false
set_option maxHeartbeats 4000000
set_option maxRecDepth 4000
namespace Am
open Go

section
variable {α : Type} (f R : α → α) (seg : α → Nat) (V : α → Prop) (N : Nat)
def itW (f : α → α) : Nat → α → α
  | 0, w => w
  | k + 1, w => f (itW f k w)
theorem itW_add {f : α → α} (i j : Nat) (w : α) : itW f (i + j) w = itW f j (itW f i w) := by
  induction j with
  | zero => rfl
  | succ j ih => rw [← Nat.add_assoc]; simp only [itW]; rw [ih]
/-- What makes the curves of walkers closed. -/
structure Walks : Prop where
  vf : ∀ w, V w → V (f w)
  vr : ∀ w, V w → V (R w)
  rr : ∀ w, R (R w) = w
  fr : ∀ w, V w → f (R (f w)) = R w
  ne : ∀ w, V w → f w ≠ R w
  nr : ∀ w, V w → R w ≠ w
  sg : ∀ w v, V w → V v → (seg w = seg v ↔ w = v ∨ w = R v)
  lt : ∀ w, V w → seg w < N
variable {f R seg V N}
theorem Walks.vi (a : Walks f R seg V N) {w : α} (h : V w) : ∀ k, V (itW f k w)
  | 0 => h
  | k + 1 => a.vf _ (a.vi h k)
theorem Walks.inj (a : Walks f R seg V N) {w v : α} (h1 : V w) (h2 : V v) (e : f w = f v) : w = v := by
  have e1 := a.fr w h1
  have e2 := a.fr v h2
  rw [e, e2] at e1
  rw [← a.rr w, ← e1, a.rr]
/-- A walker turned back walks back. -/
theorem Walks.back (a : Walks f R seg V N) {w : α} (h : V w) : ∀ k, itW f k (R (itW f k w)) = R w
  | 0 => rfl
  | k + 1 => by
    have e := a.fr _ (a.vi h k)
    have := a.back h k
    rw [show k + 1 = 1 + k by omega, itW_add, Nat.add_comm]
    simp only [itW]
    rw [e]; exact this
theorem Walks.injI (a : Walks f R seg V N) {u v : α} (h : V u) (h' : V v) : ∀ k, itW f k u = itW f k v → u = v
  | 0, e => e
  | k + 1, e => a.injI h h' k (a.inj (a.vi h k) (a.vi h' k) e)
theorem Walks.never (a : Walks f R seg V N) {w : α} (h : V w) (m : Nat) : itW f m w ≠ R w := by
  intro e
  rcases Nat.mod_two_eq_zero_or_one m with hm | hm
  · obtain ⟨k, rfl⟩ : ∃ k, m = k + k := ⟨m / 2, by omega⟩
    rw [itW_add] at e
    have hb := a.back h k
    rw [← e] at hb
    have := a.injI (a.vr _ (a.vi h k)) (a.vi h k) k hb
    exact a.nr _ (a.vi h k) this
  · obtain ⟨k, rfl⟩ : ∃ k, m = k + 1 + k := ⟨m / 2, by omega⟩
    rw [itW_add] at e
    have hb := a.back h k
    rw [← e] at hb
    have := a.injI (a.vr _ (a.vi h k)) (a.vi h (k + 1)) k hb
    exact a.ne _ (a.vi h k) this.symm
theorem Walks.same (a : Walks f R seg V N) {w : α} (h : V w) {i j : Nat} (hij : i ≤ j) (e : seg (itW f i w) = seg (itW f j w)) : itW f (j - i) w = w := by
  have hi := a.vi h i
  have hj := a.vi h j
  rcases (a.sg _ _ hj hi).1 e.symm with q | q
  · have : itW f i (itW f (j - i) w) = itW f i w := by
      rw [← itW_add, show j - i + i = j by omega, q]
    exact a.injI (a.vi h (j - i)) h i this
  · exfalso
    refine a.never hi (j - i) ?_
    rw [← itW_add, show i + (j - i) = j by omega]; exact q
theorem pigeon : ∀ (n : Nat) (g : Nat → Nat), (∀ i, i ≤ n → g i < n) → ∃ i j, i < j ∧ j ≤ n ∧ g i = g j
  | 0, g, hb => by have := hb 0 (Nat.le_refl _); omega
  | n + 1, g, hb => by
    by_cases q : ∃ i, i ≤ n ∧ g i = g (n + 1)
    · obtain ⟨i, h1, h2⟩ := q
      exact ⟨i, n + 1, by omega, Nat.le_refl _, h2⟩
    · have hc := hb (n + 1) (Nat.le_refl _)
      have hne : ∀ i, i ≤ n → g i ≠ g (n + 1) := fun i hi e => q ⟨i, hi, e⟩
      obtain ⟨i, j, h1, h2, h3⟩ := pigeon n (fun i => if g (n + 1) < g i then g i - 1 else g i) (fun i hi => by
        have := hne i hi
        have := hb i (by omega)
        split <;> omega)
      have e1 := hne i (by omega)
      have e2 := hne j (by omega)
      refine ⟨i, j, h1, by omega, ?_⟩
      split at h3 <;> split at h3 <;> omega
theorem least {P : Nat → Prop} : ∀ n, P n → ∃ m, m ≤ n ∧ P m ∧ ∀ k, k < m → ¬ P k := by
  intro n
  induction n using Nat.strongRecOn with
  | ind n ih =>
    intro hp
    by_cases q : ∃ k, k < n ∧ P k
    · obtain ⟨k, h1, h2⟩ := q
      obtain ⟨m, a, b, c⟩ := ih k h1 h2
      exact ⟨m, by omega, b, c⟩
    · exact ⟨n, Nat.le_refl _, hp, fun k hk hx => q ⟨k, hk, hx⟩⟩
/-- The length of a walker's curve. -/
theorem Walks.period (a : Walks f R seg V N) {w : α} (h : V w) : ∃ n, 0 < n ∧ n ≤ N ∧ itW f n w = w := by
  obtain ⟨i, j, h1, h2, h3⟩ := pigeon N (fun i => seg (itW f i w)) fun i _ => a.lt _ (a.vi h i)
  exact ⟨j - i, by omega, by omega, a.same h (by omega) h3⟩
open Classical in
noncomputable def perW (f : α → α) (w : α) : Nat := if h : ∃ n, (0 < n ∧ itW f n w = w) ∧ ∀ k, k < n → ¬ (0 < k ∧ itW f k w = w) then Classical.choose h else 0
theorem Walks.per (a : Walks f R seg V N) {w : α} (h : V w) : 0 < perW f w ∧ perW f w ≤ N ∧ itW f (perW f w) w = w ∧ ∀ j, 0 < j → j < perW f w → itW f j w ≠ w := by
  obtain ⟨n, h1, h2, h3⟩ := a.period h
  obtain ⟨m, m1, m2, m3⟩ := least (P := fun n => 0 < n ∧ itW f n w = w) n ⟨h1, h3⟩
  have e : ∃ n, (0 < n ∧ itW f n w = w) ∧ ∀ k, k < n → ¬ (0 < k ∧ itW f k w = w) := ⟨m, m2, m3⟩
  unfold perW
  rw [dif_pos e]
  obtain ⟨p1, p2⟩ := Classical.choose_spec e
  refine ⟨p1.1, ?_, p1.2, fun j hj hl hx => p2 j hl ⟨hj, hx⟩⟩
  by_cases q : Classical.choose e ≤ N
  · exact q
  · exact absurd ⟨h1, h3⟩ (p2 n (by omega))
theorem Walks.dist (a : Walks f R seg V N) {w : α} (h : V w) {i j : Nat} (hij : i < j) (hj : j < perW f w) : seg (itW f i w) ≠ seg (itW f j w) := by
  intro e
  exact (a.per h).2.2.2 (j - i) (by omega) (by omega) (a.same h (by omega) e)

/-! ### the curve of each segment -/
def paint (f : α → α) (seg : α → Nat) (w : α) (c : Int) (o : List Int) : Nat → List Int
  | 0 => o
  | k + 1 => (paint f seg w c o k).set (seg (itW f k w)) c
theorem paint_len {w : α} {c : Int} {o : List Int} : ∀ k, (paint f seg w c o k).length = o.length
  | 0 => rfl
  | k + 1 => by simp [paint, paint_len k]
theorem paint_at {w : α} {c : Int} {o : List Int} {s : Nat} (hs : s < o.length) : ∀ k, at0 (paint f seg w c o k) s = if ∃ j, j < k ∧ seg (itW f j w) = s then c else at0 o s
  | 0 => by simp [paint]
  | k + 1 => by
    simp only [paint]
    have ih := paint_at (w := w) (c := c) hs k
    have hl := paint_len (f := f) (seg := seg) (w := w) (c := c) (o := o) k
    by_cases e : seg (itW f k w) = s
    · rw [if_pos ⟨k, by omega, e⟩]
      unfold at0
      rw [List.getD_eq_getElem?_getD, e, List.getElem?_set_self (by omega)]; rfl
    · have : at0 ((paint f seg w c o k).set (seg (itW f k w)) c) s = at0 (paint f seg w c o k) s := by
        unfold at0
        rw [List.getD_eq_getElem?_getD, List.getElem?_set_ne e, ← List.getD_eq_getElem?_getD]
      rw [this, ih]
      by_cases q : ∃ j, j < k ∧ seg (itW f j w) = s
      · obtain ⟨j, a, b⟩ := q
        rw [if_pos ⟨j, a, b⟩, if_pos ⟨j, by omega, b⟩]
      · rw [if_neg q, if_neg]
        rintro ⟨j, a, b⟩
        by_cases ej : j = k
        · exact e (ej ▸ b)
        · exact q ⟨j, by omega, b⟩
/-- Owned segments are owned with all of their curve. -/
def Closed (f : α → α) (seg : α → Nat) (V : α → Prop) (o : List Int) : Prop := ∀ w, V w → (0 ≤ at0 o (seg w) ↔ 0 ≤ at0 o (seg (f w)))
theorem Closed.it (hV : ∀ w, V w → V (f w)) {o : List Int} (a : Closed f seg V o) {w : α} (h : V w) : ∀ k, V (itW f k w) ∧ (0 ≤ at0 o (seg w) ↔ 0 ≤ at0 o (seg (itW f k w)))
  | 0 => ⟨h, Iff.rfl⟩
  | k + 1 => by
    obtain ⟨h1, h2⟩ := Closed.it hV a h k
    exact ⟨hV _ h1, h2.trans (a _ h1)⟩
theorem Walks.closed (a : Walks f R seg V N) {w : α} (h : V w) {c : Int} (hc : 0 ≤ c) {o : List Int} (ho : o.length = N) (cl : Closed f seg V o) : Closed f seg V (paint f seg w c o (perW f w)) := by
  obtain ⟨p1, p2, p3, p4⟩ := a.per h
  intro v hv
  rw [paint_at (by rw [ho]; exact a.lt v hv), paint_at (by rw [ho]; exact a.lt _ (a.vf v hv))]
  have key : (∃ j, j < perW f w ∧ seg (itW f j w) = seg v) ↔ ∃ j, j < perW f w ∧ seg (itW f j w) = seg (f v) := by
    constructor
    · rintro ⟨j, h1, h2⟩
      rcases (a.sg _ _ (a.vi h j) hv).1 h2 with q | q
      · by_cases e : j + 1 < perW f w
        · exact ⟨j + 1, e, by simp only [itW]; rw [q]⟩
        · refine ⟨0, p1, ?_⟩
          have : itW f (j + 1) w = w := by rw [show j + 1 = perW f w by omega]; exact p3
          simp only [itW] at this ⊢
          rw [← q, this]
      · -- f^j w = R v, so R (f v) = f^(j-1) w
        have hb : f (R (f v)) = R v := a.fr v hv
        by_cases e : j = 0
        · subst e
          refine ⟨perW f w - 1, by omega, (a.sg _ _ (a.vi h _) (a.vf v hv)).2 (.inr ?_)⟩
          refine a.inj (a.vi h _) (a.vr _ (a.vf v hv)) ?_
          rw [hb, ← q]
          have : itW f (perW f w - 1 + 1) w = w := by rw [show perW f w - 1 + 1 = perW f w by omega]; exact p3
          exact this
        · refine ⟨j - 1, by omega, (a.sg _ _ (a.vi h _) (a.vf v hv)).2 (.inr ?_)⟩
          refine a.inj (a.vi h _) (a.vr _ (a.vf v hv)) ?_
          rw [hb, ← q]
          show itW f (j - 1 + 1) w = _
          rw [show j - 1 + 1 = j by omega]
    · rintro ⟨j, h1, h2⟩
      rcases (a.sg _ _ (a.vi h j) (a.vf v hv)).1 h2 with q | q
      · by_cases e : j = 0
        · subst e
          refine ⟨perW f w - 1, by omega, (a.sg _ _ (a.vi h _) hv).2 (.inl ?_)⟩
          refine a.inj (a.vi h _) hv ?_
          rw [← q]
          show itW f (perW f w - 1 + 1) w = _
          rw [show perW f w - 1 + 1 = perW f w by omega]; exact p3
        · refine ⟨j - 1, by omega, (a.sg _ _ (a.vi h _) hv).2 (.inl ?_)⟩
          refine a.inj (a.vi h _) hv ?_
          rw [← q]
          show itW f (j - 1 + 1) w = _
          rw [show j - 1 + 1 = j by omega]
      · -- f^j w = R (f v), so f^(j+1) w = R v
        have hb : f (R (f v)) = R v := a.fr v hv
        by_cases e : j + 1 < perW f w
        · exact ⟨j + 1, e, (a.sg _ _ (a.vi h _) hv).2 (.inr (by simp only [itW]; rw [q, hb]))⟩
        · refine ⟨0, p1, (a.sg _ _ h hv).2 (.inr ?_)⟩
          have : itW f (j + 1) w = w := by rw [show j + 1 = perW f w by omega]; exact p3
          simp only [itW] at this
          rw [q, hb] at this
          exact this.symm
  by_cases q : ∃ j, j < perW f w ∧ seg (itW f j w) = seg v
  · rw [if_pos q, if_pos (key.1 q)]
  · rw [if_neg q, if_neg (fun x => q (key.2 x))]; exact cl v hv

/-- After the first segments: the curve of each segment, the number of curves. -/
noncomputable def curvesSt (f : α → α) (seg : α → Nat) (wk : Nat → α) (N : Nat) : Nat → List Int × Nat
  | 0 => (List.replicate N (-1), 0)
  | k + 1 => if 0 ≤ at0 (curvesSt f seg wk N k).1 k then curvesSt f seg wk N k else (paint f seg (wk k) (curvesSt f seg wk N k).2 (curvesSt f seg wk N k).1 (perW f (wk k)), (curvesSt f seg wk N k).2 + 1)
theorem Walks.st (a : Walks f R seg V N) {wk : Nat → α} (hw : ∀ k, k < N → V (wk k)) : ∀ k, k ≤ N → (curvesSt f seg wk N k).1.length = N ∧ Closed f seg V (curvesSt f seg wk N k).1 ∧ (curvesSt f seg wk N k).2 ≤ k
  | 0, _ => by
    refine ⟨by simp [curvesSt], ?_, by simp [curvesSt]⟩
    intro w hw
    have h1 := a.lt w hw
    have h2 := a.lt _ (a.vf w hw)
    simp [curvesSt, at0, List.getD_eq_getElem?_getD, List.getElem?_replicate, h1, h2]
  | k + 1, hk => by
    obtain ⟨h1, h2, h3⟩ := Walks.st a hw k (by omega)
    simp only [curvesSt]
    split
    · exact ⟨h1, h2, by omega⟩
    · exact ⟨by rw [paint_len, h1], a.closed (hw k (by omega)) (by omega) h1 h2, by simp only; omega⟩
/-- The steps of the walk that paints a curve: not owned before the end, owned at the end. -/
theorem Walks.run (a : Walks f R seg V N) {w : α} (h : V w) {c : Int} (hc : 0 ≤ c) {o : List Int} (ho : o.length = N) (cl : Closed f seg V o) (hn : at0 o (seg w) < 0) :
    (∀ k, k < perW f w → at0 (paint f seg w c o k) (seg (itW f k w)) < 0) ∧ 0 ≤ at0 (paint f seg w c o (perW f w)) (seg (itW f (perW f w) w)) := by
  obtain ⟨p1, p2, p3, p4⟩ := a.per h
  constructor
  · intro k hk
    have hv := a.vi h k
    rw [paint_at (by rw [ho]; exact a.lt _ hv), if_neg]
    · have := (Closed.it a.vf cl h k).2
      omega
    · rintro ⟨j, hj, e⟩
      exact a.dist h hj hk e
  · rw [p3, paint_at (by rw [ho]; exact a.lt _ h), if_pos ⟨0, p1, rfl⟩]; exact hc
end

/-! ### the walkers of a panel -/
abbrev Wk := Int × Int × Int × Int
def edgeW (W H : Nat) (x y : Int) : Prop := x = 0 ∨ x = 2 * W ∨ y = 0 ∨ y = 2 * H
instance (W H : Nat) (x y : Int) : Decidable (edgeW W H x y) := by unfold edgeW; infer_instance
def kindW (W H : Nat) (br : List Int) (x y : Int) : Int := if edgeW W H x y then 0 else at0 br (numP W x.toNat y.toNat)
def stepW (W H : Nat) (br : List Int) (w : Wk) : Wk :=
  (w.1 + w.2.2.1, w.2.1 + w.2.2.2,
   if w.1 + w.2.2.1 = 0 ∨ w.1 + w.2.2.1 = 2 * W ∨ kindW W H br (w.1 + w.2.2.1) (w.2.1 + w.2.2.2) = 1 then -w.2.2.1 else w.2.2.1,
   if w.2.1 + w.2.2.2 = 0 ∨ w.2.1 + w.2.2.2 = 2 * H ∨ kindW W H br (w.1 + w.2.2.1) (w.2.1 + w.2.2.2) = 2 then -w.2.2.2 else w.2.2.2)
def backW (w : Wk) : Wk := (w.1 + w.2.2.1, w.2.1 + w.2.2.2, -w.2.2.1, -w.2.2.2)
structure OkW (W H : Nat) (w : Wk) : Prop where
  dx : w.2.2.1 = 1 ∨ w.2.2.1 = -1
  dy : w.2.2.2 = 1 ∨ w.2.2.2 = -1
  x : 0 ≤ w.1 ∧ w.1 ≤ 2 * W
  y : 0 ≤ w.2.1 ∧ w.2.1 ≤ 2 * H
  nx : 0 ≤ w.1 + w.2.2.1 ∧ w.1 + w.2.2.1 ≤ 2 * W
  ny : 0 ≤ w.2.1 + w.2.2.2 ∧ w.2.1 + w.2.2.2 ≤ 2 * H
  p : (w.1 + w.2.1) % 2 = 1
def minI (a b : Int) : Int := if a ≤ b then a else b
def segW (H : Nat) (w : Wk) : Nat := (minI w.1 (w.1 + w.2.2.1) * (2 * H) + minI w.2.1 (w.2.1 + w.2.2.2)).toNat
theorem minI_one {x d : Int} (h : d = 1 ∨ d = -1) : minI x (x + d) = if d = 1 then x else x - 1 := by
  unfold minI; rcases h with rfl | rfl
  · rw [if_pos (by omega), if_pos rfl]
  · rw [if_neg (by omega), if_neg (by omega)]; omega
theorem pair_eq {H a b c d : Int} (h : 0 < H) (hb : 0 ≤ b ∧ b < H) (hd : 0 ≤ d ∧ d < H) (e : a * H + b = c * H + d) : a = c ∧ b = d := by
  have h1 : (a * H + b) / H = a := by
    rw [Int.add_comm, Int.add_mul_ediv_right _ _ (by omega), Int.ediv_eq_zero_of_lt hb.1 hb.2]; omega
  have h2 : (c * H + d) / H = c := by
    rw [Int.add_comm, Int.add_mul_ediv_right _ _ (by omega), Int.ediv_eq_zero_of_lt hd.1 hd.2]; omega
  have : a = c := by rw [← h1, e, h2]
  subst this
  exact ⟨rfl, by omega⟩
theorem seg_bd {W H : Nat} {w : Wk} (h : OkW W H w) : (0 ≤ minI w.1 (w.1 + w.2.2.1) ∧ minI w.1 (w.1 + w.2.2.1) ≤ 2 * W - 1) ∧ (0 ≤ minI w.2.1 (w.2.1 + w.2.2.2) ∧ minI w.2.1 (w.2.1 + w.2.2.2) ≤ 2 * H - 1) := by
  obtain ⟨dx, dy, x, y, nx, ny, p⟩ := h
  rw [minI_one dx, minI_one dy]
  rcases dx with e | e <;> rcases dy with e' | e' <;> rw [e, e'] <;> rw [e] at nx <;> rw [e'] at ny <;> simp <;> omega
theorem seg_cast {W H : Nat} {w : Wk} (h : OkW W H w) : (segW H w : Int) = minI w.1 (w.1 + w.2.2.1) * (2 * H) + minI w.2.1 (w.2.1 + w.2.2.2) := by
  obtain ⟨⟨a, _⟩, b, _⟩ := seg_bd h
  have : 0 ≤ minI w.1 (w.1 + w.2.2.1) * (2 * (H : Int)) := Int.mul_nonneg a (by omega)
  unfold segW; omega
theorem seg_lt {W H : Nat} {w : Wk} (h : OkW W H w) : segW H w < 4 * W * H := by
  obtain ⟨⟨a, a'⟩, b, b'⟩ := seg_bd h
  have hc := seg_cast h
  have h1 : minI w.1 (w.1 + w.2.2.1) * (2 * (H : Int)) ≤ (2 * W - 1) * (2 * H) := Int.mul_le_mul_of_nonneg_right a' (by omega)
  have h2 : ((2 : Int) * W - 1) * (2 * H) = 4 * W * H - 2 * H := by
    rw [Int.sub_mul]; simp only [Int.one_mul]
    congr 1
    rw [show (2 : Int) * W * (2 * H) = (2 * 2) * (W * H) by ac_rfl, show (4 : Int) * W * H = 4 * (W * H) by ac_rfl]
    rfl
  have h3 : ((4 * W * H : Nat) : Int) = 4 * W * H := by simp
  omega
theorem kindW_edge {W H : Nat} {br : List Int} {x y : Int} (h : edgeW W H x y) : kindW W H br x y = 0 := if_pos h
theorem walks {W H : Nat} {br : List Int} (w1 : 1 ≤ W) (h1 : 1 ≤ H) : Walks (stepW W H br) backW (segW H) (OkW W H) (4 * W * H) where
  vf := by
    rintro ⟨x, y, dx, dy⟩ ⟨hdx, hdy, hx, hy, hnx, hny, hp⟩
    simp only at *
    have c1 : ∀ k : Int, (if x + dx = 0 ∨ x + dx = 2 * (W : Int) ∨ k = 1 then -dx else dx) = 1 ∨ (if x + dx = 0 ∨ x + dx = 2 * (W : Int) ∨ k = 1 then -dx else dx) = -1 := by intro k; split <;> omega
    have c2 : ∀ k : Int, (if y + dy = 0 ∨ y + dy = 2 * (H : Int) ∨ k = 2 then -dy else dy) = 1 ∨ (if y + dy = 0 ∨ y + dy = 2 * (H : Int) ∨ k = 2 then -dy else dy) = -1 := by intro k; split <;> omega
    refine ⟨c1 _, c2 _, hnx, hny, ?_, ?_, by simp only [stepW]; omega⟩
    · simp only [stepW]; split <;> omega
    · simp only [stepW]; split <;> omega
  vr := by
    rintro ⟨x, y, dx, dy⟩ ⟨hdx, hdy, hx, hy, hnx, hny, hp⟩
    simp only at *
    refine ⟨?_, ?_, hnx, hny, ?_, ?_, ?_⟩ <;> simp only [backW] <;> omega
  rr := by
    rintro ⟨x, y, dx, dy⟩
    simp only [backW, Prod.mk.injEq]
    omega
  fr := by
    rintro ⟨x, y, dx, dy⟩ ⟨hdx, hdy, hx, hy, hnx, hny, hp⟩
    simp only at *
    have e1 : ∀ a : Int, x + dx + a + -a = x + dx := by intro a; omega
    have e2 : ∀ a : Int, y + dy + a + -a = y + dy := by intro a; omega
    simp only [stepW, backW, e1, e2, Prod.mk.injEq, true_and]
    constructor
    · split <;> simp
    · split <;> simp
  ne := by
    rintro ⟨x, y, dx, dy⟩ ⟨hdx, hdy, hx, hy, hnx, hny, hp⟩ e
    simp only [stepW, backW, Prod.mk.injEq, true_and] at *
    obtain ⟨e1, e2⟩ := e
    have hk := kindW_edge (W := W) (H := H) (br := br) (x := x + dx) (y := y + dy)
    unfold edgeW at hk
    split at e1
    · split at e2
      · rename_i q1 q2
        have : ¬ (x + dx = 0 ∨ x + dx = 2 * (W : Int) ∨ y + dy = 0 ∨ y + dy = 2 * (H : Int)) ∨ kindW W H br (x + dx) (y + dy) = 0 := by
          by_cases q : x + dx = 0 ∨ x + dx = 2 * (W : Int) ∨ y + dy = 0 ∨ y + dy = 2 * (H : Int)
          · exact .inr (hk q)
          · exact .inl q
        omega
      · omega
    · omega
  nr := by
    rintro ⟨x, y, dx, dy⟩ ⟨hdx, hdy, hx, hy, hnx, hny, hp⟩ e
    simp only [backW, Prod.mk.injEq] at *
    omega
  sg := by
    intro w v hw hv
    have cw := seg_cast hw
    have cv := seg_cast hv
    obtain ⟨⟨a, a'⟩, b, b'⟩ := seg_bd hw
    obtain ⟨⟨c, c'⟩, d, d'⟩ := seg_bd hv
    constructor
    · intro e
      rw [e, cv] at cw
      obtain ⟨e1, e2⟩ := pair_eq (H := 2 * (H : Int)) (by omega) ⟨d, by omega⟩ ⟨b, by omega⟩ cw
      obtain ⟨x, y, dx, dy⟩ := w
      obtain ⟨x', y', dx', dy'⟩ := v
      obtain ⟨hdx, hdy, hx, hy, hnx, hny, hp⟩ := hw
      obtain ⟨hdx', hdy', hx', hy', hnx', hny', hp'⟩ := hv
      simp only at *
      rw [minI_one hdx, minI_one hdx'] at e1
      rw [minI_one hdy, minI_one hdy'] at e2
      simp only [backW, Prod.mk.injEq]
      rcases hdx with rfl | rfl <;> rcases hdy with rfl | rfl <;> rcases hdx' with rfl | rfl <;> rcases hdy' with rfl | rfl <;> simp at e1 e2 ⊢ <;> omega
    · rintro (e | e)
      · rw [e]
      · have : (segW H w : Int) = segW H v := by
          rw [cw, cv, e]
          obtain ⟨x', y', dx', dy'⟩ := v
          simp only [backW]
          have q1 : ∀ p d : Int, minI (p + d) (p + d + -d) = minI p (p + d) := by
            intro p d; unfold minI
            rw [show p + d + -d = p by omega]
            split <;> split <;> omega
          rw [q1, q1]
        omega
  lt := fun w h => seg_lt h
/-- The walker along a segment, to the right. -/
def wkW (H : Nat) (k : Nat) : Wk := if (k / (2 * H) + k % (2 * H)) % 2 = 1 then ((k / (2 * H) : Nat), (k % (2 * H) : Nat), 1, 1) else ((k / (2 * H) : Nat), (k % (2 * H) : Nat) + 1, 1, -1)
theorem wkW_ok {W H k : Nat} (h1 : 1 ≤ H) (hk : k < 4 * W * H) : OkW W H (wkW H k) := by
  have a : k % (2 * H) < 2 * H := Nat.mod_lt _ (by omega)
  have b : k / (2 * H) < 2 * W := by
    rw [Nat.div_lt_iff_lt_mul (by omega)]
    have : 2 * W * (2 * H) = 4 * W * H := by
      rw [show 2 * W * (2 * H) = (2 * 2) * (W * H) by ac_rfl, show 4 * W * H = 4 * (W * H) by ac_rfl]
    omega
  unfold wkW
  generalize k / (2 * H) = q at *
  generalize k % (2 * H) = r at *
  split <;> constructor <;> simp only <;> first | omega | simp
theorem wkW_seg {W H k : Nat} (h1 : 1 ≤ H) (hk : k < 4 * W * H) : segW H (wkW H k) = k := by
  have hc := seg_cast (wkW_ok (W := W) h1 hk)
  have hd := Nat.div_add_mod k (2 * H)
  have hd' : ((2 * H * (k / (2 * H)) : Nat) : Int) = ((k / (2 * H) : Nat) : Int) * (2 * H) := by
    rw [Nat.mul_comm]; simp
  have : (segW H (wkW H k) : Int) = k := by
    rw [hc]
    unfold wkW minI
    split
    · simp only; rw [if_pos (by omega), if_pos (by omega)]; omega
    · simp only; rw [if_pos (by omega), if_neg (by omega)]; omega
  omega
noncomputable def curvesP (X : Pan) : List Int × Nat := curvesSt (stepW X.1.toNat X.2.1.toNat X.2.2) (segW X.2.1.toNat) (wkW X.2.1.toNat) (4 * X.1.toNat * X.2.1.toNat) (4 * X.1.toNat * X.2.1.toNat)
/-- The number of curves. -/
noncomputable def curveN (X : Pan) : Nat := (curvesP X).2
end Am
/-! AmY28 -/
set_option linter.unusedVariables false
set_option linter.unusedSimpArgs false
set_option maxHeartbeats 4000000
set_option maxRecDepth 4000
namespace Am
open Go

theorem c459 (h : Heap) (x y dx dy : Int) (bx : -100 ≤ x ∧ x ≤ 100) (bY : -100 ≤ y ∧ y ≤ 100) (bd : -100 ≤ dx ∧ dx ≤ 100) (be : -100 ≤ dy ∧ dy ≤ 100) : ACall Gam 459 [.agg #[I x, I y, I dx, I dy]] h fun r h' => r = .agg #[I (x + dx), I (y + dy)] ∧ h' = h := by
  refine ACall_intro g459 rfl ?_
  unfold fn459
  simp (disch := omega) [wrap64, resOf_box, aField]
theorem c58 (h : Heap) (x y dx dy : Int) (bx : -100 ≤ x ∧ x ≤ 100) (bY : -100 ≤ y ∧ y ≤ 100) (bd : -100 ≤ dx ∧ dx ≤ 100) (be : -100 ≤ dy ∧ dy ≤ 100) : ACall Gam 58 [.agg #[I x, I y, I dx, I dy]] h fun r h' => r = .agg #[I (x + dx), I (y + dy)] ∧ h' = h := by
  refine ACall_intro g58 rfl ?_
  unfold fn58
  simp (disch := omega) [wrap64, resOf_box, aField]
theorem c458 (h : Heap) (x y dx dy : Int) (bx : -100 ≤ x ∧ x ≤ 100) (bY : -100 ≤ y ∧ y ≤ 100) (bd : -100 ≤ dx ∧ dx ≤ 100) (be : -100 ≤ dy ∧ dy ≤ 100) : ACall Gam 458 [.agg #[I x, I y, I dx, I dy]] h fun r h' => r = .tuple #[.agg #[I (if dx = 1 then x else x + dx), I (if dx = 1 then y else y + dy)], I (if dx = 1 then y + dy else y)] ∧ h' = h := by
  refine ACall_intro g458 rfl ?_
  unfold fn458
  simp (disch := omega)
  refine callW_of (c459 h x y dx dy bx bY bd be) ?_
  rintro _ h' ⟨rfl, rfl⟩
  simp (disch := omega)
  refine fork_dec (fun e => ?_) (fun e => ?_)
  · simp (disch := omega) [e, resOf_box, aField, resOf, resAll, resOne]
  · simp (disch := omega) [e, resOf_box, aField, resOf, resAll, resOne]
theorem c446 (h : Heap) (v : Value) (X : Pan) (x y : Int) (hv : PtP h v X) (ok : OkP X) : ACall Gam 446 [v, .agg #[I x, I y]] h fun r h' => r = B (decide (edgeW X.1.toNat X.2.1.toNat x y)) ∧ h' = h := by
  obtain ⟨b, o, s, rfl, h1, h2, _⟩ := hv
  obtain ⟨w, hh, _, _⟩ := ok
  refine ACall_intro g446 rfl ?_
  unfold fn446
  have w1 : (X.1.toNat : Int) = X.1 := by omega
  have w2 : (X.2.1.toNat : Int) = X.2.1 := by omega
  have n1 : ¬ 2 * X.1 = 0 := by omega
  have n2 : ¬ 2 * X.2.1 = 0 := by omega
  have n3 : ¬ X.1 = 0 := by omega
  have n4 : ¬ X.2.1 = 0 := by omega
  by_cases e1 : x = 0
  · simp (disch := omega) [h1, h2, e1, wrap64, edgeW, w1, w2, n1, n2, n3, n4]
  by_cases e2 : y = 0
  · simp (disch := omega) [h1, h2, e1, e2, wrap64, edgeW, w1, w2, n1, n2, n3, n4]
  by_cases e3 : x = 2 * X.1
  · simp (disch := omega) [h1, h2, e1, e2, e3, wrap64, edgeW, w1, w2, n1, n2, n3, n4]
  by_cases e4 : y = 2 * X.2.1
  · simp (disch := omega) [h1, h2, e1, e2, e3, e4, wrap64, edgeW, w1, w2, n1, n2, n3, n4]
  simp (disch := omega) [h1, h2, e1, e2, e3, e4, wrap64, edgeW, w1, w2, n1, n2, n3, n4]
theorem c34 (h : Heap) (W H x y : Int) (s : Value) (w : 1 ≤ W ∧ W ≤ 8) (hh : 1 ≤ H ∧ H ≤ 8) : ACall Gam 34 [.agg #[I W, I H, s], .agg #[I x, I y]] h fun r h' => r = B (decide (edgeW W.toNat H.toNat x y)) ∧ h' = h := by
  refine ACall_intro g34 rfl ?_
  unfold fn34
  have w1 : (W.toNat : Int) = W := by omega
  have w2 : (H.toNat : Int) = H := by omega
  have n1 : ¬ 2 * W = 0 := by omega
  have n2 : ¬ 2 * H = 0 := by omega
  have n3 : ¬ W = 0 := by omega
  have n4 : ¬ H = 0 := by omega
  by_cases e1 : x = 0
  · simp (disch := omega) [e1, wrap64, edgeW, w1, w2, n1, n2, n3, n4]
  by_cases e2 : x = 2 * W
  · simp (disch := omega) [e1, e2, wrap64, edgeW, w1, w2, n1, n2, n3, n4]
  by_cases e3 : y = 0
  · simp (disch := omega) [e1, e2, e3, wrap64, edgeW, w1, w2, n1, n2, n3, n4]
  by_cases e4 : y = 2 * H
  · simp (disch := omega) [e1, e2, e3, e4, wrap64, edgeW, w1, w2, n1, n2, n3, n4]
  simp (disch := omega) [e1, e2, e3, e4, wrap64, edgeW, w1, w2, n1, n2, n3, n4]
theorem c460 (h : Heap) (v : Value) (X : Pan) (x y dx dy : Int) (hv : PtP h v X) (ok : OkP X) (hw : OkW X.1.toNat X.2.1.toNat (x, y, dx, dy)) : ACall Gam 460 [v, .agg #[I x, I y, I dx, I dy]] h fun r h' => r = I (segW X.2.1.toNat (x, y, dx, dy)) ∧ h' = h := by
  obtain ⟨b, o, s, rfl, h1, h2, _⟩ := hv
  obtain ⟨w, hh, _, _⟩ := ok
  have hc := seg_cast hw
  obtain ⟨⟨s1, s2⟩, s3, s4⟩ := seg_bd hw
  obtain ⟨d1, d2, p1, p2, p3, p4, p5⟩ := hw
  simp only at *
  have w2 : (X.2.1.toNat : Int) = X.2.1 := by omega
  have w1 : (X.1.toNat : Int) = X.1 := by omega
  rw [w2] at hc
  rw [hc]
  have m1 := minI_one (x := x) d1
  have m2 := minI_one (x := y) d2
  rw [m1, m2]
  obtain ⟨H, eH⟩ : ∃ H, H = X.2.1 := ⟨_, rfl⟩
  rw [← eH] at h2 hh p2 p4 ⊢
  have bm : ∀ a : Int, 0 ≤ a → a ≤ 17 → 0 ≤ a * (2 * H) ∧ a * (2 * H) ≤ 17 * (2 * 8) := fun a h1 h2 => ⟨Int.mul_nonneg (by omega) (by omega), Int.mul_le_mul (by omega) (by omega) (by omega) (by omega)⟩
  refine ACall_intro g460 rfl ?_
  unfold fn460
  simp (disch := omega)
  refine callW_of (c458 h x y dx dy (by omega) (by omega) (by omega) (by omega)) ?_
  rintro _ h' ⟨rfl, rfl⟩
  rcases d1 with e | e <;> subst e
  · have b1 := bm x (by omega) (by omega)
    rcases d2 with e' | e' <;> subst e' <;> simp (disch := omega) [h2, wrap64, Int.mul_assoc] <;> refine fork_dec (fun e => ?_) (fun e => ?_) <;> first | (exfalso; omega) | (simp (disch := omega) [wrap64] <;> omega)
  · have b1 := bm (x + -1) (by omega) (by omega)
    have ex : x + -1 = x - 1 := by omega
    rw [ex] at b1
    rcases d2 with e' | e' <;> subst e' <;> simp (disch := omega) [h2, wrap64, Int.mul_assoc, ex] <;> refine fork_dec (fun e => ?_) (fun e => ?_) <;> first | (exfalso; omega) | (simp (disch := omega) [wrap64, Int.mul_assoc] <;> omega)
/-- A walker. -/
def wv (w : Wk) : Value := .agg #[I w.1, I w.2.1, I w.2.2.1, I w.2.2.2]
theorem c461 (h : Heap) (v : Value) (X : Pan) (x y dx dy : Int) (hv : PtP h v X) (ok : OkP X) (hw : OkW X.1.toNat X.2.1.toNat (x, y, dx, dy)) : ACall Gam 461 [v, .agg #[I x, I y, I dx, I dy]] h fun r h' => r = wv (stepW X.1.toNat X.2.1.toNat X.2.2 (x, y, dx, dy)) ∧ h' = h := by
  have hv0 := hv
  have ok0 := ok
  obtain ⟨b, o, s, rfl, h1, h2, h3, hr, _⟩ := hv
  obtain ⟨b2, o2, z2, rfl, _, hm, _, hc⟩ := hr.ints
  obtain ⟨w, hh, hn, _⟩ := ok
  obtain ⟨d1, d2, p1, p2, p3, p4, p5⟩ := hw
  simp only at *
  have n1 : ¬ 2 * X.1 = 0 := by omega
  have n2 : ¬ 2 * X.2.1 = 0 := by omega
  have n3 : ¬ X.1 = 0 := by omega
  have n4 : ¬ X.2.1 = 0 := by omega
  have w2 : (X.2.1.toNat : Int) = X.2.1 := by omega
  have w1 : (X.1.toNat : Int) = X.1 := by omega
  have w3 : max X.1 0 = X.1 := by omega
  have w4 : max X.2.1 0 = X.2.1 := by omega
  refine ACall_intro g461 rfl ?_
  unfold fn461
  rw [awp_seq, awp_reg]
  generalize hK : seqQ Gam _ _ 0 = K
  simp (disch := omega)
  subst hK
  simp only [seqQ_zero]
  rw [awp_seq, awp_reg]
  generalize hK : seqQ Gam _ _ 0 = K
  simp (disch := omega)
  refine callW_of (c459 h x y dx dy (by omega) (by omega) (by omega) (by omega)) ?_
  rintro _ h' ⟨rfl, rfl⟩
  simp (disch := omega)
  subst hK
  simp only [seqQ_zero]
  rw [awp_seq, awp_reg]
  generalize hK : seqQ Gam _ _ 0 = K
  simp (disch := omega)
  obtain ⟨nx, enx⟩ : ∃ nx, nx = x + dx := ⟨_, rfl⟩
  obtain ⟨ny, eny⟩ : ∃ ny, ny = y + dy := ⟨_, rfl⟩
  have es : wv (stepW X.1.toNat X.2.1.toNat X.2.2 (x, y, dx, dy)) = .agg #[I nx, I ny, I (if nx = 0 ∨ nx = 2 * X.1 ∨ kindW X.1.toNat X.2.1.toNat X.2.2 nx ny = 1 then -dx else dx), I (if ny = 0 ∨ ny = 2 * X.2.1 ∨ kindW X.1.toNat X.2.1.toNat X.2.2 nx ny = 2 then -dy else dy)] := by
    simp only [stepW, wv, enx, eny, w1, w2]
  rw [es] at hK
  rw [← enx] at p3 ⊢
  rw [← eny] at p4 ⊢
  have c4 := c446 h' (pt b o) X nx ny hv0 ok0
  obtain ⟨k, ek⟩ : ∃ k, k = kindW X.1.toNat X.2.1.toNat X.2.2 nx ny := ⟨_, rfl⟩
  rw [← ek] at hK
  subst hK
  simp only [seqQ_zero]
  rw [awp_seq]
  generalize hK : seqQ Gam _ _ = K
  have key : ∀ σ' : Nat → Value, σ' 0 = pt b o → σ' 4 = .agg #[I 0, I 0, I 0, I 0] → σ' 5 = .agg #[I nx, I ny] → σ' 6 = .agg #[I nx, I ny, I (if nx = 0 ∨ nx = 2 * X.1 then -dx else dx), I dy] → K 0 σ' h' := by
    intro σ q0 q4 q5 q6
    subst hK
    simp only [seqQ_zero]
    rw [awp_seq]
    generalize hK : seqQ Gam _ _ = K
    have key2 : ∀ σ' : Nat → Value, σ' 0 = pt b o → σ' 4 = .agg #[I 0, I 0, I 0, I 0] → σ' 5 = .agg #[I nx, I ny] → σ' 6 = .agg #[I nx, I ny, I (if nx = 0 ∨ nx = 2 * X.1 then -dx else dx), I (if ny = 0 ∨ ny = 2 * X.2.1 then -dy else dy)] → K 0 σ' h' := by
      intro σ q0 q4 q5 q6
      subst hK
      simp only [seqQ_zero]
      by_cases E : edgeW X.1.toNat X.2.1.toNat nx ny
      · have k0 : k = 0 := by rw [ek]; exact kindW_edge E
        rw [decide_eq_true E] at c4
        simp (disch := omega) [q0, q5]
        refine callW_of c4 ?_
        rintro _ h'' ⟨rfl, rfl⟩
        simp (disch := omega) [q4, q6, k0, resOf_box, aField]
      · have E' : ¬ (nx = 0 ∨ nx = 2 * X.1 ∨ ny = 0 ∨ ny = 2 * X.2.1) := by
          intro e; apply E; unfold edgeW; rw [w1, w2]; exact e
        have e1 : ¬ (nx = 0 ∨ nx = 2 * X.1) := fun e => E' (by rcases e with e | e; exact .inl e; exact .inr (.inl e))
        have e2 : ¬ (ny = 0 ∨ ny = 2 * X.2.1) := fun e => E' (by rcases e with e | e; exact .inr (.inr (.inl e)); exact .inr (.inr (.inr e)))
        rw [decide_eq_false E] at c4
        rw [if_neg e1, if_neg e2] at q6
        have ek' : k = at0 X.2.2 (numP X.1.toNat nx.toNat ny.toNat) := by rw [ek]; exact if_neg E
        have e3 : ¬ nx = 0 := fun e => e1 (.inl e)
        have e4 : ¬ nx = 2 * X.1 := fun e => e1 (.inr e)
        have e5 : ¬ ny = 0 := fun e => e2 (.inl e)
        have e6 : ¬ ny = 2 * X.2.1 := fun e => e2 (.inr e)
        have b1 : (nx.toNat : Int) = nx := by omega
        have b2' : (ny.toNat : Int) = ny := by omega
        have hnum := numP_lt (W := X.1.toNat) (H := X.2.1.toNat) (x := nx.toNat) (y := ny.toNat) (by omega) (by omega) (by omega)
        have hl : rowN X.1.toNat (2 * X.2.1.toNat) = X.2.2.length := by
          have := rowN_end (W := X.1.toNat) (by omega) (H := X.2.1.toNat) (by omega) (by omega) (by omega)
          rw [w1, w2] at this
          have h3 : inner X.1 X.2.1 = X.1 * (X.2.1 - 1) + X.2.1 * (X.1 - 1) := rfl
          omega
        rw [hl] at hnum
        have hcell := ints_cell hc hnum
        rw [← at0_of hnum, ← ek'] at hcell
        have c5 := c451 h' (pt b o) X X.1.toNat nx.toNat ny.toNat hv0 w1.symm (by omega) (by omega) (by omega) (by omega)
        rw [b1, b2'] at c5
        simp (disch := omega) [q0, q5]
        refine callW_of c4 ?_
        rintro _ h'' ⟨rfl, rfl⟩
        simp (disch := omega) [q0, q5, h3]
        refine callW_of c5 ?_
        rintro _ h'' ⟨rfl, rfl⟩
        simp (disch := omega) [hnum, hcell]
        refine ⟨Grows.refl _, ?_⟩
        refine fork_dec (fun f1 => ?_) (fun f1 => ?_)
        · simp (disch := omega) [q4, q6, f1, e3, e4, e5, e6, wrap64, resOf_box, aField]
        · simp (disch := omega)
          refine fork_dec (fun f2 => ?_) (fun f2 => ?_)
          · simp (disch := omega) [q4, q6, f1, f2, e3, e4, e5, e6, wrap64, resOf_box, aField]
          · simp (disch := omega) [q4, q6, f1, f2, e3, e4, e5, e6, wrap64, resOf_box, aField]
    by_cases e1 : ny = 0
    · simp (disch := omega) [q0, q5, q6, h2, wrap64, e1]
      exact key2 _ (by simp [q0]) (by simp [q4]) (by simp [q5, e1]) (by simp [e1])
    by_cases e2 : ny = 2 * X.2.1
    · simp (disch := omega) [q0, q5, q6, h2, wrap64, e1, e2, n2, n4]
      exact key2 _ (by simp [q0]) (by simp [q4]) (by simp [q5, e2]) (by simp [e2])
    simp (disch := omega) [q0, q5, q6, h2, wrap64, e1, e2]
    exact key2 _ (by simp [q0]) (by simp [q4]) (by simp [q5]) (by simp [q6, e1, e2])
  by_cases e1 : nx = 0
  · simp (disch := omega) [h1, wrap64, e1]
    exact key _ (by simp) (by simp) (by simp [e1]) (by simp [e1])
  by_cases e2 : nx = 2 * X.1
  · simp (disch := omega) [h1, wrap64, e1, e2, n1, n3]
    exact key _ (by simp) (by simp) (by simp [e2]) (by simp [e2])
  simp (disch := omega) [h1, wrap64, e1, e2]
  exact key _ (by simp) (by simp) (by simp) (by simp [e1, e2])
end Am

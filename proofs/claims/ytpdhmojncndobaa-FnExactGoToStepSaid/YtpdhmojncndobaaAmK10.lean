/- Contracts: AmJ14, AmJ15. -/
import Derived.Test.YtpdhmojncndobaaAmK9
/-! AmJ14 -/
set_option linter.unusedVariables false
set_option linter.unusedSimpArgs false
set_option maxHeartbeats 4000000
set_option maxRecDepth 4000
namespace Am
open Go

theorem c86 (h : Heap) (hp : 0 < h.length) (v0 : Value) (X0 : Jrn) (hv0 : Vr h shJournal v0 X0) (hs0 : siz shJournal X0 ≤ 1048576) (n : Int) (wn : I64 n) :
    ACall Gam 86 [v0, I n] h fun r h' => Grows h h' ∧ ∃ r0, r = .tuple #[r0, I (goAns X0 n).2] ∧ VoJ h' h.length h'.length r0 (goAns X0 n).1 ∧ siz shJournal (goAns X0 n).1 ≤ 16777216 := by
  have hsz := go_siz X0 n
  have wf := wf_vr hv0 hs0
  obtain ⟨⟨W, H, br⟩, p, f⟩ := X0
  obtain ⟨s, sp, sf, rfl, w1, w2, r1, r2, r3⟩ := hv0.journal
  refine ACall_intro g86 rfl ?_
  unfold fn86
  rw [awp_seq, awp_reg]
  generalize hK : seqQ Gam _ _ 0 = K
  simp (disch := omega)
  subst hK
  simp only [seqQ_zero]
  rw [awp_seq]
  generalize hK : seqQ Gam _ _ = K
  simp (disch := omega)
  have hv0' := hv0
  obtain ⟨pb, po, pz, e3, hpm, _⟩ := trips_at r2
  rw [maxLen_eq] at hpm
  subst e3
  obtain ⟨fb, fo, fz, e3, hfm, _⟩ := trips_at r3
  rw [maxLen_eq] at hfm
  subst e3
  refine callW_of (c138 h hp _ _ hv0' hs0) ?_
  rintro _ h1 ⟨G1, rfl⟩
  cases q : okJ ((W, H, br), p, f)
  · have e : goAns ((W, H, br), p, f) n = (noJ, 1) := by unfold goAns; rw [q]; simp
    subst hK
    rw [e] at hsz ⊢
    simp (disch := omega) [resOf, resAll, resOne, aField]
    exact ⟨G1, VoJ.no, hsz⟩
  have hK50 := (JK.of q).n
  simp only at hK50
  simp (disch := omega)
  subst hK
  simp only [seqQ_zero]
  rw [awp_seq]
  generalize hK : seqQ Gam _ _ = K
  simp (disch := omega) [wrap64]
  refine callW_of (c164 n 0 ((p.length : Int) + f.length) h1) ?_
  rintro _ h1' ⟨rfl, rfl⟩
  have en : ((p.length + f.length : Nat) : Int) = (p.length : Int) + f.length := by omega
  cases q1 : inR n 0 ((p.length : Int) + f.length)
  · have e : goAns ((W, H, br), p, f) n = (noJ, 2) := by unfold goAns; rw [q]; simp only [en, q1]; rfl
    subst hK
    rw [e] at hsz ⊢
    simp (disch := omega) [resOf, resAll, resOne, aField]
    exact ⟨G1, VoJ.no, hsz⟩
  have e : goAns ((W, H, br), p, f) n = (goJ ((W, H, br), p, f) n.toNat, 0) := by unfold goAns; rw [q]; simp only [en, q1]; rfl
  rw [inR_iff] at q1
  simp (disch := omega)
  subst hK
  rw [e] at hsz ⊢
  obtain ⟨nn, rfl⟩ := Int.eq_ofNat_of_zero_le q1.1
  rw [Int.toNat_natCast] at hsz ⊢
  simp only [seqQ_zero]
  rw [awp_seq, awp_reg]
  generalize hK : seqQ Gam _ _ 0 = K
  simp (disch := omega)
  refine callW_of (c148 h1' (pos_of hp G1) _ _ (hv0'.grow G1) hs0) ?_
  rintro _ h2 x5
  obtain ⟨b1, z1, b2, z2, b3, z3, rfl, hJ⟩ := JM.own (pos_of hp G1) x5 wf
  have g2 := x5.1
  simp only at hJ
  have hsb : storeAt (h2 ++ [⟨[I 0, I 0, sl 0 0 0 0, sl 0 0 0 0, sl 0 0 0 0], true⟩]) h2.length 0 [I W, I H, sl b1 0 br.length z1, sl b2 0 p.length z2, sl b3 0 f.length z3] = some (h2 ++ [⟨[I W, I H, sl b1 0 br.length z1, sl b2 0 p.length z2, sl b3 0 f.length z3], true⟩]) := store_box rfl
  simp (disch := omega) [hsb]
  subst hK
  simp only [seqQ_zero]
  obtain ⟨h3, e3⟩ : ∃ h3, h3 = h2 ++ [⟨[I W, I H, sl b1 0 br.length z1, sl b2 0 p.length z2, sl b3 0 f.length z3], true⟩] := ⟨_, rfl⟩
  rw [← e3] at hJ ⊢
  have G3 : Grows h1' h3 := g2.trans ⟨_, e3⟩
  generalize hjb : h2.length = jb at *
  rw [awp_seq]
  generalize hK : seqQ Gam _ _ = K
  have hlo : h1'.length ≤ h3.length := G3.le
  have J0 : Way h1'.length jb nn true (undoN (p.length - nn) ((W, H, br), p, f)) (p.length + f.length) h3 (p.length - nn) := ⟨_, _, hJ, JK.of q, rfl, rfl, rfl⟩
  simp (disch := omega)
  refine awp_loop (fun (m : Nat) σ h' => Grows h1' h' ∧ σ 1 = I nn ∧ σ 6 = pt jb 0 ∧ σ 4 = .agg #[I 0, I 0, sl 0 0 0 0, sl 0 0 0 0, sl 0 0 0 0] ∧ Way h1'.length jb nn true (undoN (p.length - nn) ((W, H, br), p, f)) (p.length + f.length) h' m) (fun m => m) (p.length - nn) ?_ ?_
  · exact ⟨G3, by simp, by simp, by simp, J0⟩
  · rintro m σ h' ⟨g', q1', q6, q4, Y, rest, JY, KY, hT, hm, hZ⟩
    obtain ⟨b1, z1, b2, z2, b3, z3, hx⟩ := JY
    have JY : JM h' h1'.length jb Y rest := ⟨b1, z1, b2, z2, b3, z3, hx⟩
    have hx : JMx h' h1'.length jb Y rest b1 z1 b2 z2 b3 z3 := hx
    have k3 := hx.cells.2.1
    have hn := KY.n
    simp (disch := omega) [q6, q1', k3]
    refine fork_dec (fun hlt => ?_) (fun hge => ?_)
    · have hlt : (nn : Int) < Y.2.1.length := by first | exact hlt | omega
      have hne : Y.2.1 ≠ [] := by intro e; rw [e] at hlt; simp at hlt
      simp (disch := omega) [q6, q1', k3]
      refine callW_of (undo_step 2 (.inl rfl) h' _ jb Y rest JY KY hne) ?_
      rintro _ h5 ⟨md, rest', J5⟩
      have G5 := md.grows g' (Nat.le_refl _)
      simp (disch := omega) [q6, q1', q4]
      refine ⟨m - 1, ⟨G5, _, rest', J5, KY.undo, ?_, ?_, ?_⟩, ?_⟩
      · have := (undoJ_len Y).2; omega
      · rw [undoJ_past hne]; simp at hm ⊢; omega
      · obtain ⟨m', rfl⟩ : ∃ m', m = m' + 1 := ⟨m - 1, by simp at hm; omega⟩
        simpa [undoN] using hZ
      · simp at hm; omega
    · simp (disch := omega) [q6, q1', k3]
      have hm0 : m = 0 := by simp at hm; omega
      subst hm0
      have hge : Y.2.1.length ≤ nn := by omega
      have eZ : undoN (p.length - nn) ((W, H, br), p, f) = Y := by simpa [undoN] using hZ
      have eG : goJ ((W, H, br), p, f) nn = redoN (nn - Y.2.1.length) Y := by unfold goJ; simp only [eZ]
      subst hK
      rw [eG] at hsz ⊢
      obtain ⟨Z, hZ2⟩ : ∃ Z, Z = redoN (nn - Y.2.1.length) Y := ⟨_, rfl⟩
      rw [← hZ2] at hsz ⊢
      have J1 : Way h1'.length jb nn false Z (p.length + f.length) h' (nn - Y.2.1.length) := ⟨Y, rest, JY, KY, hT, rfl, hZ2⟩
      generalize hm1 : nn - Y.2.1.length = m1 at J1
      simp only [seqQ_zero]
      rw [awp_seq]
      generalize hK : seqQ Gam _ _ = K
      simp (disch := omega)
      refine awp_loop (fun (m : Nat) σ h' => Grows h1' h' ∧ σ 1 = I nn ∧ σ 6 = pt jb 0 ∧ σ 4 = .agg #[I 0, I 0, sl 0 0 0 0, sl 0 0 0 0, sl 0 0 0 0] ∧ Way h1'.length jb nn false Z (p.length + f.length) h' m) (fun m => m) m1 ?_ ?_
      · exact ⟨g', by simpa using q1', by simpa using q6, by simpa using q4, J1⟩
      · clear J1 hZ2 JY hx k3 KY
        rintro m σ h' ⟨g', q1', q6, q4, Y, rest, JY, KY, hT, hm, hZ⟩
        obtain ⟨b1, z1, b2, z2, b3, z3, hx⟩ := JY
        have JY : JM h' h1'.length jb Y rest := ⟨b1, z1, b2, z2, b3, z3, hx⟩
        have hx : JMx h' h1'.length jb Y rest b1 z1 b2 z2 b3 z3 := hx
        have k3 := hx.cells.2.1
        have hn := KY.n
        simp (disch := omega) [q6, q1', k3]
        refine fork_dec (fun hlt => ?_) (fun hge => ?_)
        · have hlt : (Y.2.1.length : Int) < nn := by first | exact hlt | omega
          have hne : Y.2.2 ≠ [] := by intro e; rw [e] at hT; simp at hT; omega
          simp (disch := omega) [q6, q1', k3]
          refine callW_of (redo_step 1 (.inl rfl) h' _ jb Y rest JY KY hne) ?_
          rintro _ h5 ⟨md, J5⟩
          have G5 := md.grows g' (Nat.le_refl _)
          simp (disch := omega) [q6, q1', q4]
          refine ⟨m - 1, ⟨G5, _, _, J5, KY.redo, ?_, ?_, ?_⟩, ?_⟩
          · have := (redoJ_len Y).2; omega
          · rw [redoJ_past hne]; simp at hm ⊢; omega
          · obtain ⟨m', rfl⟩ : ∃ m', m = m' + 1 := ⟨m - 1, by simp at hm; omega⟩
            simpa [redoN] using hZ
          · simp at hm; omega
        · simp (disch := omega) [q6, q1', k3]
          have hm0 : m = 0 := by simp at hm; omega
          subst hm0
          have eZ : Z = Y := by simpa [redoN] using hZ
          subst eZ
          subst hK
          simp only [seqQ_zero]
          have L1 := G1.le
          obtain ⟨cs, hk, hl, ov⟩ := JY.voj
          have cw : cellsAt h' jb 0 5 = some cs := cellsAt_all hk hl.symm
          simp (disch := omega) [cw, hl, q6, q4, resOf, resAll, resOne, aField]
          have et : cs.take 5 = cs := List.take_of_length_le (by omega)
          try rw [et]
          exact ⟨G1.trans g', ov.wide L1 (Nat.le_refl _), hsz⟩
end Am
/-! AmJ15 -/
set_option linter.unusedVariables false
set_option linter.unusedSimpArgs false
set_option maxHeartbeats 4000000
namespace Am
open Go

theorem at0_set {l : List Int} {k : Nat} {v : Int} (hk : k < l.length) : at0 (l.set k v) k = v := by
  rw [at0_of (by simpa using hk)]; simp
theorem set_at0 {l : List Int} {k : Nat} (hk : k < l.length) : l.set k (at0 l k) = l := by
  rw [at0_of hk, List.set_getElem_self]
theorem okP_set {W H : Int} {br : List Int} {k : Nat} {v : Int} (h : okP (W, H, br) = true) (hv : 0 ≤ v ∧ v ≤ 2) : okP (W, H, br.set k v) = true := by
  rw [okP_iff] at h ⊢
  refine ⟨h.w, h.h, by simpa using h.n, fun x hx => ?_⟩
  rcases List.mem_or_eq_of_mem_set hx with hx | rfl
  · exact h.b x hx
  · exact hv
theorem okJ_iff {X : Jrn} : okJ X = true ↔ okP X.1 = true ∧ X.2.1.length + X.2.2.length ≤ 50 ∧ (∃ c, runB X.2.1.reverse X.1.2.2 = some c) ∧ ∃ c, runF X.2.2 X.1.2.2 = some c := by
  unfold okJ
  simp only [Bool.and_eq_true, decide_eq_true_eq, Option.isSome_iff_exists]
theorem runB_cons {s : Trip} {l : List Trip} {br c : List Int} (h : runB (s :: l) br = some c) : okStep br.length s = true ∧ at0 br s.1.toNat = s.2.2 ∧ runB l (br.set s.1.toNat s.2.1) = some c := by
  simp only [runB] at h
  split at h
  · rename_i hc; simp at hc; exact ⟨hc.1, hc.2, h⟩
  · cases h
theorem runF_cons {s : Trip} {l : List Trip} {br c : List Int} (h : runF (s :: l) br = some c) : okStep br.length s = true ∧ at0 br s.1.toNat = s.2.1 ∧ runF l (br.set s.1.toNat s.2.2) = some c := by
  simp only [runF] at h
  split at h
  · rename_i hc; simp at hc; exact ⟨hc.1, hc.2, h⟩
  · cases h
theorem runB_mk {s : Trip} {l : List Trip} {br c : List Int} (h1 : okStep br.length s = true) (h2 : at0 br s.1.toNat = s.2.2) (h : runB l (br.set s.1.toNat s.2.1) = some c) : runB (s :: l) br = some c := by
  simp only [runB, h1, h2, decide_true, Bool.and_self, if_true]; exact h
theorem runF_step {s : Trip} {l : List Trip} {br c : List Int} (h1 : okStep br.length s = true) (h2 : at0 br s.1.toNat = s.2.1) (h : runF l (br.set s.1.toNat s.2.2) = some c) : runF (s :: l) br = some c := by
  simp only [runF, h1, h2, decide_true, Bool.and_self, if_true]; exact h
theorem step_bd {n : Nat} {s : Trip} (h : okStep n s = true) : s.1.toNat < n ∧ (0 ≤ s.2.1 ∧ s.2.1 ≤ 2) ∧ (0 ≤ s.2.2 ∧ s.2.2 ≤ 2) := by
  have := okStep_iff.1 h; omega

/-- One step back, in plain terms. -/
theorem undo_law {W H : Int} {br : List Int} {p f : List Trip} {s : Trip} (h : okJ ((W, H, br), p ++ [s], f) = true) :
    undoJ ((W, H, br), p ++ [s], f) = ((W, H, br.set s.1.toNat s.2.1), p, s :: f) ∧ okJ ((W, H, br.set s.1.toNat s.2.1), p, s :: f) = true ∧
    redoJ ((W, H, br.set s.1.toNat s.2.1), p, s :: f) = ((W, H, br), p ++ [s], f) ∧ startB ((W, H, br.set s.1.toNat s.2.1), p, s :: f) = startB ((W, H, br), p ++ [s], f) := by
  obtain ⟨h1, h2, ⟨c, h3⟩, ⟨d, h4⟩⟩ := okJ_iff.1 h
  simp only [List.reverse_append, List.reverse_cons, List.reverse_nil, List.nil_append, List.singleton_append, List.length_append, List.length_cons, List.length_nil] at h1 h2 h3 h4
  obtain ⟨g1, g2, g3⟩ := runB_cons h3
  obtain ⟨e1, e2, e3⟩ := step_bd g1
  have back : (br.set s.1.toNat s.2.1).set s.1.toNat s.2.2 = br := by rw [List.set_set, ← g2, set_at0 e1]
  refine ⟨by simp [undoJ], okJ_iff.2 ⟨okP_set h1 e2, by simp only [List.length_cons]; omega, ⟨c, g3⟩, d, ?_⟩, by simp [redoJ, back], ?_⟩
  · exact runF_step (by simpa using g1) (at0_set e1) (by rw [back]; exact h4)
  · simp only [startB, List.reverse_append, List.reverse_cons, List.reverse_nil, List.nil_append, List.singleton_append, h3, g3]
/-- One step again. -/
theorem redo_law {W H : Int} {br : List Int} {p f : List Trip} {s : Trip} (h : okJ ((W, H, br), p, s :: f) = true) :
    redoJ ((W, H, br), p, s :: f) = ((W, H, br.set s.1.toNat s.2.2), p ++ [s], f) ∧ okJ ((W, H, br.set s.1.toNat s.2.2), p ++ [s], f) = true ∧
    undoJ ((W, H, br.set s.1.toNat s.2.2), p ++ [s], f) = ((W, H, br), p, s :: f) ∧ startB ((W, H, br.set s.1.toNat s.2.2), p ++ [s], f) = startB ((W, H, br), p, s :: f) := by
  obtain ⟨h1, h2, ⟨c, h3⟩, ⟨d, h4⟩⟩ := okJ_iff.1 h
  simp only [List.length_cons] at h1 h2 h3 h4
  obtain ⟨g1, g2, g3⟩ := runF_cons h4
  obtain ⟨e1, e2, e3⟩ := step_bd g1
  have back : (br.set s.1.toNat s.2.2).set s.1.toNat s.2.1 = br := by rw [List.set_set, ← g2, set_at0 e1]
  have h5 : runB (s :: p.reverse) (br.set s.1.toNat s.2.2) = some c := runB_mk (by simpa using g1) (at0_set e1) (by rw [back]; exact h3)
  refine ⟨by simp [redoJ], okJ_iff.2 ⟨okP_set h1 e3, by simp only [List.length_append, List.length_cons, List.length_nil]; omega, ⟨c, ?_⟩, d, g3⟩, by simp [undoJ, back], ?_⟩
  · simpa using h5
  · simp only [startB, List.reverse_append, List.reverse_cons, List.reverse_nil, List.nil_append, List.singleton_append, h3, h5]
/-- A step made. -/
theorem do_law {W H : Int} {br : List Int} {p f : List Trip} {k kind : Int} (h : okJ ((W, H, br), p, f) = true) (hc : doCode ((W, H, br), p, f) k kind = 0) :
    okJ (doJ ((W, H, br), p, f) k kind) = true ∧ (undoJ (doJ ((W, H, br), p, f) k kind)).1 = (W, H, br) := by
  obtain ⟨h1, h2, ⟨c, h3⟩, ⟨d, h4⟩⟩ := okJ_iff.1 h
  unfold doCode at hc
  split at hc
  rotate_left
  · simp at hc
  rename_i hq
  simp only [Bool.and_eq_true, inR_iff, okBr_iff] at hq
  split at hc
  · simp at hc
  rename_i hne
  split at hc
  · simp at hc
  rename_i hp
  simp only at hq hp hne h1 h2 h3 h4
  obtain ⟨kn, rfl⟩ := Int.eq_ofNat_of_zero_le hq.1.1
  have hk : kn < br.length := by omega
  rw [Int.toNat_natCast] at hne
  have hb : 0 ≤ at0 br kn ∧ at0 br kn ≤ 2 := by
    rw [at0_of hk]; exact (okP_iff.1 h1).b _ (List.getElem_mem hk)
  have hs : okStep br.length ((kn : Int), at0 br kn, kind) = true := okStep_iff.2 ⟨⟨by simp, by simpa using hk⟩, hb, hq.2, hne⟩
  have hJ : okJ ((W, H, br.set kn kind), p ++ [((kn : Int), at0 br kn, kind)], []) = true := by
    refine okJ_iff.2 ⟨okP_set h1 hq.2, by simp only [List.length_append, List.length_cons, List.length_nil]; omega, ⟨c, ?_⟩, _, rfl⟩
    have := runB_mk (s := ((kn : Int), at0 br kn, kind)) (l := p.reverse) (br := br.set kn kind) (c := c) (by simpa using hs) (at0_set hk) (by simp only [Int.toNat_natCast]; rw [List.set_set, set_at0 hk]; exact h3)
    simpa using this
  simp only [doJ, Int.toNat_natCast]
  refine ⟨hJ, ?_⟩
  rw [(undo_law hJ).1]
  simp only [Int.toNat_natCast]
  rw [List.set_set, set_at0 hk]
/-- One step back, however the journal is given. -/
theorem undo_ok {X : Jrn} (h : okJ X = true) (hne : X.2.1 ≠ []) : okJ (undoJ X) = true ∧ redoJ (undoJ X) = X ∧ startB (undoJ X) = startB X ∧ (undoJ X).2.2 ≠ [] ∧ (undoJ X).1.1 = X.1.1 ∧ (undoJ X).1.2.1 = X.1.2.1 := by
  obtain ⟨⟨W, H, br⟩, p, f⟩ := X
  simp only at hne
  obtain ⟨p', s, rfl⟩ : ∃ p' s, p = p' ++ [s] := by
    rcases List.eq_nil_or_concat p with e | ⟨p', s, e⟩
    · exact absurd e hne
    · exact ⟨p', s, by simpa using e⟩
  obtain ⟨e, h1, h2, h3⟩ := undo_law h
  rw [e]
  exact ⟨h1, h2, h3, by simp, rfl, rfl⟩
theorem redo_ok {X : Jrn} (h : okJ X = true) (hne : X.2.2 ≠ []) : okJ (redoJ X) = true ∧ undoJ (redoJ X) = X ∧ startB (redoJ X) = startB X ∧ (redoJ X).2.1 ≠ [] ∧ (redoJ X).1.1 = X.1.1 ∧ (redoJ X).1.2.1 = X.1.2.1 := by
  obtain ⟨⟨W, H, br⟩, p, f⟩ := X
  cases f with
  | nil => exact absurd rfl hne
  | cons s f =>
    obtain ⟨e, h1, h2, h3⟩ := redo_law h
    rw [e]
    exact ⟨h1, h2, h3, by simp, rfl, rfl⟩

/-- Steps back: valid, as many fewer, the same start; and forth again. -/
theorem undoN_ok : ∀ (k : Nat) {X : Jrn}, okJ X = true → k ≤ X.2.1.length → okJ (undoN k X) = true ∧ (undoN k X).2.1.length = X.2.1.length - k ∧ startB (undoN k X) = startB X ∧ redoN k (undoN k X) = X ∧ (undoN k X).1.1 = X.1.1 ∧ (undoN k X).1.2.1 = X.1.2.1
  | 0, X, h, _ => ⟨h, rfl, rfl, rfl, rfl, rfl⟩
  | k + 1, X, h, hk => by
    have hne : X.2.1 ≠ [] := by intro e; rw [e] at hk; simp at hk
    obtain ⟨h1, h2, h3, h4, h5, h6⟩ := undo_ok h hne
    have hl := undoJ_past hne
    obtain ⟨i1, i2, i3, i4, i5, i6⟩ := undoN_ok k h1 (by omega)
    refine ⟨i1, by simp only [undoN]; omega, i3.trans h3, ?_, i5.trans h5, i6.trans h6⟩
    have : ∀ (m : Nat) (Y : Jrn), redoN (m + 1) Y = redoJ (redoN m Y) := by
      intro m
      induction m with
      | zero => intro Y; rfl
      | succ m ih => intro Y; rw [redoN, ih]; rfl
    rw [this]
    simp only [undoN]
    rw [i4, h2]
theorem redoN_ok : ∀ (k : Nat) {X : Jrn}, okJ X = true → k ≤ X.2.2.length → okJ (redoN k X) = true ∧ (redoN k X).2.1.length = X.2.1.length + k ∧ startB (redoN k X) = startB X ∧ undoN k (redoN k X) = X ∧ (redoN k X).1.1 = X.1.1 ∧ (redoN k X).1.2.1 = X.1.2.1
  | 0, X, h, _ => ⟨h, rfl, rfl, rfl, rfl, rfl⟩
  | k + 1, X, h, hk => by
    have hne : X.2.2 ≠ [] := by intro e; rw [e] at hk; simp at hk
    obtain ⟨h1, h2, h3, h4, h5, h6⟩ := redo_ok h hne
    have hl := redoJ_past hne
    have hn := (redoJ_len X).2
    obtain ⟨i1, i2, i3, i4, i5, i6⟩ := redoN_ok k h1 (by omega)
    refine ⟨i1, by simp only [redoN]; omega, i3.trans h3, ?_, i5.trans h5, i6.trans h6⟩
    have : ∀ (m : Nat) (Y : Jrn), undoN (m + 1) Y = undoJ (undoN m Y) := by
      intro m
      induction m with
      | zero => intro Y; rfl
      | succ m ih => intro Y; rw [undoN, ih]; rfl
    rw [this]
    simp only [redoN]
    rw [i4, h2]
/-- A journal leads to any of its steps, and back. -/
theorem go_ok {X : Jrn} (h : okJ X = true) {n : Nat} (hn : n ≤ X.2.1.length + X.2.2.length) : okJ (goJ X n) = true ∧ (goJ X n).2.1.length = n ∧ startB (goJ X n) = startB X ∧ goJ (goJ X n) X.2.1.length = X ∧ (goJ X n).1.1 = X.1.1 ∧ (goJ X n).1.2.1 = X.1.2.1 := by
  unfold goJ
  by_cases hc : n ≤ X.2.1.length
  · obtain ⟨h1, h2, h3, h4, h5, h6⟩ := undoN_ok (X.2.1.length - n) h (by omega)
    obtain ⟨Y, hY⟩ : ∃ Y, Y = undoN (X.2.1.length - n) X := ⟨_, rfl⟩
    rw [← hY] at h1 h2 h3 h4 h5 h6 ⊢
    have e0 : n - Y.2.1.length = 0 := by omega
    rw [e0]
    simp only [redoN]
    refine ⟨h1, by omega, h3, ?_, h5, h6⟩
    have e1 : Y.2.1.length - X.2.1.length = 0 := by omega
    rw [e1]
    simp only [undoN]
    have e2 : X.2.1.length - Y.2.1.length = X.2.1.length - n := by omega
    rw [e2, h4]
  · have e0 : X.2.1.length - n = 0 := by omega
    rw [e0]
    simp only [undoN]
    obtain ⟨h1, h2, h3, h4, h5, h6⟩ := redoN_ok (n - X.2.1.length) h (by omega)
    obtain ⟨Y, hY⟩ : ∃ Y, Y = redoN (n - X.2.1.length) X := ⟨_, rfl⟩
    rw [← hY] at h1 h2 h3 h4 h5 h6 ⊢
    refine ⟨h1, by omega, h3, ?_, h5, h6⟩
    have e1 : Y.2.1.length - X.2.1.length = n - X.2.1.length := by omega
    rw [e1, h4]
    simp [redoN]
end Am

/- Contracts: AmJ10, AmJ11, AmJ12, AmJ13. -/
import Derived.Test.YtpdhmojncndobaaAmK8
/-! AmJ10 -/
set_option linter.unusedVariables false
set_option linter.unusedSimpArgs false
set_option maxHeartbeats 4000000
set_option maxRecDepth 4000
namespace Am
open Go

/-- All steps fit the branches; there are not many. -/
structure JK (X : Jrn) : Prop where
  p : ∀ t ∈ X.2.1, 0 ≤ t.1 ∧ t.1 < X.1.2.2.length
  f : ∀ t ∈ X.2.2, 0 ≤ t.1 ∧ t.1 < X.1.2.2.length
  n : X.2.1.length + X.2.2.length ≤ 50
theorem runB_keys : ∀ (l : List Trip) (br : List Int), (runB l br).isSome = true → ∀ t ∈ l, 0 ≤ t.1 ∧ t.1 < br.length
  | [], _, _ => by simp
  | s :: l, br, h => by
    unfold runB at h
    by_cases hc : (okStep br.length s && decide (at0 br s.1.toNat = s.2.2)) = true
    · rw [if_pos hc] at h
      have := runB_keys l _ h
      rw [List.length_set] at this
      intro t ht
      rcases List.mem_cons.1 ht with rfl | ht
      · exact (okStep_iff.1 (by simp at hc; exact hc.1)).1
      · exact this t ht
    · rw [if_neg hc] at h; simp at h
theorem runF_keys : ∀ (l : List Trip) (br : List Int), (runF l br).isSome = true → ∀ t ∈ l, 0 ≤ t.1 ∧ t.1 < br.length
  | [], _, _ => by simp
  | s :: l, br, h => by
    unfold runF at h
    by_cases hc : (okStep br.length s && decide (at0 br s.1.toNat = s.2.1)) = true
    · rw [if_pos hc] at h
      have := runF_keys l _ h
      rw [List.length_set] at this
      intro t ht
      rcases List.mem_cons.1 ht with rfl | ht
      · exact (okStep_iff.1 (by simp at hc; exact hc.1)).1
      · exact this t ht
    · rw [if_neg hc] at h; simp at h
theorem JK.of {X : Jrn} (h : okJ X = true) : JK X := by
  unfold okJ at h
  simp only [Bool.and_eq_true, decide_eq_true_eq] at h
  exact ⟨fun t ht => runB_keys _ _ h.2.2.1 t (by simpa using ht), runF_keys _ _ h.2.2.2, h.2.1⟩

def redoJ (X : Jrn) : Jrn := match X.2.2 with
  | [] => X
  | s :: f => ((X.1.1, X.1.2.1, X.1.2.2.set s.1.toNat s.2.2), X.2.1 ++ [s], f)
def redoAns (X : Jrn) : Jrn × Int := if okJ X then (if X.2.2 = [] then (noJ, 6) else (redoJ X, 0)) else (noJ, 1)
theorem redoJ_len (X : Jrn) : (redoJ X).1.2.2.length = X.1.2.2.length ∧ (redoJ X).2.1.length + (redoJ X).2.2.length = X.2.1.length + X.2.2.length := by
  unfold redoJ
  split
  · exact ⟨rfl, rfl⟩
  · rename_i h; simp [h]; omega
theorem ok_siz {X Y : Jrn} (h : okJ X = true) (hb : Y.1.2.2.length = X.1.2.2.length) (hn : Y.2.1.length + Y.2.2.length ≤ 50) : siz shJournal Y ≤ 16777216 := by
  obtain ⟨⟨W, H, br⟩, p, f⟩ := X
  obtain ⟨⟨W', H', br'⟩, p', f'⟩ := Y
  obtain ⟨ok, hle, _⟩ := okJ_parts h
  have := ok_len ok
  simp only at hb hn
  rw [siz_journal]; omega
theorem redo_siz (X : Jrn) : siz shJournal (redoAns X).1 ≤ 16777216 := by
  unfold redoAns
  split
  · rename_i h
    split
    · rw [noJ_siz]; omega
    · exact ok_siz h (redoJ_len X).1 (by have := (redoJ_len X).2; have := (JK.of h).n; simp only at *; omega)
  · rw [noJ_siz]; omega
theorem redo_step (f : Nat) (hf : f = 1 ∨ f = 560) (h : Heap) (lo jb : Nat) (X : Jrn) (rest : List Value) (hJ : JM h lo jb X rest) (hk : JK X) (hne : X.2.2 ≠ []) :
    ACall Gam f [pt jb 0] h fun _ h' => Mod lo h.length h h' ∧ JM h' lo jb (redoJ X) [] := by
  obtain ⟨⟨W, H, br⟩, p, f'⟩ := X
  cases f' with
  | nil => exact absurd rfl hne
  | cons s f' =>
    obtain ⟨a, x, y⟩ := s
    have k1 := hk.f (a, x, y) (by simp)
    have k2 := hk.n
    simp only [List.length_cons] at k1 k2
    rcases hf with rfl | rfl
    · exact c1 h lo jb W H br p f' a x y rest hJ k1.1 k1.2 (by omega) (by omega)
    · exact c560 h lo jb W H br p f' a x y rest hJ k1.1 k1.2 (by omega) (by omega)

theorem c414 (h : Heap) (hp : 0 < h.length) (v0 : Value) (X0 : Jrn) (hv0 : Vr h shJournal v0 X0) (hs0 : siz shJournal X0 ≤ 1048576) :
    ACall Gam 414 [v0] h fun r h' => Grows h h' ∧ ∃ r0, r = .tuple #[r0, I (redoAns X0).2] ∧ Vo h' h.length h'.length shJournal r0 (redoAns X0).1 ∧ siz shJournal (redoAns X0).1 ≤ 16777216 := by
  have hsz := redo_siz X0
  have wf := wf_vr hv0 hs0
  obtain ⟨⟨W, H, br⟩, p, f⟩ := X0
  obtain ⟨s, sp, sf, rfl, w1, w2, r1, r2, r3⟩ := hv0.journal
  refine ACall_intro g414 rfl ?_
  unfold fn414
  rw [awp_seq, awp_reg]
  generalize hK : seqQ Gam _ _ 0 = K
  simp (disch := omega)
  subst hK
  simp only [seqQ_zero]
  rw [awp_seq]
  generalize hK : seqQ Gam _ _ = K
  simp (disch := omega)
  obtain ⟨ha, eha⟩ : ∃ ha, ha = h ++ [⟨[I W, I H, s, sp, sf], true⟩] := ⟨_, rfl⟩
  rw [← eha]
  have ga : Grows h ha := ⟨_, eha⟩
  have la : ha.length = h.length + 1 := by rw [eha]; simp
  have ka : ha[h.length]? = some ⟨[I W, I H, s, sp, sf], true⟩ := by rw [eha]; simp
  have hj := PtJ.of ka (r1.grow ga) (r2.grow ga) (r3.grow ga) w1 w2
  obtain ⟨pb, po, pz, e3, hpm, _⟩ := trips_at r3
  rw [maxLen_eq] at hpm
  subst e3
  refine callW_of (c558 ha (pos_of hp ga) _ _ hj hs0) ?_
  rintro _ h1 ⟨g1, rfl⟩
  have G1 := ga.trans g1
  cases q : okJ ((W, H, br), p, f)
  · have e : redoAns ((W, H, br), p, f) = (noJ, 1) := by simp [redoAns, q]
    subst hK
    rw [e] at hsz ⊢
    simp (disch := omega) [resOf, resAll, resOne, aField]
    exact ⟨G1, Vo.no_journal, hsz⟩
  simp (disch := omega)
  subst hK
  simp only [seqQ_zero]
  rw [awp_seq]
  generalize hK : seqQ Gam _ _ = K
  have k4 : cell h1 h.length 4 = some (sl pb po f.length pz) := by
    refine g1.cell ?_
    unfold cell; rw [ka]; rfl
  simp (disch := omega) [k4]
  refine fork_dec (fun h3 => ?_) (fun h3 => ?_)
  · have h3 : f = [] := List.length_eq_zero_iff.1 (by simpa using h3)
    have e : redoAns ((W, H, br), p, f) = (noJ, 6) := by unfold redoAns; rw [q]; simp [h3]
    subst hK
    rw [e] at hsz ⊢
    simp (disch := omega) [resOf, resAll, resOne, aField]
    exact ⟨G1, Vo.no_journal, hsz⟩
  have hfe : f ≠ [] := by intro e; subst e; simp at h3
  have e : redoAns ((W, H, br), p, f) = (redoJ ((W, H, br), p, f), 0) := by unfold redoAns; rw [q]; simp [hfe]
  simp (disch := omega)
  subst hK
  rw [e] at hsz ⊢
  simp only [seqQ_zero]
  rw [awp_seq, awp_reg]
  generalize hK : seqQ Gam _ _ 0 = K
  simp (disch := omega)
  refine callW_of (c559 h1 (pos_of hp G1) _ _ (hj.grow g1) hs0) ?_
  rintro _ h2 x5
  obtain ⟨b1, z1, b2, z2, b3, z3, rfl, hJ⟩ := JM.own (pos_of hp G1) x5 wf
  have g2 := x5.1
  simp only at hJ
  have hsb : storeAt (h2 ++ [⟨[I 0, I 0, sl 0 0 0 0, sl 0 0 0 0, sl 0 0 0 0], true⟩]) h2.length 0 [I W, I H, sl b1 0 br.length z1, sl b2 0 p.length z2, sl b3 0 f.length z3] = some (h2 ++ [⟨[I W, I H, sl b1 0 br.length z1, sl b2 0 p.length z2, sl b3 0 f.length z3], true⟩]) := store_box rfl
  simp (disch := omega) [hsb]
  subst hK
  simp only [seqQ_zero]
  rw [awp_seq, awp_reg]
  generalize hK : seqQ Gam _ _ 0 = K
  simp (disch := omega)
  obtain ⟨h3, e3⟩ : ∃ h3, h3 = h2 ++ [⟨[I W, I H, sl b1 0 br.length z1, sl b2 0 p.length z2, sl b3 0 f.length z3], true⟩] := ⟨_, rfl⟩
  rw [← e3] at hJ ⊢
  have G3 : Grows h1 h3 := g2.trans ⟨_, e3⟩
  refine callW_of (redo_step 560 (.inr rfl) h3 h1.length h2.length _ [] hJ (JK.of q) hfe) ?_
  rintro _ h4 ⟨md, hJ2⟩
  simp (disch := omega)
  subst hK
  simp only [seqQ_zero]
  have L1 := G1.le
  obtain ⟨cs, hk, hl, ov⟩ := hJ2.vo
  have cw : cellsAt h4 h2.length 0 5 = some cs := cellsAt_all hk hl.symm
  have G4 := md.grows G3 (Nat.le_refl _)
  simp (disch := omega) [cw, hl, resOf, resAll, resOne, aField]
  have et : cs.take 5 = cs := List.take_of_length_le (by omega)
  try rw [et]
  exact ⟨G1.trans G4, ov.wide L1 (Nat.le_refl _), hsz⟩

theorem c123 (h : Heap) (hp : 0 < h.length) (v0 : Value) (X0 : Jrn) (hv0 : Vr h shJournal v0 X0) (hs0 : siz shJournal X0 ≤ 1048576) :
    ACall Gam 123 [v0] h fun r h' => Grows h h' ∧ ∃ r0, r = .tuple #[r0, I (redoAns X0).2] ∧ Vo h' h.length h'.length shJournal r0 (redoAns X0).1 ∧ siz shJournal (redoAns X0).1 ≤ 16777216 := by
  have hsz := redo_siz X0
  have wf := wf_vr hv0 hs0
  obtain ⟨⟨W, H, br⟩, p, f⟩ := X0
  obtain ⟨s, sp, sf, rfl, w1, w2, r1, r2, r3⟩ := hv0.journal
  refine ACall_intro g123 rfl ?_
  unfold fn123
  rw [awp_seq, awp_reg]
  generalize hK : seqQ Gam _ _ 0 = K
  simp (disch := omega)
  subst hK
  simp only [seqQ_zero]
  rw [awp_seq]
  generalize hK : seqQ Gam _ _ = K
  simp (disch := omega)
  have hv0' := hv0
  obtain ⟨pb, po, pz, e3, hpm, _⟩ := trips_at r3
  rw [maxLen_eq] at hpm
  subst e3
  refine callW_of (c138 h hp _ _ hv0' hs0) ?_
  rintro _ h1 ⟨G1, rfl⟩
  cases q : okJ ((W, H, br), p, f)
  · have e : redoAns ((W, H, br), p, f) = (noJ, 1) := by simp [redoAns, q]
    subst hK
    rw [e] at hsz ⊢
    simp (disch := omega) [resOf, resAll, resOne, aField]
    exact ⟨G1, Vo.no_journal, hsz⟩
  simp (disch := omega)
  subst hK
  simp only [seqQ_zero]
  rw [awp_seq]
  generalize hK : seqQ Gam _ _ = K
  simp (disch := omega)
  refine fork_dec (fun h3 => ?_) (fun h3 => ?_)
  · have h3 : f = [] := List.length_eq_zero_iff.1 (by simpa using h3)
    have e : redoAns ((W, H, br), p, f) = (noJ, 6) := by unfold redoAns; rw [q]; simp [h3]
    subst hK
    rw [e] at hsz ⊢
    simp (disch := omega) [resOf, resAll, resOne, aField]
    exact ⟨G1, Vo.no_journal, hsz⟩
  have hfe : f ≠ [] := by intro e; subst e; simp at h3
  have e : redoAns ((W, H, br), p, f) = (redoJ ((W, H, br), p, f), 0) := by unfold redoAns; rw [q]; simp [hfe]
  simp (disch := omega)
  subst hK
  rw [e] at hsz ⊢
  simp only [seqQ_zero]
  rw [awp_seq, awp_reg]
  generalize hK : seqQ Gam _ _ 0 = K
  simp (disch := omega)
  refine callW_of (c148 h1 (pos_of hp G1) _ _ (hv0'.grow G1) hs0) ?_
  rintro _ h2 x5
  obtain ⟨b1, z1, b2, z2, b3, z3, rfl, hJ⟩ := JM.own (pos_of hp G1) x5 wf
  have g2 := x5.1
  simp only at hJ
  have hsb : storeAt (h2 ++ [⟨[I 0, I 0, sl 0 0 0 0, sl 0 0 0 0, sl 0 0 0 0], true⟩]) h2.length 0 [I W, I H, sl b1 0 br.length z1, sl b2 0 p.length z2, sl b3 0 f.length z3] = some (h2 ++ [⟨[I W, I H, sl b1 0 br.length z1, sl b2 0 p.length z2, sl b3 0 f.length z3], true⟩]) := store_box rfl
  simp (disch := omega) [hsb]
  subst hK
  simp only [seqQ_zero]
  rw [awp_seq, awp_reg]
  generalize hK : seqQ Gam _ _ 0 = K
  simp (disch := omega)
  obtain ⟨h3, e3⟩ : ∃ h3, h3 = h2 ++ [⟨[I W, I H, sl b1 0 br.length z1, sl b2 0 p.length z2, sl b3 0 f.length z3], true⟩] := ⟨_, rfl⟩
  rw [← e3] at hJ ⊢
  have G3 : Grows h1 h3 := g2.trans ⟨_, e3⟩
  refine callW_of (redo_step 1 (.inl rfl) h3 h1.length h2.length _ [] hJ (JK.of q) hfe) ?_
  rintro _ h4 ⟨md, hJ2⟩
  simp (disch := omega)
  subst hK
  simp only [seqQ_zero]
  have L1 := G1.le
  obtain ⟨cs, hk, hl, ov⟩ := hJ2.vo
  have cw : cellsAt h4 h2.length 0 5 = some cs := cellsAt_all hk hl.symm
  have G4 := md.grows G3 (Nat.le_refl _)
  simp (disch := omega) [cw, hl, resOf, resAll, resOne, aField]
  have et : cs.take 5 = cs := List.take_of_length_le (by omega)
  try rw [et]
  exact ⟨G1.trans G4, ov.wide L1 (Nat.le_refl _), hsz⟩
end Am
/-! AmJ11 -/
set_option linter.unusedVariables false
set_option linter.unusedSimpArgs false
set_option maxHeartbeats 4000000
set_option maxRecDepth 4000
namespace Am
open Go

/-- As Vo, with cells behind Past. -/
def VoJ (h : Heap) (lo hi : Nat) (v : Value) (X : Jrn) : Prop := ∃ b1 z1 b2 z2 b3 z3 rest,
  v = .agg #[I X.1.1, I X.1.2.1, sl b1 0 X.1.2.2.length z1, sl b2 0 X.2.1.length z2, sl b3 0 X.2.2.length z3] ∧ (z1 = 1 ∨ b1 = 0 ∧ X.1.2.2 = []) ∧
  (X.1.2.2 = [] ∨ h[b1]? = some ⟨ints X.1.2.2, true⟩ ∧ lo ≤ b1 ∧ b1 < hi ∧ b1 ≠ b2 ∧ b1 ≠ b3) ∧
  (X.2.1 = [] ∧ b2 = 0 ∨ z2 = 3 ∧ h[b2]? = some ⟨trips X.2.1 ++ rest, true⟩ ∧ lo ≤ b2 ∧ b2 < hi ∧ b2 ≠ b3) ∧
  (X.2.2 = [] ∧ b3 = 0 ∨ z3 = 3 ∧ h[b3]? = some ⟨trips X.2.2, true⟩ ∧ lo ≤ b3 ∧ b3 < hi) ∧ Jwf X
theorem JM.voj {h : Heap} {lo jb : Nat} {X : Jrn} {rest : List Value} (x : JM h lo jb X rest) : ∃ cs, h[jb]? = some ⟨cs, true⟩ ∧ cs.length = 5 ∧ VoJ h lo h.length (.agg cs.toArray) X := by
  obtain ⟨b1, z1, b2, z2, b3, z3, hjb, hlo, hpos, hz1, i1, i2, i3, wf⟩ := x
  exact ⟨_, hjb, rfl, b1, z1, b2, z2, b3, z3, rest, rfl, hz1, i1.imp id fun e => ⟨e.1, e.2.1, at_lt e.1, e.2.2.2⟩, i2.imp id fun e => ⟨e.1, e.2.1, e.2.2.1, at_lt e.2.1, e.2.2.2.2⟩, i3.imp id fun e => ⟨e.1, e.2.1, e.2.2.1, at_lt e.2.1⟩, wf⟩
theorem VoJ.no {h : Heap} {lo hi : Nat} : VoJ h lo hi (.agg #[I 0, I 0, sl 0 0 0 0, sl 0 0 0 0, sl 0 0 0 0]) noJ :=
  ⟨0, 0, 0, 0, 0, 0, [], rfl, .inr ⟨rfl, rfl⟩, .inl rfl, .inl ⟨rfl, rfl⟩, .inl ⟨rfl, rfl⟩, by constructor <;> simp [noJ, I64]⟩
theorem VoJ.mod {h h' : Heap} {lo hi lo' hi' : Nat} {v : Value} {X : Jrn} (x : VoJ h lo hi v X) (m : Mod lo' hi' h h') (hd : hi ≤ lo' ∨ hi' ≤ lo) : VoJ h' lo hi v X := by
  obtain ⟨b1, z1, b2, z2, b3, z3, rest, e, hz1, i1, i2, i3, wf⟩ := x
  exact ⟨b1, z1, b2, z2, b3, z3, rest, e, hz1, i1.imp id fun e => ⟨by rw [m.2 _ (at_lt e.1) (by omega)]; exact e.1, e.2⟩, i2.imp id fun e => ⟨e.1, by rw [m.2 _ (at_lt e.2.1) (by omega)]; exact e.2.1, e.2.2⟩, i3.imp id fun e => ⟨e.1, by rw [m.2 _ (at_lt e.2.1) (by omega)]; exact e.2.1, e.2.2⟩, wf⟩
theorem VoJ.grow {h h' : Heap} {lo hi : Nat} {v : Value} {X : Jrn} (x : VoJ h lo hi v X) (g : Grows h h') : VoJ h' lo hi v X := by
  obtain ⟨b1, z1, b2, z2, b3, z3, rest, e, hz1, i1, i2, i3, wf⟩ := x
  exact ⟨b1, z1, b2, z2, b3, z3, rest, e, hz1, i1.imp id fun e => ⟨by rw [g.look (at_lt e.1)]; exact e.1, e.2⟩, i2.imp id fun e => ⟨e.1, by rw [g.look (at_lt e.2.1)]; exact e.2.1, e.2.2⟩, i3.imp id fun e => ⟨e.1, by rw [g.look (at_lt e.2.1)]; exact e.2.1, e.2.2⟩, wf⟩
theorem VoJ.wide {h : Heap} {lo hi lo' hi' : Nat} {v : Value} {X : Jrn} (x : VoJ h lo hi v X) (h1 : lo' ≤ lo) (h2 : hi ≤ hi') : VoJ h lo' hi' v X := by
  obtain ⟨b1, z1, b2, z2, b3, z3, rest, e, hz1, i1, i2, i3, wf⟩ := x
  exact ⟨b1, z1, b2, z2, b3, z3, rest, e, hz1, i1.imp id fun e => ⟨e.1, by omega, by omega, e.2.2.2⟩, i2.imp id fun e => ⟨e.1, e.2.1, by omega, by omega, e.2.2.2.2⟩, i3.imp id fun e => ⟨e.1, e.2.1, by omega, by omega⟩, wf⟩

theorem mark_rest {h : Heap} {bb zz : Nat} {X : List Trip} {rest : List Value} {k : Nat} (hl : X.length ≤ 1048576) (hb : X = [] ∨ h[bb]? = some ⟨trips X ++ rest, true⟩) (hk : k + 3 * X.length ≤ 1099511627776) :
    ACall Gam 284 [sl bb 0 X.length zz, I k] h fun r h' => r = I ((k + 3 * X.length : Nat) : Int) ∧ Mod bb (bb + 1) h h' ∧ (X = [] → h' = h) ∧ (X = [] ∨ h'[bb]? = some ⟨trips (tnums k X.length) ++ rest, true⟩) := by
  refine ACall_intro (show Gam 284 = some fn287 from g284) rfl ?_
  unfold fn287
  simp (disch := omega)
  refine awp_loop (fun i σ h' => i ≤ X.length ∧ Mod bb (bb + 1) h h' ∧ σ 0 = sl bb 0 X.length zz ∧ σ 1 = I ((k + 3 * i : Nat) : Int) ∧ σ 5 = I i ∧ (X = [] → h' = h) ∧ (X = [] ∨ h'[bb]? = some ⟨trips (tnums k i) ++ (trips (X.drop i) ++ rest), true⟩)) (fun i => X.length - i) 0 ?_ ?_
  · exact ⟨by omega, Mod.refl _ _ _, by simp, by simp, by simp, fun _ => rfl, by
      rcases hb with hc | hc
      · exact .inl hc
      · exact .inr (by simpa [tnums, trips_nil] using hc)⟩
  · rintro i σ h' ⟨hi', hmd, h0, h1, h5, he, hb⟩
    simp (disch := omega) [h0, h5]
    refine fork_dec (fun hlt => ?_) (fun hge => ?_)
    · have hlt : i < X.length := by omega
      have hne : X ≠ [] := by intro e; subst e; simp at hlt
      have hb := hb.resolve_left hne
      have hA : (trips (tnums k i)).length = 3 * i := by rw [trips_len, tnums_len]
      have hL := at_lt hb
      obtain ⟨T, hT⟩ : ∃ T, T = trips (X.drop (i + 1)) ++ rest := ⟨_, rfl⟩
      rw [List.drop_eq_getElem_cons hlt, trips_cons, List.cons_append, List.cons_append, List.cons_append, ← hT] at hb
      have s1 := store_one (v := I ((k : Int) + 3 * i)) (o := i * 3) hb (by rw [List.length_append, hA]; simp; omega)
      rw [set_end (by omega)] at s1
      have hb2 : (h'.set bb ⟨trips (tnums k i) ++ I ((k : Int) + 3 * i) :: I X[i].2.1 :: I X[i].2.2 :: T, true⟩)[bb]? = some ⟨trips (tnums k i) ++ I ((k : Int) + 3 * i) :: I X[i].2.1 :: I X[i].2.2 :: T, true⟩ := by simp [hL]
      have s2 := store_one (v := I ((k : Int) + 3 * i + 1)) (o := i * 3 + 1) hb2 (by rw [List.length_append, hA]; simp; omega)
      rw [show trips (tnums k i) ++ I ((k : Int) + 3 * i) :: I X[i].2.1 :: I X[i].2.2 :: T = (trips (tnums k i) ++ [I ((k : Int) + 3 * i)]) ++ I X[i].2.1 :: I X[i].2.2 :: T by simp, set_end (by simp; omega), List.set_set] at s2
      have hb3 : (h'.set bb ⟨(trips (tnums k i) ++ [I ((k : Int) + 3 * i)]) ++ I ((k : Int) + 3 * i + 1) :: I X[i].2.2 :: T, true⟩)[bb]? = some ⟨(trips (tnums k i) ++ [I ((k : Int) + 3 * i)]) ++ I ((k : Int) + 3 * i + 1) :: I X[i].2.2 :: T, true⟩ := by simp [hL]
      have s3 := store_one (v := I ((k : Int) + 3 * i + 2)) (o := i * 3 + 2) hb3 (by simp; omega)
      rw [show (trips (tnums k i) ++ [I ((k : Int) + 3 * i)]) ++ I ((k : Int) + 3 * i + 1) :: I X[i].2.2 :: T = (trips (tnums k i) ++ [I ((k : Int) + 3 * i), I ((k : Int) + 3 * i + 1)]) ++ I X[i].2.2 :: T by simp, set_end (by simp; omega), List.set_set] at s3
      rw [show trips (tnums k i) ++ I ((k : Int) + 3 * i) :: I X[i].2.1 :: I X[i].2.2 :: T = (trips (tnums k i) ++ [I ((k : Int) + 3 * i)]) ++ I X[i].2.1 :: I X[i].2.2 :: T by simp] at s1
      rw [show (trips (tnums k i) ++ [I ((k : Int) + 3 * i)]) ++ I ((k : Int) + 3 * i + 1) :: I X[i].2.2 :: T = (trips (tnums k i) ++ [I ((k : Int) + 3 * i), I ((k : Int) + 3 * i + 1)]) ++ I X[i].2.2 :: T by simp] at s2
      generalize hR1 : (trips (tnums k i) ++ [I ((k : Int) + 3 * i)]) ++ I X[i].2.1 :: I X[i].2.2 :: T = R1 at s1 s2
      generalize hR2 : (trips (tnums k i) ++ [I ((k : Int) + 3 * i), I ((k : Int) + 3 * i + 1)]) ++ I X[i].2.2 :: T = R2 at s2 s3
      have e1 : (k : Int) + 3 * i + 1 + 1 = (k : Int) + 3 * i + 2 := by omega
      simp (disch := omega) [h0, h1, h5, hlt, s1, wrap64]
      simp (disch := omega) [h0, h1, h5, hlt, s2, wrap64, e1]
      simp (disch := omega) [h0, h1, h5, hlt, s3, wrap64]
      refine ⟨i + 1, ⟨by omega, hmd.put (by omega) _, by omega, by omega, fun e => absurd e hne, .inr ?_⟩, by omega⟩
      rw [tnums_succ, hT]
      simp [trips_append, trips_cons, trips_nil, hL]
    · have e : i = X.length := by omega
      subst e
      simp (disch := omega) [h0, h1, h5]
      refine ⟨hmd, he, ?_⟩
      rcases hb with hb | hb
      · exact .inl hb
      · exact .inr (by simpa [trips_nil] using hb)
theorem VoJ.vr {h : Heap} {lo hi : Nat} {v : Value} {X : Jrn} (x : VoJ h lo hi v X) : Vr h shJournal v X := by
  obtain ⟨⟨W, H, br⟩, p, f⟩ := X
  obtain ⟨b1, z1, b2, z2, b3, z3, rest, rfl, hz1, i1, i2, i3, w1, w2, x1, x2, x3, y1, y2, y3⟩ := x
  simp only at hz1 i1 i2 i3 w1 w2 x1 x2 x3 y1 y2 y3
  refine Vr.of_journal w1 w2 (Vr.of_ints hz1 (by rw [maxLen_eq]; simp only; omega) x1 (i1.imp id fun e => cellsAt_all e.1 (by simp [ints])))
    (Vr.of_trips (i2.elim (fun e => .inr ⟨e.2, e.1⟩) fun e => .inl e.1) (by rw [maxLen_eq]; simp only; omega) x2 (i2.imp (fun e => e.1) fun e => ?_))
    (Vr.of_trips (i3.elim (fun e => .inr ⟨e.2, e.1⟩) fun e => .inl e.1) (by rw [maxLen_eq]; simp only; omega) x3 (i3.imp (fun e => e.1) fun e => cellsAt_all e.2.1 (by rw [trips_len]; omega)))
  rw [cellsAt_of e.2.1 (by simp [trips_len]; omega)]
  simp [trips_len, Nat.mul_comm]

theorem c283J (h : Heap) (lo hi : Nat) (v : Value) (X : Jrn) (k : Nat) (hv : VoJ h lo hi v X) (hk : k + cvd shJournal X ≤ 1099511627776) :
    ACall Gam 283 [v, I k] h fun r h' => r = I ((k + cvd shJournal X : Nat) : Int) ∧ Mod lo hi h h' ∧ VoJ h' lo hi v (mvd shJournal X k) := by
  obtain ⟨⟨W, H, br⟩, p, f⟩ := X
  obtain ⟨b1, z1, b2, z2, b3, z3, rest, rfl, hz1, i1, i2, i3, w1, w2, x1, x2, x3, y1, y2, y3⟩ := hv
  simp only at hz1 i1 i2 i3 w1 w2 x1 x2 x3 y1 y2 y3
  obtain ⟨l1, u1, v1, d1⟩ : ∃ l1 u1, Vo h l1 u1 shInts (sl b1 0 br.length z1) br ∧ (l1 = lo ∧ u1 = lo ∨ l1 = b1 ∧ u1 = b1 + 1 ∧ lo ≤ b1 ∧ b1 < hi ∧ b1 ≠ b2 ∧ b1 ≠ b3) := by
    rcases i1 with e | e
    · exact ⟨lo, lo, Vo.of_ints hz1 (by rw [maxLen_eq]; omega) x1 (.inl e), .inl ⟨rfl, rfl⟩⟩
    · exact ⟨b1, b1 + 1, Vo.of_ints hz1 (by rw [maxLen_eq]; omega) x1 (.inr ⟨e.1, by omega, by omega⟩), .inr ⟨rfl, rfl, e.2⟩⟩
  obtain ⟨l3, u3, v3, d3⟩ : ∃ l3 u3, Vo h l3 u3 shTrips (sl b3 0 f.length z3) f ∧ (l3 = lo ∧ u3 = lo ∧ f = [] ∨ l3 = b3 ∧ u3 = b3 + 1 ∧ lo ≤ b3 ∧ b3 < hi ∧ z3 = 3 ∧ f ≠ []) := by
    by_cases hfe : f = []
    · exact ⟨lo, lo, Vo.of_trips (i3.elim (fun e => .inr ⟨e.2, e.1⟩) fun e => .inl e.1) (by rw [maxLen_eq]; omega) x3 (.inl hfe), .inl ⟨rfl, rfl, hfe⟩⟩
    · have e := i3.resolve_left fun e => hfe e.1
      exact ⟨b3, b3 + 1, Vo.of_trips (.inl e.1) (by rw [maxLen_eq]; omega) x3 (.inr ⟨e.2.1, by omega, by omega⟩), .inr ⟨rfl, rfl, e.2.2.1, e.2.2.2, e.1, hfe⟩⟩
  rw [cvd_journal] at hk ⊢
  rw [mvd_journal]
  refine ACall_intro g283 rfl ?_
  unfold fn283
  simp (disch := omega)
  refine callW_of (c286 _ _ _ _ (W, H, br) k (Vo.of_panel w1 w2 v1) (by rw [cvd_panel]; omega)) ?_
  rintro v h1 ⟨rfl, m1, q1⟩
  rw [mvd_panel] at q1
  rw [cvd_panel]
  obtain ⟨s', e, _, _, q1⟩ := q1.panel
  obtain rfl : sl b1 0 br.length z1 = s' := by simpa using e
  obtain ⟨k1, e1⟩ : ∃ j, j = k + br.length := ⟨_, rfl⟩
  rw [← e1]
  have i2' : p = [] ∧ b2 = 0 ∨ z2 = 3 ∧ h1[b2]? = some ⟨trips p ++ rest, true⟩ ∧ lo ≤ b2 ∧ b2 < hi ∧ b2 ≠ b3 := i2.imp id fun e => ⟨e.1, by
    rw [m1.2 _ (at_lt e.2.1) (by omega)]; exact e.2.1, e.2.2⟩
  simp (disch := omega)
  refine callW_of (mark_rest (zz := z2) (rest := rest) (k := k1) y2 (i2'.imp (fun e => e.1) fun e => e.2.1) (by omega)) ?_
  rintro v h2 ⟨rfl, m2, he2, q2⟩
  obtain ⟨l2, u2, M2, d2⟩ : ∃ l2 u2, Mod l2 u2 h1 h2 ∧ (l2 = lo ∧ u2 = lo ∨ l2 = b2 ∧ u2 = b2 + 1 ∧ lo ≤ b2 ∧ b2 < hi ∧ b2 ≠ b3) := by
    by_cases e' : p = []
    · obtain rfl := he2 e'
      exact ⟨lo, lo, Mod.refl _ _ _, .inl ⟨rfl, rfl⟩⟩
    · have := i2'.resolve_left fun e => e' e.1
      exact ⟨b2, b2 + 1, m2, .inr ⟨rfl, rfl, this.2.2⟩⟩
  have i2n : p = [] ∧ b2 = 0 ∨ z2 = 3 ∧ h2[b2]? = some ⟨trips (tnums k1 p.length) ++ rest, true⟩ ∧ lo ≤ b2 ∧ b2 < hi ∧ b2 ≠ b3 := i2'.imp id fun e => ⟨e.1, by
    rcases q2 with e' | e'
    · obtain rfl := he2 e'
      have e2 := e.2.1
      rw [e'] at e2 ⊢
      simpa [tnums] using e2
    · exact e', e.2.2⟩
  obtain ⟨k2, e2⟩ : ∃ j, j = k1 + 3 * p.length := ⟨_, rfl⟩
  rw [← e2]
  simp (disch := omega)
  refine callW_of (c284 _ _ _ _ f k2 ((v3.mod m1 (by omega)).mod M2 (by omega)) (by rw [cvd_trips]; omega)) ?_
  rintro v h3 ⟨rfl, m3, q3⟩
  rw [mvd_trips] at q3
  rw [cvd_trips]
  have e3 : k2 + 3 * f.length = k + (br.length + (3 * p.length + 3 * f.length)) := by omega
  rw [e3]
  obtain ⟨k3, e4⟩ : ∃ j, j = k + (br.length + (3 * p.length + 3 * f.length)) := ⟨_, rfl⟩
  rw [← e4]
  simp (disch := omega)
  have W1 : Mod lo hi h h1 := ⟨m1.1, fun b hb hn => m1.2 b hb (by omega)⟩
  have W2 : Mod lo hi h1 h2 := ⟨M2.1, fun b hb hn => M2.2 b hb (by omega)⟩
  have W3 : Mod lo hi h2 h3 := ⟨m3.1, fun b hb hn => m3.2 b hb (by omega)⟩
  refine ⟨by omega, W1.trans (W2.trans W3), ?_⟩
  obtain ⟨c1, y1', ee, hz1', hm1, hx1, hc1⟩ := q1.ints
  simp only [Value.slice.injEq, Option.some.injEq, Addr.mk.injEq, and_true] at ee
  obtain ⟨⟨rfl, _⟩, en1, rfl⟩ := ee
  obtain ⟨c3, y3', ee, hz3', hm3, hx3, hc3⟩ := q3.trips
  simp only [Value.slice.injEq, Option.some.injEq, Addr.mk.injEq, and_true] at ee
  obtain ⟨⟨rfl, _⟩, en3, rfl⟩ := ee
  refine ⟨b1, z1, b2, z2, b3, z3, rest, ?_, hz1', ?_, ?_, ?_, ⟨w1, w2, hx1, tnums_64 (by omega), hx3, by simp only; omega, by simp only [tnums_len]; omega, by simp only [tnums_len]; omega⟩⟩
  · simp only [tnums_len, ← en1]
  · refine hc1.imp id fun e => ?_
    have hl := at_lt e.1
    have hl2 := M2.1
    exact ⟨by rw [m3.2 b1 (by omega) (by omega), M2.2 b1 hl (by omega)]; exact e.1, by omega, by omega, by omega, by omega⟩
  · refine i2n.imp (fun e => ⟨by rw [e.1]; rfl, e.2⟩) fun e => ?_
    have hl := at_lt e.2.1
    exact ⟨e.1, by rw [m3.2 b2 hl (by omega)]; exact e.2.1, e.2.2⟩
  · rcases d3 with e | e
    · obtain ⟨e1, e2, rfl⟩ := e
      refine i3.imp (fun e => ⟨rfl, e.2⟩) fun e => ?_
      have hl := at_lt e.2.1
      have hl1 := m1.1
      have hl2 := M2.1
      refine ⟨e.1, ?_, e.2.2⟩
      have hb2 : b3 < l2 ∨ u2 ≤ b3 := by omega
      rw [m3.2 b3 (by omega) (by omega), M2.2 b3 (by omega) hb2, m1.2 b3 hl (by omega)]; exact e.2.1
    · have hne : tnums k2 f.length ≠ [] := by
        intro e'
        have := congrArg List.length e'
        rw [tnums_len] at this
        exact e.2.2.2.2.2 (List.length_eq_zero_iff.1 this)
      have e' := hc3.resolve_left hne
      exact .inr ⟨e.2.2.2.2.1, e'.1, e.2.2.1, e.2.2.2.1⟩
end Am
/-! AmJ12 -/
set_option linter.unusedVariables false
set_option linter.unusedSimpArgs false
set_option maxHeartbeats 4000000
set_option maxRecDepth 4000
namespace Am
open Go

def undoJ (X : Jrn) : Jrn := match X.2.1.reverse with
  | [] => X
  | s :: r => ((X.1.1, X.1.2.1, X.1.2.2.set s.1.toNat s.2.1), r.reverse, s :: X.2.2)
def undoAns (X : Jrn) : Jrn × Int := if okJ X then (if X.2.1 = [] then (noJ, 6) else (undoJ X, 0)) else (noJ, 1)
theorem undoJ_len (X : Jrn) : (undoJ X).1.2.2.length = X.1.2.2.length ∧ (undoJ X).2.1.length + (undoJ X).2.2.length = X.2.1.length + X.2.2.length := by
  unfold undoJ
  split
  · exact ⟨rfl, rfl⟩
  · rename_i h
    have := congrArg List.length h
    simp at this
    simp; omega
theorem undo_siz (X : Jrn) : siz shJournal (undoAns X).1 ≤ 16777216 := by
  unfold undoAns
  split
  · rename_i h
    split
    · rw [noJ_siz]; omega
    · exact ok_siz h (undoJ_len X).1 (by have := (undoJ_len X).2; have := (JK.of h).n; simp only at *; omega)
  · rw [noJ_siz]; omega
theorem undo_step (f : Nat) (hf : f = 2 ∨ f = 564) (h : Heap) (lo jb : Nat) (X : Jrn) (rest : List Value) (hJ : JM h lo jb X rest) (hk : JK X) (hne : X.2.1 ≠ []) :
    ACall Gam f [pt jb 0] h fun _ h' => Mod lo h.length h h' ∧ ∃ rest, JM h' lo jb (undoJ X) rest := by
  obtain ⟨⟨W, H, br⟩, p, f'⟩ := X
  simp only at hne
  unfold undoJ
  simp only
  split
  · rename_i e; exact absurd (by simpa using e) hne
  rename_i s r e
  obtain rfl : p = r.reverse ++ [s] := by rw [← List.reverse_reverse p, e]; simp
  obtain ⟨a, x, y⟩ := s
  have k1 := hk.p (a, x, y) (by simp)
  have k2 := hk.n
  simp only [List.length_append, List.length_cons, List.length_nil] at k1 k2
  rcases hf with rfl | rfl
  · exact (c2 h lo jb W H br r.reverse f' a x y rest hJ k1.1 k1.2 (by omega) (by omega)).mono fun _ _ h => ⟨h.1, _, h.2⟩
  · exact (c564 h lo jb W H br r.reverse f' a x y rest hJ k1.1 k1.2 (by omega) (by omega)).mono fun _ _ h => ⟨h.1, _, h.2⟩

theorem c424 (h : Heap) (hp : 0 < h.length) (v0 : Value) (X0 : Jrn) (hv0 : Vr h shJournal v0 X0) (hs0 : siz shJournal X0 ≤ 1048576) :
    ACall Gam 424 [v0] h fun r h' => Grows h h' ∧ ∃ r0, r = .tuple #[r0, I (undoAns X0).2] ∧ VoJ h' h.length h'.length r0 (undoAns X0).1 ∧ siz shJournal (undoAns X0).1 ≤ 16777216 := by
  have hsz := undo_siz X0
  have wf := wf_vr hv0 hs0
  obtain ⟨⟨W, H, br⟩, p, f⟩ := X0
  obtain ⟨s, sp, sf, rfl, w1, w2, r1, r2, r3⟩ := hv0.journal
  refine ACall_intro g424 rfl ?_
  unfold fn424
  rw [awp_seq, awp_reg]
  generalize hK : seqQ Gam _ _ 0 = K
  simp (disch := omega)
  subst hK
  simp only [seqQ_zero]
  rw [awp_seq]
  generalize hK : seqQ Gam _ _ = K
  simp (disch := omega)
  obtain ⟨ha, eha⟩ : ∃ ha, ha = h ++ [⟨[I W, I H, s, sp, sf], true⟩] := ⟨_, rfl⟩
  rw [← eha]
  have ga : Grows h ha := ⟨_, eha⟩
  have la : ha.length = h.length + 1 := by rw [eha]; simp
  have ka : ha[h.length]? = some ⟨[I W, I H, s, sp, sf], true⟩ := by rw [eha]; simp
  have hj := PtJ.of ka (r1.grow ga) (r2.grow ga) (r3.grow ga) w1 w2
  obtain ⟨pb, po, pz, e3, hpm, _⟩ := trips_at r2
  rw [maxLen_eq] at hpm
  subst e3
  refine callW_of (c558 ha (pos_of hp ga) _ _ hj hs0) ?_
  rintro _ h1 ⟨g1, rfl⟩
  have G1 := ga.trans g1
  cases q : okJ ((W, H, br), p, f)
  · have e : undoAns ((W, H, br), p, f) = (noJ, 1) := by simp [undoAns, q]
    subst hK
    rw [e] at hsz ⊢
    simp (disch := omega) [resOf, resAll, resOne, aField]
    exact ⟨G1, VoJ.no, hsz⟩
  simp (disch := omega)
  subst hK
  simp only [seqQ_zero]
  rw [awp_seq]
  generalize hK : seqQ Gam _ _ = K
  have k4 : cell h1 h.length 3 = some (sl pb po p.length pz) := by
    refine g1.cell ?_
    unfold cell; rw [ka]; rfl
  simp (disch := omega) [k4]
  refine fork_dec (fun h3 => ?_) (fun h3 => ?_)
  · have h3 : p = [] := List.length_eq_zero_iff.1 (by simpa using h3)
    have e : undoAns ((W, H, br), p, f) = (noJ, 6) := by unfold undoAns; rw [q]; simp [h3]
    subst hK
    rw [e] at hsz ⊢
    simp (disch := omega) [resOf, resAll, resOne, aField]
    exact ⟨G1, VoJ.no, hsz⟩
  have hfe : p ≠ [] := by intro e; subst e; simp at h3
  have e : undoAns ((W, H, br), p, f) = (undoJ ((W, H, br), p, f), 0) := by unfold undoAns; rw [q]; simp [hfe]
  simp (disch := omega)
  subst hK
  rw [e] at hsz ⊢
  simp only [seqQ_zero]
  rw [awp_seq, awp_reg]
  generalize hK : seqQ Gam _ _ 0 = K
  simp (disch := omega)
  refine callW_of (c559 h1 (pos_of hp G1) _ _ (hj.grow g1) hs0) ?_
  rintro _ h2 x5
  obtain ⟨b1, z1, b2, z2, b3, z3, rfl, hJ⟩ := JM.own (pos_of hp G1) x5 wf
  have g2 := x5.1
  simp only at hJ
  have hsb : storeAt (h2 ++ [⟨[I 0, I 0, sl 0 0 0 0, sl 0 0 0 0, sl 0 0 0 0], true⟩]) h2.length 0 [I W, I H, sl b1 0 br.length z1, sl b2 0 p.length z2, sl b3 0 f.length z3] = some (h2 ++ [⟨[I W, I H, sl b1 0 br.length z1, sl b2 0 p.length z2, sl b3 0 f.length z3], true⟩]) := store_box rfl
  simp (disch := omega) [hsb]
  subst hK
  simp only [seqQ_zero]
  rw [awp_seq, awp_reg]
  generalize hK : seqQ Gam _ _ 0 = K
  simp (disch := omega)
  obtain ⟨h3, e3⟩ : ∃ h3, h3 = h2 ++ [⟨[I W, I H, sl b1 0 br.length z1, sl b2 0 p.length z2, sl b3 0 f.length z3], true⟩] := ⟨_, rfl⟩
  rw [← e3] at hJ ⊢
  have G3 : Grows h1 h3 := g2.trans ⟨_, e3⟩
  refine callW_of (undo_step 564 (.inr rfl) h3 h1.length h2.length _ [] hJ (JK.of q) hfe) ?_
  rintro _ h4 ⟨md, rest, hJ2⟩
  simp (disch := omega)
  subst hK
  simp only [seqQ_zero]
  have L1 := G1.le
  obtain ⟨cs, hk, hl, ov⟩ := hJ2.voj
  have cw : cellsAt h4 h2.length 0 5 = some cs := cellsAt_all hk hl.symm
  have G4 := md.grows G3 (Nat.le_refl _)
  simp (disch := omega) [cw, hl, resOf, resAll, resOne, aField]
  have et : cs.take 5 = cs := List.take_of_length_le (by omega)
  try rw [et]
  exact ⟨G1.trans G4, ov.wide L1 (Nat.le_refl _), hsz⟩

theorem c134 (h : Heap) (hp : 0 < h.length) (v0 : Value) (X0 : Jrn) (hv0 : Vr h shJournal v0 X0) (hs0 : siz shJournal X0 ≤ 1048576) :
    ACall Gam 134 [v0] h fun r h' => Grows h h' ∧ ∃ r0, r = .tuple #[r0, I (undoAns X0).2] ∧ VoJ h' h.length h'.length r0 (undoAns X0).1 ∧ siz shJournal (undoAns X0).1 ≤ 16777216 := by
  have hsz := undo_siz X0
  have wf := wf_vr hv0 hs0
  obtain ⟨⟨W, H, br⟩, p, f⟩ := X0
  obtain ⟨s, sp, sf, rfl, w1, w2, r1, r2, r3⟩ := hv0.journal
  refine ACall_intro g134 rfl ?_
  unfold fn134
  rw [awp_seq, awp_reg]
  generalize hK : seqQ Gam _ _ 0 = K
  simp (disch := omega)
  subst hK
  simp only [seqQ_zero]
  rw [awp_seq]
  generalize hK : seqQ Gam _ _ = K
  simp (disch := omega)
  have hv0' := hv0
  obtain ⟨pb, po, pz, e3, hpm, _⟩ := trips_at r2
  rw [maxLen_eq] at hpm
  subst e3
  refine callW_of (c138 h hp _ _ hv0' hs0) ?_
  rintro _ h1 ⟨G1, rfl⟩
  cases q : okJ ((W, H, br), p, f)
  · have e : undoAns ((W, H, br), p, f) = (noJ, 1) := by simp [undoAns, q]
    subst hK
    rw [e] at hsz ⊢
    simp (disch := omega) [resOf, resAll, resOne, aField]
    exact ⟨G1, VoJ.no, hsz⟩
  simp (disch := omega)
  subst hK
  simp only [seqQ_zero]
  rw [awp_seq]
  generalize hK : seqQ Gam _ _ = K
  simp (disch := omega)
  refine fork_dec (fun h3 => ?_) (fun h3 => ?_)
  · have h3 : p = [] := List.length_eq_zero_iff.1 (by simpa using h3)
    have e : undoAns ((W, H, br), p, f) = (noJ, 6) := by unfold undoAns; rw [q]; simp [h3]
    subst hK
    rw [e] at hsz ⊢
    simp (disch := omega) [resOf, resAll, resOne, aField]
    exact ⟨G1, VoJ.no, hsz⟩
  have hfe : p ≠ [] := by intro e; subst e; simp at h3
  have e : undoAns ((W, H, br), p, f) = (undoJ ((W, H, br), p, f), 0) := by unfold undoAns; rw [q]; simp [hfe]
  simp (disch := omega)
  subst hK
  rw [e] at hsz ⊢
  simp only [seqQ_zero]
  rw [awp_seq, awp_reg]
  generalize hK : seqQ Gam _ _ 0 = K
  simp (disch := omega)
  refine callW_of (c148 h1 (pos_of hp G1) _ _ (hv0'.grow G1) hs0) ?_
  rintro _ h2 x5
  obtain ⟨b1, z1, b2, z2, b3, z3, rfl, hJ⟩ := JM.own (pos_of hp G1) x5 wf
  have g2 := x5.1
  simp only at hJ
  have hsb : storeAt (h2 ++ [⟨[I 0, I 0, sl 0 0 0 0, sl 0 0 0 0, sl 0 0 0 0], true⟩]) h2.length 0 [I W, I H, sl b1 0 br.length z1, sl b2 0 p.length z2, sl b3 0 f.length z3] = some (h2 ++ [⟨[I W, I H, sl b1 0 br.length z1, sl b2 0 p.length z2, sl b3 0 f.length z3], true⟩]) := store_box rfl
  simp (disch := omega) [hsb]
  subst hK
  simp only [seqQ_zero]
  rw [awp_seq, awp_reg]
  generalize hK : seqQ Gam _ _ 0 = K
  simp (disch := omega)
  obtain ⟨h3, e3⟩ : ∃ h3, h3 = h2 ++ [⟨[I W, I H, sl b1 0 br.length z1, sl b2 0 p.length z2, sl b3 0 f.length z3], true⟩] := ⟨_, rfl⟩
  rw [← e3] at hJ ⊢
  have G3 : Grows h1 h3 := g2.trans ⟨_, e3⟩
  refine callW_of (undo_step 2 (.inl rfl) h3 h1.length h2.length _ [] hJ (JK.of q) hfe) ?_
  rintro _ h4 ⟨md, rest, hJ2⟩
  simp (disch := omega)
  subst hK
  simp only [seqQ_zero]
  have L1 := G1.le
  obtain ⟨cs, hk, hl, ov⟩ := hJ2.voj
  have cw : cellsAt h4 h2.length 0 5 = some cs := cellsAt_all hk hl.symm
  have G4 := md.grows G3 (Nat.le_refl _)
  simp (disch := omega) [cw, hl, resOf, resAll, resOne, aField]
  have et : cs.take 5 = cs := List.take_of_length_le (by omega)
  try rw [et]
  exact ⟨G1.trans G4, ov.wide L1 (Nat.le_refl _), hsz⟩
end Am
/-! AmJ13 -/
set_option linter.unusedVariables false
set_option linter.unusedSimpArgs false
set_option maxHeartbeats 4000000
set_option maxRecDepth 4000
namespace Am
open Go

def undoN : Nat → Jrn → Jrn
  | 0, X => X
  | k + 1, X => undoN k (undoJ X)
def redoN : Nat → Jrn → Jrn
  | 0, X => X
  | k + 1, X => redoN k (redoJ X)
def goJ (X : Jrn) (n : Nat) : Jrn := redoN (n - (undoN (X.2.1.length - n) X).2.1.length) (undoN (X.2.1.length - n) X)
def goAns (X : Jrn) (n : Int) : Jrn × Int := if okJ X then (if inR n 0 (X.2.1.length + X.2.2.length : Nat) then (goJ X n.toNat, 0) else (noJ, 2)) else (noJ, 1)
theorem JK.undo {X : Jrn} (h : JK X) : JK (undoJ X) := by
  obtain ⟨⟨W, H, br⟩, p, f⟩ := X
  obtain ⟨hp, hf, hn⟩ := h
  simp only at hp hf hn
  have hl := undoJ_len ((W, H, br), p, f)
  unfold undoJ at hl ⊢
  split at hl
  · exact ⟨hp, hf, hn⟩
  · rename_i s r e
    simp only at e hl ⊢
    have ep : p = r.reverse ++ [s] := by rw [← List.reverse_reverse p, e]; simp
    subst ep
    refine ⟨fun t ht => ?_, fun t ht => ?_, by simp only; omega⟩
    · simp only [List.length_set] at *
      exact hp t (by simp only [List.mem_append]; exact .inl ht)
    · simp only [List.length_set] at *
      rcases List.mem_cons.1 ht with rfl | ht
      · exact hp t (by simp)
      · exact hf t ht
theorem JK.redo {X : Jrn} (h : JK X) : JK (redoJ X) := by
  obtain ⟨⟨W, H, br⟩, p, f⟩ := X
  obtain ⟨hp, hf, hn⟩ := h
  simp only at hp hf hn
  cases f with
  | nil => exact ⟨hp, hf, hn⟩
  | cons s f =>
    unfold redoJ
    simp only
    refine ⟨fun t ht => ?_, fun t ht => ?_, by simp at hn ⊢; omega⟩
    · simp only [List.length_set] at *
      rcases List.mem_append.1 ht with ht | ht
      · exact hp t ht
      · simp at ht; subst ht; exact hf t (by simp)
    · simp only [List.length_set] at *
      exact hf t (by simp [ht])
theorem undoN_len (k : Nat) (X : Jrn) : (undoN k X).1.2.2.length = X.1.2.2.length ∧ (undoN k X).2.1.length + (undoN k X).2.2.length = X.2.1.length + X.2.2.length := by
  induction k generalizing X with
  | zero => exact ⟨rfl, rfl⟩
  | succ k ih => have := ih (undoJ X); have := undoJ_len X; simp only [undoN]; omega
theorem redoN_len (k : Nat) (X : Jrn) : (redoN k X).1.2.2.length = X.1.2.2.length ∧ (redoN k X).2.1.length + (redoN k X).2.2.length = X.2.1.length + X.2.2.length := by
  induction k generalizing X with
  | zero => exact ⟨rfl, rfl⟩
  | succ k ih => have := ih (redoJ X); have := redoJ_len X; simp only [redoN]; omega
theorem go_siz (X : Jrn) (n : Int) : siz shJournal (goAns X n).1 ≤ 16777216 := by
  unfold goAns
  split
  · rename_i h
    split
    · have hn := (JK.of h).n
      unfold goJ
      have h1 := undoN_len (X.2.1.length - n.toNat) X
      have h2 := redoN_len (n.toNat - (undoN (X.2.1.length - n.toNat) X).2.1.length) (undoN (X.2.1.length - n.toNat) X)
      exact ok_siz h (by simp only; omega) (by simp only; omega)
    · rw [noJ_siz]; omega
  · rw [noJ_siz]; omega
theorem undoJ_past {X : Jrn} (h : X.2.1 ≠ []) : (undoJ X).2.1.length = X.2.1.length - 1 := by
  unfold undoJ
  split
  · rename_i e; exact absurd (by simpa using e) h
  · rename_i e
    have := congrArg List.length e
    simp at this
    simp; omega
theorem redoJ_past {X : Jrn} (h : X.2.2 ≠ []) : (redoJ X).2.1.length = X.2.1.length + 1 := by
  unfold redoJ
  split
  · rename_i e; exact absurd e h
  · simp
/-- A journal of ours on the way to its goal. -/
def Way (lo jb n : Nat) (u : Bool) (Z : Jrn) (tot : Nat) (h : Heap) (m : Nat) : Prop := ∃ Y rest, JM h lo jb Y rest ∧ JK Y ∧ Y.2.1.length + Y.2.2.length = tot ∧ m = (if u then Y.2.1.length - n else n - Y.2.1.length) ∧ Z = if u then undoN m Y else redoN m Y

theorem c379 (h : Heap) (hp : 0 < h.length) (v0 : Value) (X0 : Jrn) (hv0 : Vr h shJournal v0 X0) (hs0 : siz shJournal X0 ≤ 1048576) (n : Int) (wn : I64 n) :
    ACall Gam 379 [v0, I n] h fun r h' => Grows h h' ∧ ∃ r0, r = .tuple #[r0, I (goAns X0 n).2] ∧ VoJ h' h.length h'.length r0 (goAns X0 n).1 ∧ siz shJournal (goAns X0 n).1 ≤ 16777216 := by
  have hsz := go_siz X0 n
  have wf := wf_vr hv0 hs0
  obtain ⟨⟨W, H, br⟩, p, f⟩ := X0
  obtain ⟨s, sp, sf, rfl, w1, w2, r1, r2, r3⟩ := hv0.journal
  refine ACall_intro g379 rfl ?_
  unfold fn379
  rw [awp_seq, awp_reg]
  generalize hK : seqQ Gam _ _ 0 = K
  simp (disch := omega)
  subst hK
  simp only [seqQ_zero]
  rw [awp_seq]
  generalize hK : seqQ Gam _ _ = K
  simp (disch := omega)
  obtain ⟨ha, eha⟩ : ∃ ha, ha = h ++ [⟨[I W, I H, s, sp, sf], true⟩] := ⟨_, rfl⟩
  rw [← eha]
  have ga : Grows h ha := ⟨_, eha⟩
  have la : ha.length = h.length + 1 := by rw [eha]; simp
  have ka : ha[h.length]? = some ⟨[I W, I H, s, sp, sf], true⟩ := by rw [eha]; simp
  have hj := PtJ.of ka (r1.grow ga) (r2.grow ga) (r3.grow ga) w1 w2
  obtain ⟨pb, po, pz, e3, hpm, _⟩ := trips_at r2
  rw [maxLen_eq] at hpm
  subst e3
  obtain ⟨fb, fo, fz, e3, hfm, _⟩ := trips_at r3
  rw [maxLen_eq] at hfm
  subst e3
  refine callW_of (c558 ha (pos_of hp ga) _ _ hj hs0) ?_
  rintro _ h1 ⟨g1, rfl⟩
  have G1 := ga.trans g1
  cases q : okJ ((W, H, br), p, f)
  · have e : goAns ((W, H, br), p, f) n = (noJ, 1) := by unfold goAns; rw [q]; simp
    subst hK
    rw [e] at hsz ⊢
    simp (disch := omega) [resOf, resAll, resOne, aField]
    exact ⟨G1, VoJ.no, hsz⟩
  have hK50 := (JK.of q).n
  simp only at hK50
  simp (disch := omega)
  subst hK
  simp only [seqQ_zero]
  rw [awp_seq]
  generalize hK : seqQ Gam _ _ = K
  have k3 : cell h1 h.length 3 = some (sl pb po p.length pz) := by
    refine g1.cell ?_
    unfold cell; rw [ka]; rfl
  have k4 : cell h1 h.length 4 = some (sl fb fo f.length fz) := by
    refine g1.cell ?_
    unfold cell; rw [ka]; rfl
  simp (disch := omega) [k3, k4, wrap64]
  refine callW_of (c432 n 0 ((p.length : Int) + f.length) h1) ?_
  rintro _ h1' ⟨rfl, rfl⟩
  have en : ((p.length + f.length : Nat) : Int) = (p.length : Int) + f.length := by omega
  cases q1 : inR n 0 ((p.length : Int) + f.length)
  · have e : goAns ((W, H, br), p, f) n = (noJ, 2) := by unfold goAns; rw [q]; simp only [en, q1]; rfl
    subst hK
    rw [e] at hsz ⊢
    simp (disch := omega) [resOf, resAll, resOne, aField]
    exact ⟨G1, VoJ.no, hsz⟩
  have e : goAns ((W, H, br), p, f) n = (goJ ((W, H, br), p, f) n.toNat, 0) := by unfold goAns; rw [q]; simp only [en, q1]; rfl
  rw [inR_iff] at q1
  simp (disch := omega)
  subst hK
  rw [e] at hsz ⊢
  obtain ⟨nn, rfl⟩ := Int.eq_ofNat_of_zero_le q1.1
  rw [Int.toNat_natCast] at hsz ⊢
  simp only [seqQ_zero]
  rw [awp_seq, awp_reg]
  generalize hK : seqQ Gam _ _ 0 = K
  simp (disch := omega)
  refine callW_of (c559 h1' (pos_of hp G1) _ _ (hj.grow g1) hs0) ?_
  rintro _ h2 x5
  obtain ⟨b1, z1, b2, z2, b3, z3, rfl, hJ⟩ := JM.own (pos_of hp G1) x5 wf
  have g2 := x5.1
  simp only at hJ
  have hsb : storeAt (h2 ++ [⟨[I 0, I 0, sl 0 0 0 0, sl 0 0 0 0, sl 0 0 0 0], true⟩]) h2.length 0 [I W, I H, sl b1 0 br.length z1, sl b2 0 p.length z2, sl b3 0 f.length z3] = some (h2 ++ [⟨[I W, I H, sl b1 0 br.length z1, sl b2 0 p.length z2, sl b3 0 f.length z3], true⟩]) := store_box rfl
  simp (disch := omega) [hsb]
  subst hK
  simp only [seqQ_zero]
  obtain ⟨h3, e3⟩ : ∃ h3, h3 = h2 ++ [⟨[I W, I H, sl b1 0 br.length z1, sl b2 0 p.length z2, sl b3 0 f.length z3], true⟩] := ⟨_, rfl⟩
  rw [← e3] at hJ ⊢
  have G3 : Grows h1' h3 := g2.trans ⟨_, e3⟩
  generalize hjb : h2.length = jb at *
  rw [awp_seq]
  generalize hK : seqQ Gam _ _ = K
  have hlo : h1'.length ≤ h3.length := G3.le
  have J0 : Way h1'.length jb nn true (undoN (p.length - nn) ((W, H, br), p, f)) (p.length + f.length) h3 (p.length - nn) := ⟨_, _, hJ, JK.of q, rfl, rfl, rfl⟩
  simp (disch := omega)
  refine awp_loop (fun (m : Nat) σ h' => Grows h1' h' ∧ σ 1 = I nn ∧ σ 6 = pt jb 0 ∧ σ 4 = .agg #[I 0, I 0, sl 0 0 0 0, sl 0 0 0 0, sl 0 0 0 0] ∧ Way h1'.length jb nn true (undoN (p.length - nn) ((W, H, br), p, f)) (p.length + f.length) h' m) (fun m => m) (p.length - nn) ?_ ?_
  · exact ⟨G3, by simp, by simp, by simp, J0⟩
  · rintro m σ h' ⟨g', q1', q6, q4, Y, rest, JY, KY, hT, hm, hZ⟩
    obtain ⟨b1, z1, b2, z2, b3, z3, hx⟩ := JY
    have JY : JM h' h1'.length jb Y rest := ⟨b1, z1, b2, z2, b3, z3, hx⟩
    have hx : JMx h' h1'.length jb Y rest b1 z1 b2 z2 b3 z3 := hx
    have k3 := hx.cells.2.1
    have hn := KY.n
    simp (disch := omega) [q6, q1', k3]
    refine fork_dec (fun hlt => ?_) (fun hge => ?_)
    · have hlt : (nn : Int) < Y.2.1.length := by first | exact hlt | omega
      have hne : Y.2.1 ≠ [] := by intro e; rw [e] at hlt; simp at hlt
      simp (disch := omega) [q6, q1', k3]
      refine callW_of (undo_step 564 (.inr rfl) h' _ jb Y rest JY KY hne) ?_
      rintro _ h5 ⟨md, rest', J5⟩
      have G5 := md.grows g' (Nat.le_refl _)
      simp (disch := omega) [q6, q1', q4]
      refine ⟨m - 1, ⟨G5, _, rest', J5, KY.undo, ?_, ?_, ?_⟩, ?_⟩
      · have := (undoJ_len Y).2; omega
      · rw [undoJ_past hne]; simp at hm ⊢; omega
      · obtain ⟨m', rfl⟩ : ∃ m', m = m' + 1 := ⟨m - 1, by simp at hm; omega⟩
        simpa [undoN] using hZ
      · simp at hm; omega
    · simp (disch := omega) [q6, q1', k3]
      have hm0 : m = 0 := by simp at hm; omega
      subst hm0
      have hge : Y.2.1.length ≤ nn := by omega
      have eZ : undoN (p.length - nn) ((W, H, br), p, f) = Y := by simpa [undoN] using hZ
      have eG : goJ ((W, H, br), p, f) nn = redoN (nn - Y.2.1.length) Y := by unfold goJ; simp only [eZ]
      subst hK
      rw [eG] at hsz ⊢
      obtain ⟨Z, hZ2⟩ : ∃ Z, Z = redoN (nn - Y.2.1.length) Y := ⟨_, rfl⟩
      rw [← hZ2] at hsz ⊢
      have J1 : Way h1'.length jb nn false Z (p.length + f.length) h' (nn - Y.2.1.length) := ⟨Y, rest, JY, KY, hT, rfl, hZ2⟩
      generalize hm1 : nn - Y.2.1.length = m1 at J1
      simp only [seqQ_zero]
      rw [awp_seq]
      generalize hK : seqQ Gam _ _ = K
      simp (disch := omega)
      refine awp_loop (fun (m : Nat) σ h' => Grows h1' h' ∧ σ 1 = I nn ∧ σ 6 = pt jb 0 ∧ σ 4 = .agg #[I 0, I 0, sl 0 0 0 0, sl 0 0 0 0, sl 0 0 0 0] ∧ Way h1'.length jb nn false Z (p.length + f.length) h' m) (fun m => m) m1 ?_ ?_
      · exact ⟨g', by simpa using q1', by simpa using q6, by simpa using q4, J1⟩
      · clear J1 hZ2 JY hx k3 KY
        rintro m σ h' ⟨g', q1', q6, q4, Y, rest, JY, KY, hT, hm, hZ⟩
        obtain ⟨b1, z1, b2, z2, b3, z3, hx⟩ := JY
        have JY : JM h' h1'.length jb Y rest := ⟨b1, z1, b2, z2, b3, z3, hx⟩
        have hx : JMx h' h1'.length jb Y rest b1 z1 b2 z2 b3 z3 := hx
        have k3 := hx.cells.2.1
        have hn := KY.n
        simp (disch := omega) [q6, q1', k3]
        refine fork_dec (fun hlt => ?_) (fun hge => ?_)
        · have hlt : (Y.2.1.length : Int) < nn := by first | exact hlt | omega
          have hne : Y.2.2 ≠ [] := by intro e; rw [e] at hT; simp at hT; omega
          simp (disch := omega) [q6, q1', k3]
          refine callW_of (redo_step 560 (.inr rfl) h' _ jb Y rest JY KY hne) ?_
          rintro _ h5 ⟨md, J5⟩
          have G5 := md.grows g' (Nat.le_refl _)
          simp (disch := omega) [q6, q1', q4]
          refine ⟨m - 1, ⟨G5, _, _, J5, KY.redo, ?_, ?_, ?_⟩, ?_⟩
          · have := (redoJ_len Y).2; omega
          · rw [redoJ_past hne]; simp at hm ⊢; omega
          · obtain ⟨m', rfl⟩ : ∃ m', m = m' + 1 := ⟨m - 1, by simp at hm; omega⟩
            simpa [redoN] using hZ
          · simp at hm; omega
        · simp (disch := omega) [q6, q1', k3]
          have hm0 : m = 0 := by simp at hm; omega
          subst hm0
          have eZ : Z = Y := by simpa [redoN] using hZ
          subst eZ
          subst hK
          simp only [seqQ_zero]
          have L1 := G1.le
          obtain ⟨cs, hk, hl, ov⟩ := JY.voj
          have cw : cellsAt h' jb 0 5 = some cs := cellsAt_all hk hl.symm
          simp (disch := omega) [cw, hl, q6, q4, resOf, resAll, resOne, aField]
          have et : cs.take 5 = cs := List.take_of_length_le (by omega)
          try rw [et]
          exact ⟨G1.trans g', ov.wide L1 (Nat.le_refl _), hsz⟩
end Am

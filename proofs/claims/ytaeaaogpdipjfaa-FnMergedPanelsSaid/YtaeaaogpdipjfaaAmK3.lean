/- Contracts: AmP6, AmP9, AmP10, AmP11, AmP12, AmP13. -/
import Derived.Test.YtaeaaogpdipjfaaAmK2
/-! AmP6 -/
set_option linter.unusedVariables false
set_option linter.unusedSimpArgs false
set_option maxHeartbeats 4000000
namespace Am
open Go

def mpre (o a b : List Int) (n : Nat) : List Int := (List.range n).map fun i => if at0 b i = at0 o i then at0 a i else at0 b i
theorem mpre_succ (o a b : List Int) (n : Nat) : mpre o a b (n + 1) = mpre o a b n ++ [if at0 b n = at0 o n then at0 a n else at0 b n] := by simp [mpre, List.range_succ]
theorem mpre_len (o a b : List Int) (n : Nat) : (mpre o a b n).length = n := by simp [mpre]
theorem mpre_64 {o a b : List Int} (ha : ∀ x ∈ a, I64 x) (hb : ∀ x ∈ b, I64 x) {n : Nat} : ∀ x ∈ mpre o a b n, I64 x := by
  intro x hx
  obtain ⟨i, hi, rfl⟩ := List.mem_map.1 hx
  split
  · exact at0wide ha i
  · exact at0wide hb i
def mergeCode (X0 X1 X2 : Pan) : Int := if (clashAns X0 X1 X2).2 = 0 then (if (clashAns X0 X1 X2).1 = [] then 0 else 9) else (clashAns X0 X1 X2).2
def mergeAns (X0 X1 X2 : Pan) : Pan × Int := (if mergeCode X0 X1 X2 = 0 then (X1.1, X1.2.1, mpre X0.2.2 X1.2.2 X2.2.2 X0.2.2.length) else (0, 0, []), mergeCode X0 X1 X2)
theorem merge_siz (X Y Z : Pan) (hs : X.2.2.length ≤ 1048576) : siz shPanel (mergeAns X Y Z).1 ≤ 16777216 := by
  unfold mergeAns
  simp only
  split
  · rw [siz_panel, mpre_len]; omega
  · rw [siz_panel]; simp
theorem Vo.no_panel {h : Heap} {lo hi : Nat} : Vo h lo hi shPanel (.agg #[I 0, I 0, sl 0 0 0 0]) ((0, 0, []) : Pan) := Vo.of_panel (by unfold I64; omega) (by unfold I64; omega) Vo.no_ints
theorem mergeCode_zero {X Y Z : Pan} (h : mergeCode X Y Z = 0) : clashCode X Y Z = 0 ∧ cpre X.2.2 Y.2.2 Z.2.2 X.2.2.length = [] := by
  unfold mergeCode clashAns at h
  simp only at h
  split at h
  · rename_i h1
    split at h
    · rename_i h2; exact ⟨h1, h2⟩
    · cases h
  · rename_i h1; exact absurd h h1

/-- The step of the loop that merges: one number of the copy is turned or not. -/
theorem merge_turn {h : Heap} {bb k : Nat} {o a b : List Int} (hb : h[bb]? = some ⟨ints (mpre o a b k ++ a.drop k), true⟩) (hk : k < a.length) (hne : ¬ at0 b k = at0 o k) :
    storeAt h bb k [I (at0 b k)] = some (h.set bb ⟨ints (mpre o a b (k + 1) ++ a.drop (k + 1)), true⟩) := by
  have hA : (ints (mpre o a b k)).length = k := by simp [ints, mpre_len]
  have hst := store_one (v := I (at0 b k)) (o := k) hb (by simp [ints, mpre_len]; omega)
  rw [List.drop_eq_getElem_cons hk, ints_append, ints_cons, set_end hA.symm] at hst
  rw [hst, mpre_succ, if_neg hne]
  simp [ints_append, ints_cons, ints_nil]
theorem merge_keep {o a b : List Int} {k : Nat} (hk : k < a.length) (he : at0 b k = at0 o k) : mpre o a b (k + 1) ++ a.drop (k + 1) = mpre o a b k ++ a.drop k := by
  rw [mpre_succ, if_pos he, List.drop_eq_getElem_cons hk, at0_of hk]; simp

theorem c391 (h : Heap) (hp : 0 < h.length) (v0 : Value) (X0 : Pan) (hv0 : Vr h shPanel v0 X0) (hs0 : siz shPanel X0 ≤ 1048576) (v1 : Value) (X1 : Pan) (hv1 : Vr h shPanel v1 X1) (hs1 : siz shPanel X1 ≤ 1048576) (v2 : Value) (X2 : Pan) (hv2 : Vr h shPanel v2 X2) (hs2 : siz shPanel X2 ≤ 1048576) :
    ACall Gam 391 [v0, v1, v2] h fun r h' => Grows h h' ∧ ∃ r0, r = .tuple #[r0, I (mergeAns X0 X1 X2).2] ∧ Vo h' h.length h'.length shPanel r0 (mergeAns X0 X1 X2).1 ∧ siz shPanel (mergeAns X0 X1 X2).1 ≤ 16777216 := by
  obtain ⟨W0, H0, o⟩ := X0
  obtain ⟨W1, H1, a⟩ := X1
  obtain ⟨W2, H2, b⟩ := X2
  rw [siz_panel] at hs0 hs1 hs2
  have hsz := merge_siz (W0, H0, o) (W1, H1, a) (W2, H2, b) hs0
  obtain ⟨s0, rfl, w0, x0, r0⟩ := hv0.panel
  obtain ⟨s1, rfl, w1, x1, r1⟩ := hv1.panel
  obtain ⟨s2, rfl, w2, x2, r2⟩ := hv2.panel
  refine ACall_intro g391 rfl ?_
  unfold fn391
  simp (disch := omega) [aBuildSlice]
  obtain ⟨hh, ehh⟩ : ∃ hh, hh = h ++ [⟨[I W0, I H0, s0], true⟩, ⟨[I W1, I H1, s1], true⟩, ⟨[I W2, I H2, s2], true⟩, ⟨[pt h.length 0, pt (h.length + 1) 0, pt (h.length + 2) 0], true⟩] := ⟨_, rfl⟩
  rw [← ehh]
  obtain ⟨G, p0, p1, p2, k0, k1, k2⟩ := boxes3 ehh r0 r1 r2 w0 x0 w1 x1 w2 x2
  have k3 : hh[h.length + 3]? = some ⟨[pt h.length 0, pt (h.length + 1) 0, pt (h.length + 2) 0], true⟩ := by rw [ehh, List.getElem?_append_right (by omega)]; simp
  refine callW_of (c552 hh (h.length + 3) 0 [pt h.length 0, pt (h.length + 1) 0, pt (h.length + 2) 0] [(W0, H0, o), (W1, H1, a), (W2, H2, b)] (by simp) (by simp) rfl (by rw [cellsAt_of k3 (by simp)]; simp) (fun i hi => by
    have : i = 0 ∨ i = 1 ∨ i = 2 := by simp at hi; omega
    rcases this with rfl | rfl | rfl
    · exact ⟨_, rfl, p0⟩
    · exact ⟨_, rfl, p1⟩
    · exact ⟨_, rfl, p2⟩)) ?_
  rintro _ h1 ⟨rfl, rfl⟩
  rw [sizes3]
  by_cases hz : clashCode (W0, H0, o) (W1, H1, a) (W2, H2, b) = 0
  rotate_left
  · have eM : mergeAns (W0, H0, o) (W1, H1, a) (W2, H2, b) = ((0, 0, []), clashCode (W0, H0, o) (W1, H1, a) (W2, H2, b)) := by simp [mergeAns, mergeCode, clashAns, hz]
    rw [eM] at hsz ⊢
    generalize hc : clashCode (W0, H0, o) (W1, H1, a) (W2, H2, b) = c at *
    simp (disch := omega) [hz, resOf, resAll, resOne, aField]
    exact ⟨G, Vo.no_panel, hsz⟩
  · obtain ⟨ok0, ok1, ok2, sm1, sm2⟩ := clashCode_zero hz
    have hl1 : o.length = a.length := same_len ok0 ok1 sm1
    have hl2 : o.length = b.length := same_len ok0 ok2 sm2
    rw [hz]
    simp (disch := omega)
    refine callW_of (c548 h1 (pos_of hp G) _ _ _ _ _ _ p0 p1 p2 hs0 hl1 hl2) ?_
    rintro r h2 ⟨g2, ho⟩
    refine ⟨fun _ => g2, ?_⟩
    obtain ⟨bb0, zz0, e, _⟩ := ho.ints
    subst e
    simp (disch := omega)
    by_cases hcl : cpre o a b o.length = []
    rotate_left
    · have eM : mergeAns (W0, H0, o) (W1, H1, a) (W2, H2, b) = ((0, 0, []), 9) := by simp [mergeAns, mergeCode, clashAns, hz, hcl]
      rw [eM] at hsz ⊢
      have : 0 < (cpre o a b o.length).length := List.length_pos_iff.2 hcl
      refine fork_dec (fun _ => ?_) (fun hn => ?_)
      · simp (disch := omega) [resOf, resAll, resOne, aField]
        exact ⟨G.trans g2, Vo.no_panel, hsz⟩
      · exact absurd this (by simpa using hn)
    · have eM : mergeAns (W0, H0, o) (W1, H1, a) (W2, H2, b) = ((W1, H1, mpre o a b o.length), 0) := by simp [mergeAns, mergeCode, clashAns, hz, hcl]
      rw [eM] at hsz ⊢
      rw [hcl]
      simp (disch := omega)
      refine callW_of (c453 h2 _ _ (pos_of hp (G.trans g2)) (p1.grow g2) hs1) ?_
      rintro r h3 ⟨g3, ho3⟩
      obtain ⟨so, rfl, _, _, ho4⟩ := ho3.panel
      obtain ⟨bb, zz, rfl, hzz, hmm, hxx, hcc⟩ := ho4.ints
      have G3 := (G.trans g2).trans g3
      obtain ⟨b0, o0, z0, rfl, _, hm0, hx0, hc0⟩ := r0.ints
      obtain ⟨b2, o2, z2, rfl, _, hm2, hx2, hc2⟩ := r2.ints
      have cx0 : cell h3 h.length 2 = some (sl b0 o0 o.length z0) := (g2.trans g3).cell (by simp [cell, k0])
      have cx2 : cell h3 (h.length + 2) 2 = some (sl b2 o2 b.length z2) := (g2.trans g3).cell (by simp [cell, k2])
      simp (disch := omega)
      refine awp_loop (fun k σ h' => k ≤ o.length ∧ Grows h2 h' ∧ h3.length ≤ h'.length ∧ σ 3 = pt h.length 0 ∧ σ 5 = pt (h.length + 2) 0 ∧ σ 6 = .agg #[I 0, I 0, sl 0 0 0 0] ∧ σ 9 = .agg #[I W1, I H1, sl bb 0 a.length zz] ∧ σ 10 = I k ∧ (a = [] ∨ h'[bb]? = some ⟨ints (mpre o a b k ++ a.drop k), true⟩)) (fun k => o.length - k) 0 ?_ ?_
      · refine ⟨by omega, g3, Nat.le_refl _, by simp, by simp, by simp, by simp, by simp, ?_⟩
        rcases hcc with e | e
        · exact .inl e
        · exact .inr (by simpa [mpre] using e.1)
      · rintro k σ h' ⟨hk, hg, hlen, t3, t5, t6, t9, t10, hb⟩
        have d0 : cell h' h.length 2 = some (sl b0 o0 o.length z0) := hg.cell (g2.cell (by simp [cell, k0]))
        have d2 : cell h' (h.length + 2) 2 = some (sl b2 o2 b.length z2) := hg.cell (g2.cell (by simp [cell, k2]))
        simp (disch := omega) [t3, t10, d0]
        refine fork_dec (fun hlt => ?_) (fun hge => ?_)
        · have l0 : k < o.length := by omega
          have l1 : k < a.length := by omega
          have l2 : k < b.length := by omega
          have hne : a ≠ [] := by intro e; subst e; simp at l1
          have hb := hb.resolve_left hne
          have hcc := hcc.resolve_left hne
          have c0 := ints_cell (hc0.imp id (grows_cellsAt ((G.trans g2).trans hg))) l0
          have c2 := ints_cell (hc2.imp id (grows_cellsAt ((G.trans g2).trans hg))) l2
          rw [← at0_of l0] at c0
          rw [← at0_of l2] at c2
          simp (disch := omega) [t3, t5, t9, t10, d0, d2, l0, l2, c0, c2]
          refine fork_dec (fun he => ?_) (fun he => ?_)
          · simp (disch := omega) [t3, t5, t6, t9, t10, wrap64]
            exact ⟨k + 1, ⟨by omega, hg, hlen, by omega, .inr (by rw [merge_keep l1 he]; exact (List.getElem?_eq_some_iff.1 hb).2)⟩, by omega⟩
          · have hst := merge_turn hb l1 he
            simp (disch := omega) [t3, t5, t6, t9, t10, d0, d2, l0, l1, l2, c0, c2, hst, wrap64]
            exact ⟨k + 1, ⟨by omega, hg.put hcc.2.1 _, hlen, by omega, .inr rfl⟩, by omega⟩
        · have : k = o.length := by omega
          subst this
          simp (disch := omega) [t3, t5, t6, t9, t10, resOf, resAll, resOne, aField]
          refine ⟨(G.trans g2).trans hg, Vo.of_panel w1 x1 ?_, hsz⟩
          have e1 : a.drop o.length = [] := by rw [hl1]; simp
          have hv := Vo.of_ints (h := h') (b := bb) (lo := h.length) (hi := h'.length) (z := zz) (X := mpre o a b o.length) (by
            rcases hzz with e | ⟨e, e'⟩
            · exact .inl e
            · exact .inr ⟨e, by rw [hl1, e']; rfl⟩) (by rw [mpre_len, maxLen_eq]; omega) (mpre_64 hxx hx2) (by
            rcases hb with e | e
            · subst e; exact .inl (by rw [hl1]; rfl)
            · by_cases ha : a = []
              · exact .inl (by rw [hl1, ha]; rfl)
              · have hcc := hcc.resolve_left ha
                refine .inr ⟨by simpa [e1] using e, ?_, at_lt e⟩
                have := (G.trans g2).le
                omega)
          rw [mpre_len, hl1] at hv
          rw [← hl1] at hv ⊢
          exact hv

theorem c98 (h : Heap) (hp : 0 < h.length) (v0 : Value) (X0 : Pan) (hv0 : Vr h shPanel v0 X0) (hs0 : siz shPanel X0 ≤ 1048576) (v1 : Value) (X1 : Pan) (hv1 : Vr h shPanel v1 X1) (hs1 : siz shPanel X1 ≤ 1048576) (v2 : Value) (X2 : Pan) (hv2 : Vr h shPanel v2 X2) (hs2 : siz shPanel X2 ≤ 1048576) :
    ACall Gam 98 [v0, v1, v2] h fun r h' => Grows h h' ∧ ∃ r0, r = .tuple #[r0, I (mergeAns X0 X1 X2).2] ∧ Vo h' h.length h'.length shPanel r0 (mergeAns X0 X1 X2).1 ∧ siz shPanel (mergeAns X0 X1 X2).1 ≤ 16777216 := by
  obtain ⟨W0, H0, o⟩ := X0
  obtain ⟨W1, H1, a⟩ := X1
  obtain ⟨W2, H2, b⟩ := X2
  have hs0' := hs0
  have hs1' := hs1
  have hs2' := hs2
  rw [siz_panel] at hs0 hs1 hs2
  have hsz := merge_siz (W0, H0, o) (W1, H1, a) (W2, H2, b) hs0
  have hv0' := hv0
  have hv1' := hv1
  have hv2' := hv2
  obtain ⟨s0, rfl, w0, x0, r0⟩ := hv0.panel
  obtain ⟨s1, rfl, w1, x1, r1⟩ := hv1.panel
  obtain ⟨s2, rfl, w2, x2, r2⟩ := hv2.panel
  refine ACall_intro g98 rfl ?_
  unfold fn98
  simp (disch := omega)
  refine callW_of (c65 h hp _ _ hv0' hs0' _ _ hv1' hs1' _ _ hv2' hs2') ?_
  rintro _ h2 ⟨g2, rr, rfl, ho, hsz2⟩
  obtain ⟨bb0, zz0, e, _⟩ := ho.ints
  subst e
  by_cases hz : clashCode (W0, H0, o) (W1, H1, a) (W2, H2, b) = 0
  rotate_left
  · have eM : mergeAns (W0, H0, o) (W1, H1, a) (W2, H2, b) = ((0, 0, []), clashCode (W0, H0, o) (W1, H1, a) (W2, H2, b)) := by simp [mergeAns, mergeCode, clashAns, hz]
    have eC : clashAns (W0, H0, o) (W1, H1, a) (W2, H2, b) = ([], clashCode (W0, H0, o) (W1, H1, a) (W2, H2, b)) := by simp [clashAns, hz]
    rw [eM] at hsz ⊢
    rw [eC]
    generalize hc : clashCode (W0, H0, o) (W1, H1, a) (W2, H2, b) = c at *
    simp (disch := omega) [hz, resOf, resAll, resOne, aField]
    exact ⟨g2, Vo.no_panel, hsz⟩
  · obtain ⟨ok0, ok1, ok2, sm1, sm2⟩ := clashCode_zero hz
    have hl1 : o.length = a.length := same_len ok0 ok1 sm1
    have hl2 : o.length = b.length := same_len ok0 ok2 sm2
    have eC : clashAns (W0, H0, o) (W1, H1, a) (W2, H2, b) = (cpre o a b o.length, 0) := by simp [clashAns, hz]
    rw [eC]
    simp (disch := omega)
    by_cases hcl : cpre o a b o.length = []
    rotate_left
    · have eM : mergeAns (W0, H0, o) (W1, H1, a) (W2, H2, b) = ((0, 0, []), 9) := by simp [mergeAns, mergeCode, clashAns, hz, hcl]
      rw [eM] at hsz ⊢
      have : 0 < (cpre o a b o.length).length := List.length_pos_iff.2 hcl
      refine fork_dec (fun _ => ?_) (fun hn => ?_)
      · simp (disch := omega) [resOf, resAll, resOne, aField]
        exact ⟨g2, Vo.no_panel, hsz⟩
      · exact absurd this (by simpa using hn)
    · have eM : mergeAns (W0, H0, o) (W1, H1, a) (W2, H2, b) = ((W1, H1, mpre o a b o.length), 0) := by simp [mergeAns, mergeCode, clashAns, hz, hcl]
      rw [eM] at hsz ⊢
      rw [hcl]
      simp (disch := omega)
      refine callW_of (c150 h2 _ _ (pos_of hp g2) (hv1'.grow g2) hs1) ?_
      rintro r h3 ⟨g3, ho3⟩
      obtain ⟨so, rfl, _, _, ho4⟩ := ho3.panel
      obtain ⟨bb, zz, rfl, hzz, hmm, hxx, hcc⟩ := ho4.ints
      obtain ⟨b0, o0, z0, rfl, _, hm0, hx0, hc0⟩ := r0.ints
      obtain ⟨b2, o2, z2, rfl, _, hm2, hx2, hc2⟩ := r2.ints
      simp (disch := omega)
      refine awp_loop (fun k σ h' => k ≤ o.length ∧ Grows h2 h' ∧ h3.length ≤ h'.length ∧ σ 3 = .agg #[I W0, I H0, sl b0 o0 o.length z0] ∧ σ 6 = .agg #[I 0, I 0, sl 0 0 0 0] ∧ σ 10 = .agg #[I W1, I H1, sl bb 0 a.length zz] ∧ σ 31 = sl b2 o2 b.length z2 ∧ σ 32 = I b.length ∧ σ 33 = I k ∧ (a = [] ∨ h'[bb]? = some ⟨ints (mpre o a b k ++ a.drop k), true⟩)) (fun k => o.length - k) 0 ?_ ?_
      · refine ⟨by omega, g3, Nat.le_refl _, by simp, by simp, by simp, by simp, by simp, by simp, ?_⟩
        rcases hcc with e | e
        · exact .inl e
        · exact .inr (by simpa [mpre] using e.1)
      · rintro k σ h' ⟨hk, hg, hlen, t3, t6, t10, t31, t32, t33, hb⟩
        simp (disch := omega) [t32, t33]
        refine fork_dec (fun hlt => ?_) (fun hge => ?_)
        · have l0 : k < o.length := by omega
          have l1 : k < a.length := by omega
          have l2 : k < b.length := by omega
          have hne : a ≠ [] := by intro e; subst e; simp at l1
          have hb := hb.resolve_left hne
          have hcc := hcc.resolve_left hne
          have c0 := ints_cell (hc0.imp id (grows_cellsAt (g2.trans hg))) l0
          have c2 := ints_cell (hc2.imp id (grows_cellsAt (g2.trans hg))) l2
          rw [← at0_of l0] at c0
          rw [← at0_of l2] at c2
          simp (disch := omega) [t3, t10, t31, t32, t33, l0, l2, c0, c2]
          refine fork_dec (fun he => ?_) (fun he => ?_)
          · simp (disch := omega) [t3, t6, t10, t31, t32, t33, wrap64]
            exact ⟨k + 1, ⟨by omega, hg, hlen, by omega, .inr (by rw [merge_keep l1 he]; exact (List.getElem?_eq_some_iff.1 hb).2)⟩, by omega⟩
          · have hst := merge_turn hb l1 he
            simp (disch := omega) [t3, t6, t10, t31, t32, t33, l0, l1, l2, c0, c2, hst, wrap64]
            exact ⟨k + 1, ⟨by omega, hg.put hcc.2.1 _, hlen, by omega, .inr rfl⟩, by omega⟩
        · have : k = o.length := by omega
          subst this
          simp (disch := omega) [t3, t6, t10, t31, t32, t33, resOf, resAll, resOne, aField]
          refine ⟨g2.trans hg, Vo.of_panel w1 x1 ?_, hsz⟩
          have e1 : a.drop o.length = [] := by rw [hl1]; simp
          have hv := Vo.of_ints (h := h') (b := bb) (lo := h.length) (hi := h'.length) (z := zz) (X := mpre o a b o.length) (by
            rcases hzz with e | ⟨e, e'⟩
            · exact .inl e
            · exact .inr ⟨e, by rw [hl1, e']; rfl⟩) (by rw [mpre_len, maxLen_eq]; omega) (mpre_64 hxx hx2) (by
            rcases hb with e | e
            · subst e; exact .inl (by rw [hl1]; rfl)
            · by_cases ha : a = []
              · exact .inl (by rw [hl1, ha]; rfl)
              · have hcc := hcc.resolve_left ha
                refine .inr ⟨by simpa [e1] using e, ?_, at_lt e⟩
                have := g2.le
                omega)
          rw [mpre_len, hl1] at hv
          rw [← hl1] at hv ⊢
          exact hv
end Am
/-! AmP9 -/
set_option linter.unusedVariables false
set_option linter.unusedSimpArgs false
set_option maxHeartbeats 4000000
set_option maxRecDepth 4000
namespace Am
open Go

/-! ### numbers written one by one -/
def fillB (f : Nat → Int) (P : Nat → Bool) (n : Nat) : List Int := (List.range n).map fun j => if P j then f j else 0
theorem fillB_len (f : Nat → Int) (P : Nat → Bool) (n : Nat) : (fillB f P n).length = n := by simp [fillB]
theorem fillB_set {f : Nat → Int} {P P' : Nat → Bool} {n k : Nat} (h : ∀ j, j < n → P' j = (P j || j == k)) : (fillB f P n).set k (f k) = fillB f P' n := by
  apply List.ext_getElem
  · simp [fillB]
  · intro i h1 h2
    simp [fillB] at h1 h2 ⊢
    rw [List.getElem_set]
    simp only [List.getElem_map, List.getElem_range]
    have := h i h2
    by_cases e : k = i
    · subst e; simp [this]
    · have e' : ¬ i = k := fun h => e h.symm
      simp [e, this, e']
theorem fillB_none (f : Nat → Int) (P : Nat → Bool) (n : Nat) (h : ∀ j, j < n → P j = false) : fillB f P n = List.replicate n 0 := by
  apply List.ext_getElem
  · simp [fillB]
  · intro i h1 h2
    simp [fillB] at h1 ⊢
    simp [h i h1]
theorem fillB_all (f : Nat → Int) (P : Nat → Bool) (n : Nat) (h : ∀ j, j < n → P j = true) : fillB f P n = (List.range n).map f := by
  apply List.map_congr_left
  intro i hi
  simp [h i (List.mem_range.1 hi)]
theorem fillB_same {f : Nat → Int} {P P' : Nat → Bool} {n : Nat} (h : ∀ j, j < n → P j = P' j) : fillB f P n = fillB f P' n := by
  apply List.map_congr_left
  intro i hi
  rw [h i (List.mem_range.1 hi)]
theorem store_fill {h : Heap} {b k n : Nat} {f : Nat → Int} {P P' : Nat → Bool} {v : Int} (hb : h[b]? = some ⟨ints (fillB f P n), true⟩) (hk : k < n) (hv : v = f k) (hp : ∀ j, j < n → P' j = (P j || j == k)) :
    storeAt h b k [I v] = some (h.set b ⟨ints (fillB f P' n), true⟩) := by
  rw [store_one hb (by simp [ints, fillB_len]; exact hk), ← fillB_set hp, hv]
  simp [ints, List.map_set]

/-! ### the bytes -/
def bn (s : List UInt8) (i : Nat) : Nat := (s.getD i 0).toNat
def dv (x j : Nat) : Nat := x / 3 ^ j
def brk (s : List UInt8) (k : Nat) : Nat := dv (bn s (3 + k / 5)) (4 - k % 5) % 3
def unB (s : List UInt8) (n : Nat) : List Int := (List.range n).map fun k => ((brk s k : Nat) : Int)
def unP (s : List UInt8) : Pan := (bn s 1, bn s 2, unB s (inner (bn s 1) (bn s 2)).toNat)
def lenOk (s : List UInt8) : Bool := decide (5 ≤ s.length) && (okSz (bn s 1) (bn s 2) && decide ((s.length : Int) = packSize (bn s 1) (bn s 2)))
def unOk (s : List UInt8) : Bool := lenOk s && decide (packP (unP s) = s)
def sumOk (s : List UInt8) : Bool := decide (checksum (s.take (s.length - 2)) = 256 * (bn s (s.length - 2) : Int) + bn s (s.length - 1))
def fault (s : List UInt8) : Int := if s.length < 5 ∨ bn s 0 ≠ 77 ∨ okSz (bn s 1) (bn s 2) = false then 1 else if (s.length : Int) ≠ packSize (bn s 1) (bn s 2) then 2 else if sumOk s = false then 3 else if packP (unP s) ≠ s then 4 else 0

/-! ### the program's -/
def unRes (s : List UInt8) : Pan := if lenOk s then unP s else (0, 0, [])
def unAns (s : List UInt8) : Pan × Int := if unOk s then (unP s, 0) else ((0, 0, []), 8)
theorem Vo.zero_panel {h : Heap} {lo hi : Nat} : Vo h lo hi shPanel (.agg #[I 0, I 0, sl 0 0 0 0]) ((0, 0, []) : Pan) := Vo.of_panel (by unfold I64; omega) (by unfold I64; omega) (Vo.of_ints (X := []) (.inr ⟨rfl, rfl⟩) (by simp) (by simp) (.inl rfl))
end Am
/-! AmP10 -/
set_option linter.unusedVariables false
set_option linter.unusedSimpArgs false
set_option maxHeartbeats 4000000
set_option maxRecDepth 4000
namespace Am
open Go

theorem store_box {h : Heap} {cs xs : List Value} (hl : xs.length = cs.length) : storeAt (h ++ [⟨cs, true⟩]) h.length 0 xs = some (h ++ [⟨xs, true⟩]) := by
  unfold storeAt
  simp [hl]
theorem PtP.at {h : Heap} {b : Nat} {W H : Int} {s : Value} {br : List Int} {r : Bool} (hb : h[b]? = some ⟨[I W, I H, s], r⟩) (hs : Vr h shInts s br) (hW : I64 W) (hH : I64 H) : PtP h (pt b 0) (W, H, br) :=
  ⟨b, 0, s, rfl, by simp [Am.cell, hb], by simp [Am.cell, hb], by simp [Am.cell, hb], hs, hW, hH⟩
end Am
/-! AmP11 -/
set_option linter.unusedVariables false
set_option linter.unusedSimpArgs false
set_option maxHeartbeats 4000000
set_option maxRecDepth 4000
namespace Am
open Go

/-- How many inner points lie above row y. -/
def rowN (W : Nat) : Nat → Nat
  | 0 => 0
  | y + 1 => rowN W y + if y = 0 then 0 else W - y % 2
theorem rowN_succ {W y : Nat} (h : 1 ≤ y) : rowN W (y + 1) = rowN W y + (W - y % 2) := by
  simp only [rowN]; rw [if_neg (by omega)]
theorem rowN_mono {W : Nat} : ∀ {y z : Nat}, y ≤ z → rowN W y ≤ rowN W z := by
  intro y z h
  induction z with
  | zero => have : y = 0 := by omega
            subst this; exact Nat.le_refl _
  | succ z ih =>
    by_cases e : y = z + 1
    · subst e; exact Nat.le_refl _
    · have := ih (by omega)
      simp only [rowN]; omega
theorem rowN_le : ∀ {W : Nat}, W < 9 → ∀ {y : Nat}, y < 17 → rowN W y ≤ 128 := by decide +kernel
theorem rowN_end : ∀ {W : Nat}, W < 9 → ∀ {H : Nat}, H < 9 → 1 ≤ W → 1 ≤ H → (rowN W (2 * H) : Int) = (W : Int) * (H - 1) + H * (W - 1) := by decide +kernel
theorem rowN_form : ∀ {W : Nat}, W < 9 → ∀ {y : Nat}, y < 17 → 1 ≤ W → 1 ≤ y → ((y / 2 : Nat) : Int) * ((W : Int) - 1) + ((y - 1) / 2 : Nat) * (W : Int) = rowN W y := by decide +kernel

/-- The number of a point. -/
def numP (W x y : Nat) : Nat := rowN W y + (x - 1) / 2
structure IsPt (W H k x y : Nat) : Prop where
  y1 : 1 ≤ y
  y2 : y < 2 * H
  lo : rowN W y ≤ k
  hi : k < rowN W (y + 1)
  x : x = 2 * (k - rowN W y) + 1 + y % 2
theorem IsPt.uniq {W H k x y x' y' : Nat} (a : IsPt W H k x y) (b : IsPt W H k x' y') : x = x' ∧ y = y' := by
  have e : y = y' := by
    rcases Nat.lt_trichotomy y y' with h | h | h
    · have := rowN_mono (W := W) (show y + 1 ≤ y' by omega)
      have := a.hi; have := b.lo; omega
    · exact h
    · have := rowN_mono (W := W) (show y' + 1 ≤ y by omega)
      have := b.hi; have := a.lo; omega
  subst e
  exact ⟨by rw [a.x, b.x], rfl⟩
theorem IsPt.bd {W H k x y : Nat} (a : IsPt W H k x y) : 1 ≤ x ∧ x < 2 * W ∧ (x + y) % 2 = 1 := by
  have h1 := a.x; have h2 := a.lo; have h3 := a.hi; have h4 := a.y1
  rw [rowN_succ h4] at h3
  omega
theorem numP_lt {W H x y : Nat} (hx : 1 ≤ x ∧ x < 2 * W) (hy : 1 ≤ y ∧ y < 2 * H) (hp : (x + y) % 2 = 1) : numP W x y < rowN W (2 * H) := by
  have h1 := rowN_mono (W := W) (show y + 1 ≤ 2 * H by omega)
  rw [rowN_succ hy.1] at h1
  unfold numP; omega

theorem c455 (h : Heap) (v : Value) (X : Pan) (W y : Nat) (hv : PtP h v X) (hW : X.1 = W) (w1 : 1 ≤ W) (w8 : W < 9) (hy1 : 1 ≤ y) (hy : y < 17) : ACall Gam 455 [v, I y] h fun r h' => r = I (rowN W y) ∧ h' = h := by
  obtain ⟨b, o, s, rfl, h1, _⟩ := hv
  rw [hW] at h1
  refine ACall_intro g455 rfl ?_
  unfold fn455
  simp (disch := omega)
  refine awp_loop (fun (k : Nat) σ h' => h' = h ∧ 1 ≤ k ∧ k ≤ y ∧ σ 0 = pt b o ∧ σ 1 = I y ∧ σ 5 = I (rowN W k) ∧ σ 6 = I k) (fun k => y - k) 1 ?_ ?_
  · refine ⟨rfl, Nat.le_refl _, hy1, by simp, by simp, by simp [rowN], by simp⟩
  · rintro k σ h' ⟨rfl, hk1, hk, q0, q1, q5, q6⟩
    simp (disch := omega) [q1, q6]
    refine fork_dec (fun hlt => ?_) (fun hge => ?_)
    · have hb := rowN_le w8 (y := k) (by omega)
      have hs := rowN_succ (W := W) hk1
      simp (disch := omega) [q0, q5, q6, h1, wrap64, tmod_pos]
      refine fork_dec (fun ho => ?_) (fun ho => ?_)
      · simp (disch := omega) [q0, q1, q5, q6, wrap64]
        exact ⟨k + 1, ⟨by omega, by omega, by omega, by omega⟩, by omega⟩
      · simp (disch := omega) [q0, q1, q5, q6, wrap64]
        exact ⟨k + 1, ⟨by omega, by omega, by omega, by omega⟩, by omega⟩
    · have : k = y := by omega
      subst this
      simp (disch := omega) [q5]

theorem c451 (h : Heap) (v : Value) (X : Pan) (W x y : Nat) (hv : PtP h v X) (hW : X.1 = W) (w1 : 1 ≤ W) (w8 : W < 9) (hx : 1 ≤ x ∧ x < 17) (hy : 1 ≤ y ∧ y < 17) : ACall Gam 451 [v, .agg #[I x, I y]] h fun r h' => r = I (numP W x y) ∧ h' = h := by
  refine ACall_intro g451 rfl ?_
  unfold fn451
  have hb := rowN_le w8 (y := y) (by omega)
  simp (disch := omega)
  refine callW_of (c455 h v X W y hv hW w1 w8 hy.1 hy.2) ?_
  rintro _ h' ⟨rfl, rfl⟩
  simp (disch := omega) [wrap64, tdiv_pos]
  simp [numP]; omega

theorem c454 (h : Heap) (v : Value) (X : Pan) (W H k : Nat) (hv : PtP h v X) (hW : X.1 = W) (hH : X.2.1 = H) (w1 : 1 ≤ W) (w8 : W < 9) (h1 : 1 ≤ H) (h8 : H < 9) (hk : k < rowN W (2 * H)) : ACall Gam 454 [v, I k] h fun r h' => (∃ x y, IsPt W H k x y ∧ r = .agg #[I x, I y]) ∧ h' = h := by
  have hv0 := hv
  obtain ⟨b, o, s, rfl, _, h2, _⟩ := hv
  rw [hH] at h2
  have hk128 : k < 128 := by have := rowN_le w8 (y := 2 * H) (by omega); omega
  refine ACall_intro g454 rfl ?_
  unfold fn454
  simp (disch := omega)
  refine awp_loop (fun (y : Nat) σ h' => h' = h ∧ 1 ≤ y ∧ y < 2 * H ∧ rowN W y ≤ k ∧ σ 0 = pt b o ∧ σ 1 = I k ∧ σ 4 = .agg #[I 0, I 0] ∧ σ 5 = I y) (fun y => 2 * H - y) 1 ?_ ?_
  · refine ⟨rfl, by omega, by omega, by simp [rowN], by simp, by simp, by simp, by simp⟩
  · rintro y σ h' ⟨rfl, hy1, hy2, hlo, q0, q1, q4, q5⟩
    have fin : k < rowN W (y + 1) → ACall Gam 455 [pt b o, I y] h' (fun r h'' => r = I (rowN W y) ∧ h'' = h') ∧ IsPt W H k (2 * (k - rowN W y) + 1 + y % 2) y := fun hhi =>
      ⟨c455 h' _ X W y hv0 hW w1 w8 hy1 (by omega), ⟨hy1, hy2, hlo, hhi, rfl⟩⟩
    simp (disch := omega) [q0, q5, h2, wrap64]
    refine fork_dec (fun hlt => ?_) (fun hge => ?_)
    · have hlt' : y + 1 < 2 * H := by omega
      simp (disch := omega) [q0, q1, q5, h2, hlt, wrap64]
      have hc := c455 h' _ X W (y + 1) hv0 hW w1 w8 (by omega) (by omega)
      rw [show ((y + 1 : Nat) : Int) = (y : Int) + 1 by omega] at hc
      refine callW_of hc ?_
      rintro _ h' ⟨rfl, rfl⟩
      simp (disch := omega) [q1, hlt]
      refine fork_dec (fun hle => ?_) (fun hle => ?_)
      · simp (disch := omega) [q0, q1, q4, q5, wrap64]
        exact ⟨y + 1, ⟨by omega, by omega, by omega, by omega⟩, by omega⟩
      · obtain ⟨f1, f2⟩ := fin (by omega)
        simp (disch := omega) [q0, q1, q4, q5]
        refine callW_of f1 ?_
        rintro _ h' ⟨rfl, rfl⟩
        simp (disch := omega) [q0, q1, q4, q5, wrap64, tmod_pos, resOf_box, aField]
        refine ⟨_, y, f2, ?_, rfl⟩
        omega
    · have hye : y + 1 = 2 * H := by omega
      obtain ⟨f1, f2⟩ := fin (by rw [hye]; exact hk)
      simp (disch := omega) [q0, q1, q4, q5, hge]
      refine callW_of f1 ?_
      rintro _ h' ⟨rfl, rfl⟩
      simp (disch := omega) [q0, q1, q4, q5, wrap64, tmod_pos, resOf_box, aField]
      refine ⟨_, y, f2, ?_, rfl⟩
      omega

theorem c40v (h : Heap) (W H x y a W1 p y1 b q r c d e : Int) (s : Value) (h1 : IntKind.i64.wrap (y.tdiv 2) = a) (h2 : IntKind.i64.wrap (W - 1) = W1) (h3 : IntKind.i64.wrap (a * W1) = p) (h4 : IntKind.i64.wrap (y - 1) = y1) (h5 : IntKind.i64.wrap (y1.tdiv 2) = b) (h6 : IntKind.i64.wrap (b * W) = q)
    (h7 : IntKind.i64.wrap (p + q) = r) (h8 : IntKind.i64.wrap (x.tdiv 2) = c) (h9 : IntKind.i64.wrap (r + c) = d) (h10 : IntKind.i64.wrap (d - 1) = e) : ACall Gam 40 [.agg #[I W, I H, s], .agg #[I x, I y]] h fun v h' => v = I (if y.tmod 2 = 1 then e else d) ∧ h' = h := by
  refine ACall_intro g40 rfl ?_
  unfold fn40
  simp only []
  rw [awp_seq, awp_reg]
  generalize hK : seqQ Gam _ _ 0 = K
  simp
  subst hK
  simp only [seqQ_zero]
  rw [awp_seq, awp_reg]
  generalize hK : seqQ Gam _ _ 0 = K
  simp [h1, h2, h3, h4, h5, h6, h7]
  subst hK
  simp
  refine fork_dec (fun ho => ?_) (fun ho => ?_)
  · simp [h8, h9, h10, ho]
  · simp [h8, h9, h10, ho]
theorem c40 (h : Heap) (W H x y : Nat) (s : Value) (w1 : 1 ≤ W) (w8 : W < 9) (hx : 1 ≤ x ∧ x < 17) (hy : 1 ≤ y ∧ y < 17) (hp : (x + y) % 2 = 1) : ACall Gam 40 [.agg #[I W, I H, s], .agg #[I x, I y]] h fun r h' => r = I (numP W x y) ∧ h' = h := by
  have hb := rowN_le w8 (y := y) (by omega)
  have hf := rowN_form w8 (y := y) (by omega) w1 hy.1
  have e1 : (y : Int) / 2 = ((y / 2 : Nat) : Int) := by omega
  have e2 : ((y : Int) - 1) / 2 = (((y - 1) / 2 : Nat) : Int) := by omega
  have hf' : (y : Int) / 2 * ((W : Int) - 1) + ((y : Int) - 1) / 2 * (W : Int) = rowN W y := by rw [e1, e2]; exact hf
  have b1 : 0 ≤ (y : Int) / 2 * ((W : Int) - 1) := Int.mul_nonneg (by omega) (by omega)
  have b2 : 0 ≤ ((y : Int) - 1) / 2 * (W : Int) := Int.mul_nonneg (by omega) (by omega)
  have hrow : (rowN W y : Int) ≤ 128 := by omega
  have u0 : IntKind.i64.wrap ((W : Int) - 1) = (W : Int) - 1 := wrap64 (by omega) (by omega)
  have u1 : IntKind.i64.wrap ((y : Int) - 1) = (y : Int) - 1 := wrap64 (by omega) (by omega)
  have u2 : IntKind.i64.wrap ((y : Int) / 2) = (y : Int) / 2 := wrap64 (by omega) (by omega)
  have u3 : IntKind.i64.wrap (((y : Int) - 1) / 2) = ((y : Int) - 1) / 2 := wrap64 (by omega) (by omega)
  have u4 : IntKind.i64.wrap ((x : Int) / 2) = (x : Int) / 2 := wrap64 (by omega) (by omega)
  have u5 : IntKind.i64.wrap (IntKind.i64.wrap ((y : Int) / 2 * ((W : Int) - 1)) + IntKind.i64.wrap (((y : Int) - 1) / 2 * (W : Int))) = rowN W y := by
    rw [wrap64 (n := (y : Int) / 2 * ((W : Int) - 1)) (by omega) (by omega), wrap64 (n := ((y : Int) - 1) / 2 * (W : Int)) (by omega) (by omega), hf', wrap64 (by omega) (by omega)]
  have t1 : (y : Int).tdiv 2 = (y : Int) / 2 := tdiv_pos (by omega)
  have t2 : ((y : Int) - 1).tdiv 2 = ((y : Int) - 1) / 2 := tdiv_pos (by omega)
  have t3 : (x : Int).tdiv 2 = (x : Int) / 2 := tdiv_pos (by omega)
  have t4 : (y : Int).tmod 2 = (y : Int) % 2 := tmod_pos (by omega)
  refine (c40v h W H x y _ _ _ _ _ _ _ _ _ _ s rfl rfl rfl rfl rfl rfl rfl rfl rfl rfl).mono ?_
  rintro r h' ⟨rfl, rfl⟩
  rw [t1, t3, t4, u2, u0, u1, t2, u3, u5, u4]
  refine ⟨?_, rfl⟩
  split
  · rw [wrap64 (n := (rowN W y : Int) + (x : Int) / 2) (by omega) (by omega), wrap64 (by omega) (by omega)]
    simp [numP]; omega
  · rw [wrap64 (by omega) (by omega)]
    simp [numP]; omega
end Am
/-! AmP12 -/
set_option linter.unusedVariables false
set_option linter.unusedSimpArgs false
set_option maxHeartbeats 4000000
set_option maxRecDepth 4000
namespace Am
open Go

theorem c188 (h : Heap) (x y X Y : Int) (hx : 0 ≤ x ∧ x ≤ 100) (hy : 0 ≤ y ∧ y ≤ 100) (hX : 0 ≤ X ∧ X ≤ 100) (hY : 0 ≤ Y ∧ Y ≤ 100) : ACall Gam 188 [.agg #[I x, I y], I X, I Y] h fun r h' => r = .agg #[I (x + 2 * X), I (y + 2 * Y)] ∧ h' = h := by
  refine ACall_intro g188 rfl ?_
  unfold fn188
  simp (disch := omega) [wrap64, resOf_box, aField]

/-! ### where a part lies -/
def hasPart (P : Pan) (x y w h : Int) : Bool := inR w 1 P.1 && (inR h 1 P.2.1 && (inR x 0 (P.1 - w) && inR y 0 (P.2.1 - h)))
theorem hasPart_iff {P : Pan} {x y w h : Int} : hasPart P x y w h = true ↔ (1 ≤ w ∧ w ≤ P.1) ∧ (1 ≤ h ∧ h ≤ P.2.1) ∧ (0 ≤ x ∧ x ≤ P.1 - w) ∧ 0 ≤ y ∧ y ≤ P.2.1 - h := by
  simp [hasPart, inR_iff]
theorem c549 (hh : Heap) (v : Value) (P : Pan) (x y w h : Int) (hv : PtP hh v P) (ok : OkP P) : ACall Gam 549 [v, I x, I y, I w, I h] hh fun r h' => r = B (hasPart P x y w h) ∧ h' = hh := by
  obtain ⟨W, H, br⟩ := P
  obtain ⟨b, o, s, rfl, h1, h2, _⟩ := hv
  obtain ⟨qW, qH, _, _⟩ := ok
  simp only at h1 h2 qW qH
  refine ACall_intro g549 rfl ?_
  unfold fn549
  simp (disch := omega) [h1, h2]
  refine callW_of (c432 w 1 W hh) ?_
  rintro _ h' ⟨rfl, rfl⟩
  cases q1 : inR w 1 W
  · simp [hasPart, q1]
  simp (disch := omega) [h1, h2]
  refine callW_of (c432 h 1 H h') ?_
  rintro _ h' ⟨rfl, rfl⟩
  cases q2 : inR h 1 H
  · simp [hasPart, q1, q2]
  have i1 := inR_iff.1 q1
  have i2 := inR_iff.1 q2
  simp (disch := omega) [h1, h2, wrap64]
  refine callW_of (c432 x 0 (W - w) h') ?_
  rintro _ h' ⟨rfl, rfl⟩
  cases q3 : inR x 0 (W - w)
  · simp [hasPart, q1, q2, q3]
  simp (disch := omega) [h1, h2, wrap64]
  refine callW_of (c432 y 0 (H - h) h') ?_
  rintro _ h' ⟨rfl, rfl⟩
  simp [hasPart, q1, q2, q3]
theorem c33 (hh : Heap) (v : Value) (P : Pan) (x y w h : Int) (hv : Vr hh shPanel v P) (ok : OkP P) : ACall Gam 33 [v, I x, I y, I w, I h] hh fun r h' => r = B (hasPart P x y w h) ∧ h' = hh := by
  obtain ⟨W, H, br⟩ := P
  obtain ⟨s, rfl, _⟩ := hv.panel
  obtain ⟨qW, qH, _, _⟩ := ok
  simp only at qW qH
  refine ACall_intro g33 rfl ?_
  unfold fn33
  simp (disch := omega)
  refine callW_of (c164 w 1 W hh) ?_
  rintro _ h' ⟨rfl, rfl⟩
  cases q1 : inR w 1 W
  · simp [hasPart, q1]
  simp (disch := omega)
  refine callW_of (c164 h 1 H h') ?_
  rintro _ h' ⟨rfl, rfl⟩
  cases q2 : inR h 1 H
  · simp [hasPart, q1, q2]
  have i1 := inR_iff.1 q1
  have i2 := inR_iff.1 q2
  simp (disch := omega) [wrap64]
  refine callW_of (c164 x 0 (W - w) h') ?_
  rintro _ h' ⟨rfl, rfl⟩
  cases q3 : inR x 0 (W - w)
  · simp [hasPart, q1, q2, q3]
  simp (disch := omega) [wrap64]
  refine callW_of (c164 y 0 (H - h) h') ?_
  rintro _ h' ⟨rfl, rfl⟩
  simp [hasPart, q1, q2, q3]

/-! ### all points, in order -/
def pairV (p : Nat × Nat) : List Value := [I p.1, I p.2]
def pairsV (l : List (Nat × Nat)) : List Value := (l.map pairV).flatten
theorem pairsV_append (a b : List (Nat × Nat)) : pairsV (a ++ b) = pairsV a ++ pairsV b := by simp [pairsV]
theorem pairsV_len : ∀ l : List (Nat × Nat), (pairsV l).length = 2 * l.length
  | [] => rfl
  | a :: l => by
    have := pairsV_len l
    simp only [pairsV, List.map_cons, List.flatten_cons, List.length_append, List.length_cons] at this ⊢
    simp only [pairV, List.length_cons, List.length_nil] at this ⊢
    omega
theorem append_pair {h h' : Heap} {v : Value} {l : List (Nat × Nat)} {x y : Nat} {K : Value → Heap → Prop} (hp : 0 < h.length) (hl : l.length ≤ 1048576) (hg : Grows h h') (hv : Buf h h' v 2 (pairsV l))
    (hK : ∀ v' h'', Grows h h'' → Buf h h'' v' 2 (pairsV (l ++ [(x, y)])) → K v' h'') :
    bindW (aBuildSlice 2 1 h' [(0, .agg #[I 0, I 0]), (2, .agg #[I x, I y])]) fun y h'' => bindW (aAppend 2 h'' y v) K := by
  have e : aBuildSlice 2 1 h' [(0, .agg #[I 0, I 0]), (2, .agg #[I x, I y])] = some (sl h'.length 0 1 2, h' ++ [⟨[I x, I y], true⟩]) := by simp [aBuildSlice]
  rw [e]
  simp only [bindW_some]
  refine append_buf hp (hg.push _) (hv.grow ⟨_, rfl⟩) (new := [I x, I y]) ?_ (by omega) (by simp) (by simp) (by rw [pairsV_len]; simp [maxSize]; omega) ?_
  · simp [newCells]
    rw [cellsAt_of (k := ⟨[I x, I y], true⟩) (by simp) (by simp)]
    simp
  · intro v' h'' g1 b1 k1
    refine hK v' h'' g1 (by rw [pairsV_append]; exact b1)
theorem pairs_get : ∀ (l : List (Nat × Nat)) (k : Nat) (hk : k < l.length), ((pairsV l).drop (k * 2)).take 2 = pairV l[k]
  | a :: l, 0, _ => by simp [pairsV, pairV]
  | a :: l, k + 1, hk => by
    have := pairs_get l k (by simpa using hk)
    simp only [pairsV, List.map_cons, List.flatten_cons] at this ⊢
    rw [List.drop_append, List.drop_eq_nil_of_le (by simp [pairV]; omega)]
    simp only [pairV, List.length_cons, List.length_nil, List.nil_append] at this ⊢
    rw [show (k + 1) * 2 - (0 + 1 + 1) = k * 2 by omega]
    simpa using this

/-- The first m points, in order. -/
def PtsOk (W H : Nat) (l : List (Nat × Nat)) : Prop := ∀ k (hk : k < l.length), IsPt W H k l[k].1 l[k].2
theorem c49 (h : Heap) (W H : Nat) (s : Value) (hp : 0 < h.length) (w1 : 1 ≤ W) (w8 : W < 9) (h1 : 1 ≤ H) (h8 : H < 9) : ACall Gam 49 [.agg #[I W, I H, s]] h fun r h' => Grows h h' ∧ ∃ l, PtsOk W H l ∧ l.length = rowN W (2 * H) ∧ Buf h h' r 2 (pairsV l) := by
  refine ACall_intro g49 rfl ?_
  unfold fn49
  simp (disch := omega)
  refine awp_loop (fun (y : Nat) σ h' => 1 ≤ y ∧ y ≤ 2 * H ∧ Grows h h' ∧ σ 1 = .agg #[I W, I H, s] ∧ σ 4 = I y ∧ ∃ l, PtsOk W H l ∧ l.length = rowN W y ∧ Buf h h' (σ 3) 2 (pairsV l)) (fun y => 2 * H - y) 1 ?_ ?_
  · exact ⟨by omega, by omega, Grows.refl _, by simp, by simp, [], fun k hk => by simp at hk, by simp [rowN], by simp [pairsV]; exact Buf.nil⟩
  · rintro y σ h' ⟨hy1, hy2, hg, q1, q4, l, hl, hll, hb⟩
    simp (disch := omega) [q1, q4, wrap64]
    refine fork_dec (fun hlt => ?_) (fun hge => ?_)
    · have hy : y < 2 * H := by omega
      have hrs := rowN_succ (W := W) hy1
      have hrb := rowN_le w8 (y := y + 1) (by omega)
      simp (disch := omega) [q1, q4, wrap64, tmod_pos]
      refine awp_loop (fun (j : Nat) σ' h'' => j ≤ W - y % 2 ∧ Grows h h'' ∧ σ' 1 = .agg #[I W, I H, s] ∧ σ' 4 = I y ∧ σ' 5 = I ((1 + y % 2 + 2 * j : Nat) : Int) ∧ ∃ l, PtsOk W H l ∧ l.length = rowN W y + j ∧ Buf h h'' (σ' 3) 2 (pairsV l)) (fun j => W - y % 2 - j) 0 ?_ ?_
      · refine ⟨by omega, hg, by simp [q1], by simp [q4], by simp, l, hl, hll, by simpa using hb⟩
      · rintro j σ' h'' ⟨hj, hg', r1, r4, r5, l, hl, hll, hb⟩
        simp (disch := omega) [r1, r5, wrap64]
        refine fork_dec (fun hlt2 => ?_) (fun hge2 => ?_)
        · have hj2 : j < W - y % 2 := by omega
          obtain ⟨x, hx⟩ : ∃ x, x = 1 + y % 2 + 2 * j := ⟨_, rfl⟩
          rw [← hx] at r5
          simp (disch := omega) [r1, r4, r5]
          refine append_pair (x := x) (y := y) hp (by omega) hg' hb fun v' h3 g3 b3 => ?_
          simp (disch := omega) [r1, r4, r5, wrap64]
          refine ⟨j + 1, ⟨by omega, g3, by omega, l ++ [(x, y)], ?_, by simp [hll]; omega, b3⟩, by omega⟩
          intro k hk
          simp at hk
          by_cases e : k < l.length
          · rw [List.getElem_append_left e]; exact hl k e
          · have : k = l.length := by omega
            subst this
            simp
            refine ⟨hy1, hy, by omega, ?_, by omega⟩
            rw [hrs]; omega
        · have : j = W - y % 2 := by omega
          simp (disch := omega) [r1, r4, wrap64]
          exact ⟨y + 1, ⟨by omega, by omega, hg', by omega, l, hl, by omega, hb⟩, by omega⟩
    · have : y = 2 * H := by omega
      subst this
      have hb' := hb
      rcases hb with ⟨e1, e2⟩ | ⟨b, n, e2, _⟩
      · simp (disch := omega) [e2]
        rw [e2] at hb'
        exact ⟨hg, l, hl, hll, hb'⟩
      · simp (disch := omega) [e2]
        rw [e2] at hb'
        exact ⟨hg, l, hl, hll, hb'⟩
end Am
/-! AmP13 -/
set_option linter.unusedVariables false
set_option linter.unusedSimpArgs false
set_option maxHeartbeats 4000000
set_option maxRecDepth 4000
namespace Am
open Go

open Classical in
/-- The inner point with a number. -/
noncomputable def thePt (W H k : Nat) : Nat × Nat := if e : ∃ p : Nat × Nat, IsPt W H k p.1 p.2 then Classical.choose e else (0, 0)
theorem thePt_eq {W H k x y : Nat} (h : IsPt W H k x y) : thePt W H k = (x, y) := by
  have e : ∃ p : Nat × Nat, IsPt W H k p.1 p.2 := ⟨(x, y), h⟩
  unfold thePt
  rw [dif_pos e]
  have := (Classical.choose_spec e).uniq h
  exact Prod.ext this.1 this.2
/-- The break of a part's point, in the panel. -/
noncomputable def prt (br : List Int) (W w h X Y k : Nat) : Int := at0 br (numP W ((thePt w h k).1 + 2 * X) ((thePt w h k).2 + 2 * Y))
noncomputable def partP (P : Pan) (x y w h : Int) : Pan := (w, h, (List.range (rowN w.toNat (2 * h.toNat))).map fun k => prt P.2.2 P.1.toNat w.toNat h.toNat x.toNat y.toNat k)
noncomputable def partAns (P : Pan) (x y w h : Int) : Pan × Int := if okP P then (if hasPart P x y w h then (partP P x y w h, 0) else ((0, 0, []), 2)) else ((0, 0, []), 1)

theorem inner_row {w h : Nat} (w1 : 1 ≤ w) (w8 : w < 9) (h1 : 1 ≤ h) (h8 : h < 9) : (inner (w : Int) (h : Int)).toNat = rowN w (2 * h) := by
  have := rowN_end w8 h8 w1 h1
  unfold inner
  rw [← this]; simp
theorem at0_rng {br : List Int} (hb : ∀ x ∈ br, 0 ≤ x ∧ x ≤ 2) (i : Nat) : 0 ≤ at0 br i ∧ at0 br i ≤ 2 := by
  unfold at0
  rw [List.getD_eq_getElem?_getD]
  by_cases h : i < br.length
  · rw [List.getElem?_eq_getElem h]
    exact hb _ (List.getElem_mem h)
  · rw [List.getElem?_eq_none (by omega)]; simp
theorem part_siz (P : Pan) (x y w h : Int) : siz shPanel (partAns P x y w h).1 ≤ 16777216 := by
  unfold partAns
  split
  · rename_i hok
    split
    · rename_i hp
      have ok := okP_iff.1 hok
      have hq := hasPart_iff.1 hp
      have w8 := ok.w
      have h8 := ok.h
      show siz shPanel (w, h, _) ≤ _
      rw [siz_panel]
      simp only [List.length_map, List.length_range]
      have := rowN_le (W := w.toNat) (by omega) (y := 2 * h.toNat) (by omega)
      omega
    · rw [siz_panel]; simp
  · rw [siz_panel]; simp

/-- What the part's own block holds at the end. -/
theorem part_done {h : Heap} {bb zz n : Nat} {lo : Nat} {f : Nat → Int} (hz : zz = 1 ∨ bb = 0 ∧ n = 0) (hn : n ≤ 128) (hf : ∀ k, 0 ≤ f k ∧ f k ≤ 2) (hb : n = 0 ∨ h[bb]? = some ⟨ints (fillB f (fun j => decide (j < n)) n), true⟩ ∧ lo ≤ bb) :
    Vo h lo h.length shInts (sl bb 0 n zz) ((List.range n).map f) := by
  have hul : ((List.range n).map f).length = n := by simp
  have hfill : fillB f (fun j => decide (j < n)) n = (List.range n).map f := fillB_all _ _ _ fun j hj => by simp [hj]
  have := Vo.of_ints (h := h) (b := bb) (lo := lo) (hi := h.length) (z := zz) (X := (List.range n).map f) (by
    rcases hz with e | ⟨e, e'⟩
    · exact .inl e
    · exact .inr ⟨e, by rw [e']; rfl⟩) (by rw [hul, maxLen_eq]; omega) (by
    intro x hx
    obtain ⟨j, _, rfl⟩ := List.mem_map.1 hx
    have := hf j
    unfold I64; omega) (by
    rcases hb with e | e
    · exact .inl (by rw [e]; rfl)
    · rw [hfill] at e
      by_cases hk0 : n = 0
      · exact .inl (by rw [hk0]; rfl)
      · exact .inr ⟨e.1, e.2, at_lt e.1⟩)
  rw [hul] at this
  exact this
theorem step_fill {k : Nat} : ∀ j, decide (j < k + 1) = (decide (j < k) || j == k) := by
  intro j
  rw [Bool.eq_iff_iff]
  simp only [decide_eq_true_eq, Bool.or_eq_true, beq_iff_eq]
  omega

theorem c111 (hh : Heap) (hp : 0 < hh.length) (v0 : Value) (P : Pan) (hv0 : Vr hh shPanel v0 P) (hs0 : siz shPanel P ≤ 1048576) (x : Int) (wx : I64 x) (y : Int) (wy : I64 y) (w : Int) (ww : I64 w) (h : Int) (wh : I64 h) :
    ACall Gam 111 [v0, I x, I y, I w, I h] hh fun r h' => Grows hh h' ∧ ∃ r0, r = .tuple #[r0, I (partAns P x y w h).2] ∧ Vo h' hh.length h'.length shPanel r0 (partAns P x y w h).1 ∧ siz shPanel (partAns P x y w h).1 ≤ 16777216 := by
  have hsz := part_siz P x y w h
  obtain ⟨W, H, br⟩ := P
  have hv0' := hv0
  obtain ⟨s, rfl, w1, w2, r0⟩ := hv0.panel
  refine ACall_intro g111 rfl ?_
  unfold fn111
  simp (disch := omega)
  refine callW_of (c140 _ _ hh hv0') ?_
  rintro _ h1 ⟨rfl, rfl⟩
  cases q : okP (W, H, br)
  · have e : partAns (W, H, br) x y w h = ((0, 0, []), 1) := by simp [partAns, q]
    rw [e] at hsz ⊢
    simp (disch := omega) [resOf, resAll, resOne, aField]
    exact ⟨Grows.refl _, Vo.zero_panel, hsz⟩
  have ok := okP_iff.1 q
  simp (disch := omega)
  refine callW_of (c33 h1 _ _ x y w h hv0' ok) ?_
  rintro _ h1 ⟨rfl, rfl⟩
  cases qp : hasPart (W, H, br) x y w h
  · have e : partAns (W, H, br) x y w h = ((0, 0, []), 2) := by simp [partAns, q, qp]
    rw [e] at hsz ⊢
    simp (disch := omega) [resOf, resAll, resOne, aField]
    exact ⟨Grows.refl _, Vo.zero_panel, hsz⟩
  have e : partAns (W, H, br) x y w h = (partP (W, H, br) x y w h, 0) := by simp [partAns, q, qp]
  rw [e] at hsz ⊢
  obtain ⟨okW, okH, okn, okb⟩ := ok
  have hq := hasPart_iff.1 qp
  simp only at okW okH okn okb hq
  obtain ⟨Wn, rfl⟩ := Int.eq_ofNat_of_zero_le (show 0 ≤ W by omega)
  obtain ⟨Hn, rfl⟩ := Int.eq_ofNat_of_zero_le (show 0 ≤ H by omega)
  obtain ⟨xn, rfl⟩ := Int.eq_ofNat_of_zero_le (show 0 ≤ x by omega)
  obtain ⟨yn, rfl⟩ := Int.eq_ofNat_of_zero_le (show 0 ≤ y by omega)
  obtain ⟨wn, rfl⟩ := Int.eq_ofNat_of_zero_le (show 0 ≤ w by omega)
  obtain ⟨hn, rfl⟩ := Int.eq_ofNat_of_zero_le (show 0 ≤ h by omega)
  have hbl : br.length = rowN Wn (2 * Hn) := by
    have := inner_row (w := Wn) (h := Hn) (by omega) (by omega) (by omega) (by omega)
    omega
  obtain ⟨n, hnn⟩ : ∃ n, n = rowN wn (2 * hn) := ⟨_, rfl⟩
  have hn128 : n ≤ 128 := by rw [hnn]; exact rowN_le (by omega) (by omega)
  have hin := inner_row (w := wn) (h := hn) (by omega) (by omega) (by omega) (by omega)
  rw [← hnn] at hin
  obtain ⟨f, hf⟩ : ∃ f : Nat → Int, f = fun k => prt br Wn wn hn xn yn k := ⟨_, rfl⟩
  have hfb : ∀ k, 0 ≤ f k ∧ f k ≤ 2 := fun k => by rw [hf]; exact at0_rng okb _
  have hpe : partP ((Wn : Int), (Hn : Int), br) xn yn wn hn = ((wn : Int), (hn : Int), (List.range n).map f) := by
    simp [partP, hf, hnn]
  rw [hpe] at hsz ⊢
  obtain ⟨b0, o0, z0, rfl, _, hm0, hx0, hc0⟩ := r0.ints
  simp (disch := omega)
  refine callW_of (c177 h1 wn hn (by omega) (by omega) hp) ?_
  rintro _ h2 ⟨g2, o2⟩
  obtain ⟨so, rfl, v1, v2, o2⟩ := o2.panel
  obtain ⟨bb, zz, rfl, hz, hm, hx, hc⟩ := o2.ints
  rw [hin] at hz hc ⊢
  simp only [List.length_replicate] at hc ⊢
  simp (disch := omega)
  refine callW_of (c49 h2 wn hn (sl bb 0 n zz) (pos_of hp g2) (by omega) (by omega) (by omega) (by omega)) ?_
  rintro v h3 ⟨g3, l, hl, hll, hbuf⟩
  rw [← hnn] at hll
  obtain ⟨pb, pz, rfl, hpc⟩ : ∃ pb pz, v = sl pb 0 n pz ∧ (n = 0 ∨ cellsAt h3 pb 0 (n * 2) = some (pairsV l)) := by
    rcases hbuf with ⟨e1, rfl⟩ | ⟨b, m, rfl, e2, _, e4⟩
    · have : n = 0 := by
        have := congrArg List.length e1
        rw [pairsV_len] at this; simp at this; omega
      exact ⟨0, 2, by rw [this], .inl this⟩
    · rw [pairsV_len] at e2
      have : m = n := by omega
      subst this
      exact ⟨b, 2, rfl, .inr (cellsAt_all e4 (by rw [pairsV_len]; omega))⟩
  simp (disch := omega)
  refine awp_loop (fun (k : Nat) σ h' => k ≤ n ∧ Grows h1 h' ∧ h3.length ≤ h'.length ∧ (∀ b, h1.length ≤ b → b < h3.length → b ≠ bb → h'[b]? = h3[b]?) ∧ σ 1 = I xn ∧ σ 2 = I yn ∧ σ 5 = .agg #[I Wn, I Hn, sl b0 o0 br.length z0] ∧ σ 10 = .agg #[I 0, I 0, sl 0 0 0 0] ∧ σ 12 = .agg #[I wn, I hn, sl bb 0 n zz] ∧ σ 31 = sl pb 0 n pz ∧ σ 32 = I n ∧ σ 33 = I k ∧
    (n = 0 ∨ h'[bb]? = some ⟨ints (fillB f (fun j => decide (j < k)) n), true⟩)) (fun k => n - k) 0 ?_ ?_
  · refine ⟨by omega, g2.trans g3, Nat.le_refl _, fun _ _ _ _ => rfl, by simp, by simp, by simp, by simp, by simp, by simp, by simp, by simp, ?_⟩
    rcases hc with hc | hc
    · left; simpa using hc
    · right; rw [fillB_none _ _ _ (by simp)]; exact g3.at hc.1
  · rintro k σ h' ⟨hk, hg, hlen, hkeep, q1, q2, q5, q10, q12, q31, q32, q33, hb⟩
    simp (disch := omega) [q32, q33]
    refine fork_dec (fun hlt => ?_) (fun hge => ?_)
    · have k1 : k < n := by omega
      have hnz : n ≠ 0 := by omega
      have hb := hb.resolve_left hnz
      have hcb : h1.length ≤ bb ∧ bb < h2.length := by
        rcases hc with hc | hc
        · simp at hc; omega
        · exact hc.2
      have hpb : h2.length ≤ pb ∧ pb < h3.length := by
        rcases hbuf with ⟨e1, e3⟩ | ⟨b, m, e3, _, e4, e5⟩
        · have := congrArg List.length e1
          rw [pairsV_len] at this; simp at this; omega
        · injection e3 with e3 _ _
          simp only [Option.some.injEq, Addr.mk.injEq] at e3
          obtain ⟨rfl, _⟩ := e3
          exact ⟨e4, at_lt e5⟩
      have hpc := hpc.resolve_left hnz
      have hpc' : cellsAt h' pb 0 (n * 2) = some (pairsV l) := by
        unfold cellsAt at hpc ⊢
        rw [hkeep pb (by have := g2.le; omega) hpb.2 (by omega)]
        exact hpc
      have hcp := cellsAt_in (i := k * 2) (m := 2) hpc' (by omega)
      rw [pairs_get l k (by omega)] at hcp
      have hpt := hl k (by omega)
      obtain ⟨px, hpx⟩ : ∃ px, px = (l[k]'(by omega)).1 := ⟨_, rfl⟩
      obtain ⟨py, hpy⟩ : ∃ py, py = (l[k]'(by omega)).2 := ⟨_, rfl⟩
      rw [← hpx, ← hpy] at hpt
      have hpv : pairV (l[k]'(by omega)) = [I px, I py] := by rw [hpx, hpy]; rfl
      rw [hpv] at hcp
      obtain ⟨d1, d2, d3⟩ := hpt.bd
      have d4 := hpt.y1
      have d5 := hpt.y2
      obtain ⟨X', hX'⟩ : ∃ X', X' = px + 2 * xn := ⟨_, rfl⟩
      obtain ⟨Y', hY'⟩ : ∃ Y', Y' = py + 2 * yn := ⟨_, rfl⟩
      have hnum := numP_lt (W := Wn) (H := Hn) (x := X') (y := Y') (by omega) (by omega) (by omega)
      rw [← hbl] at hnum
      have hfk : f k = at0 br (numP Wn X' Y') := by rw [hf, hX', hY']; simp [prt, thePt_eq hpt]
      have hcell := ints_cell (hc0.imp id (grows_cellsAt hg)) hnum
      rw [← at0_of hnum, ← hfk] at hcell
      simp only [Nat.zero_add] at hcp
      simp (disch := omega) [q1, q2, q5, q12, q31, q33, k1, hcp]
      refine callW_of (c188 h' px py xn yn (by omega) (by omega) (by omega) (by omega)) ?_
      rintro _ h' ⟨rfl, rfl⟩
      rw [show (px : Int) + 2 * (xn : Int) = ((X' : Nat) : Int) by omega, show (py : Int) + 2 * (yn : Int) = ((Y' : Nat) : Int) by omega]
      simp (disch := omega)
      refine callW_of (c40 h' Wn Hn X' Y' _ (by omega) (by omega) (by omega) (by omega) (by omega)) ?_
      rintro _ h' ⟨rfl, rfl⟩
      have hst := store_fill (P' := fun j => decide (j < k + 1)) hb k1 rfl (fun j _ => step_fill j)
      simp (disch := omega) [q1, q2, q5, q10, q12, q31, q32, q33, k1, hnum, hcell, hst, wrap64]
      refine ⟨k + 1, ⟨by omega, hg.put hcb.1 _, hlen, ?_, by omega, .inr (by simp [at_lt hb])⟩, by omega⟩
      intro b hb1 hb2 hb3
      rw [List.getElem?_set_ne (by omega)]; exact hkeep b hb1 hb2 hb3
    · have hkn : k = n := by omega
      subst hkn
      have hb' : k = 0 ∨ h'[bb]? = some ⟨ints (fillB f (fun j => decide (j < k)) k), true⟩ ∧ h1.length ≤ bb := by
        by_cases hk0 : k = 0
        · exact .inl hk0
        · refine .inr ⟨hb.resolve_left hk0, ?_⟩
          rcases hc with hc | hc
          · simp at hc; omega
          · exact hc.2.1
      have ho := part_done (h := h') (bb := bb) (zz := zz) (lo := h1.length) (n := k) (hz.imp id fun e => ⟨e.1, by simpa using e.2⟩) hn128 hfb hb'
      simp (disch := omega) [q10, q12, resOf, resAll, resOne, aField]
      exact ⟨hg, Vo.of_panel v1 v2 ho, hsz⟩

theorem c403 (hh : Heap) (hp : 0 < hh.length) (v0 : Value) (P : Pan) (hv0 : Vr hh shPanel v0 P) (hs0 : siz shPanel P ≤ 1048576) (x : Int) (wx : I64 x) (y : Int) (wy : I64 y) (w : Int) (ww : I64 w) (h : Int) (wh : I64 h) :
    ACall Gam 403 [v0, I x, I y, I w, I h] hh fun r h' => Grows hh h' ∧ ∃ r0, r = .tuple #[r0, I (partAns P x y w h).2] ∧ Vo h' hh.length h'.length shPanel r0 (partAns P x y w h).1 ∧ siz shPanel (partAns P x y w h).1 ≤ 16777216 := by
  have hsz := part_siz P x y w h
  obtain ⟨W, H, br⟩ := P
  obtain ⟨s, rfl, w1, w2, r0⟩ := hv0.panel
  refine ACall_intro g403 rfl ?_
  unfold fn403
  simp (disch := omega)
  obtain ⟨ha, eha⟩ : ∃ ha, ha = hh ++ [⟨[I W, I H, s], true⟩] := ⟨_, rfl⟩
  rw [← eha]
  have ga : Grows hh ha := ⟨_, eha⟩
  have ka : ha[hh.length]? = some ⟨[I W, I H, s], true⟩ := by rw [eha]; simp
  have la : ha.length = hh.length + 1 := by rw [eha]; simp
  have hpt0 : PtP ha (pt hh.length 0) (W, H, br) := PtP.at ka (r0.grow ga) w1 w2
  refine callW_of (c452 _ _ _ hpt0) ?_
  rintro _ h1 ⟨rfl, rfl⟩
  cases q : okP (W, H, br)
  · have e : partAns (W, H, br) x y w h = ((0, 0, []), 1) := by simp [partAns, q]
    rw [e] at hsz ⊢
    simp (disch := omega) [resOf, resAll, resOne, aField]
    exact ⟨ga, Vo.zero_panel, hsz⟩
  have ok := okP_iff.1 q
  simp (disch := omega)
  refine callW_of (c549 h1 _ _ x y w h hpt0 ok) ?_
  rintro _ h1 ⟨rfl, rfl⟩
  cases qp : hasPart (W, H, br) x y w h
  · have e : partAns (W, H, br) x y w h = ((0, 0, []), 2) := by simp [partAns, q, qp]
    rw [e] at hsz ⊢
    simp (disch := omega) [resOf, resAll, resOne, aField]
    exact ⟨ga, Vo.zero_panel, hsz⟩
  have e : partAns (W, H, br) x y w h = (partP (W, H, br) x y w h, 0) := by simp [partAns, q, qp]
  rw [e] at hsz ⊢
  obtain ⟨okW, okH, okn, okb⟩ := ok
  have hq := hasPart_iff.1 qp
  simp only at okW okH okn okb hq
  obtain ⟨Wn, rfl⟩ := Int.eq_ofNat_of_zero_le (show 0 ≤ W by omega)
  obtain ⟨Hn, rfl⟩ := Int.eq_ofNat_of_zero_le (show 0 ≤ H by omega)
  obtain ⟨xn, rfl⟩ := Int.eq_ofNat_of_zero_le (show 0 ≤ x by omega)
  obtain ⟨yn, rfl⟩ := Int.eq_ofNat_of_zero_le (show 0 ≤ y by omega)
  obtain ⟨wn, rfl⟩ := Int.eq_ofNat_of_zero_le (show 0 ≤ w by omega)
  obtain ⟨hn, rfl⟩ := Int.eq_ofNat_of_zero_le (show 0 ≤ h by omega)
  have hbl : br.length = rowN Wn (2 * Hn) := by
    have := inner_row (w := Wn) (h := Hn) (by omega) (by omega) (by omega) (by omega)
    omega
  obtain ⟨n, hnn⟩ : ∃ n, n = rowN wn (2 * hn) := ⟨_, rfl⟩
  have hn128 : n ≤ 128 := by rw [hnn]; exact rowN_le (by omega) (by omega)
  have hin := inner_row (w := wn) (h := hn) (by omega) (by omega) (by omega) (by omega)
  rw [← hnn] at hin
  obtain ⟨f, hf⟩ : ∃ f : Nat → Int, f = fun k => prt br Wn wn hn xn yn k := ⟨_, rfl⟩
  have hfb : ∀ k, 0 ≤ f k ∧ f k ≤ 2 := fun k => by rw [hf]; exact at0_rng okb _
  have hpe : partP ((Wn : Int), (Hn : Int), br) xn yn wn hn = ((wn : Int), (hn : Int), (List.range n).map f) := by
    simp [partP, hf, hnn]
  rw [hpe] at hsz ⊢
  obtain ⟨b0, o0, z0, rfl, _, hm0, hx0, hc0⟩ := r0.ints
  simp (disch := omega)
  refine callW_of (c450 h1 wn hn (by omega) (by omega) (pos_of hp ga)) ?_
  rintro _ h2 ⟨g2, o2⟩
  obtain ⟨so, rfl, v1, v2, o2⟩ := o2.panel
  obtain ⟨bb, zz, rfl, hz, hm, hx, hc⟩ := o2.ints
  rw [hin] at hz hc ⊢
  simp only [List.length_replicate] at hc ⊢
  have hsb : storeAt (h2 ++ [⟨[I 0, I 0, sl 0 0 0 0], true⟩]) h2.length 0 [I wn, I hn, sl bb 0 n zz] = some (h2 ++ [⟨[I wn, I hn, sl bb 0 n zz], true⟩]) := store_box rfl
  simp (disch := omega) [hsb]
  obtain ⟨h3, e3⟩ : ∃ h3, h3 = h2 ++ [⟨[I wn, I hn, sl bb 0 n zz], true⟩] := ⟨_, rfl⟩
  rw [← e3]
  have g3 : Grows h2 h3 := ⟨_, e3⟩
  have l3 : h3.length = h2.length + 1 := by rw [e3]; simp
  have k3 : h3[h2.length]? = some ⟨[I wn, I hn, sl bb 0 n zz], true⟩ := by rw [e3]; simp
  refine awp_loop (fun (k : Nat) σ h' => k ≤ n ∧ Grows h1 h' ∧ h3.length ≤ h'.length ∧ h'[h2.length]? = some ⟨[I wn, I hn, sl bb 0 n zz], true⟩ ∧ σ 1 = I xn ∧ σ 2 = I yn ∧ σ 5 = pt hh.length 0 ∧ σ 10 = .agg #[I 0, I 0, sl 0 0 0 0] ∧ σ 12 = pt h2.length 0 ∧ σ 13 = I k ∧
    (n = 0 ∨ h'[bb]? = some ⟨ints (fillB f (fun j => decide (j < k)) n), true⟩)) (fun k => n - k) 0 ?_ ?_
  · refine ⟨by omega, g2.trans g3, Nat.le_refl _, k3, by simp, by simp, by simp, by simp, by simp, by simp, ?_⟩
    rcases hc with hc | hc
    · left; simpa using hc
    · right; rw [fillB_none _ _ _ (by simp)]; exact g3.at hc.1
  · rintro k σ h' ⟨hk, hg, hlen, hkb, q1, q2, q5, q10, q12, q13, hb⟩
    have cl : cell h' h2.length 2 = some (sl bb 0 n zz) := by simp [cell, hkb]
    simp (disch := omega) [q12, q13, cl]
    refine fork_dec (fun hlt => ?_) (fun hge => ?_)
    · have k1 : k < n := by omega
      have hnz : n ≠ 0 := by omega
      have hb := hb.resolve_left hnz
      have hcb : h1.length ≤ bb ∧ bb < h2.length := by
        rcases hc with hc | hc
        · simp at hc; omega
        · exact hc.2
      have hvo : Vr h' shInts (sl bb 0 n zz) (fillB f (fun j => decide (j < k)) n) := by
        have := Vr.of_ints (h := h') (b := bb) (o := 0) (z := zz) (X := fillB f (fun j => decide (j < k)) n) (by
          rcases hz with e | ⟨e, e'⟩
          · exact .inl e
          · simp at e'; omega) (by rw [fillB_len, maxLen_eq]; omega) (by
          intro a ha
          obtain ⟨j, _, rfl⟩ := List.mem_map.1 ha
          have := hfb j
          split <;> (unfold I64; omega)) (.inr (by rw [cellsAt_of hb (by simp [ints, fillB_len])]; simp [ints, fillB_len, List.take_of_length_le]))
        rw [fillB_len] at this
        exact this
      have hpo : PtP h' (pt h2.length 0) ((wn : Int), (hn : Int), fillB f (fun j => decide (j < k)) n) := PtP.at hkb hvo v1 v2
      simp (disch := omega) [q12, q13]
      refine callW_of (c454 h' _ _ wn hn k hpo rfl rfl (by omega) (by omega) (by omega) (by omega) (by omega)) ?_
      rintro _ h' ⟨⟨px, py, hpt, rfl⟩, rfl⟩
      obtain ⟨d1, d2, d3⟩ := hpt.bd
      have d4 := hpt.y1
      have d5 := hpt.y2
      obtain ⟨X', hX'⟩ : ∃ X', X' = px + 2 * xn := ⟨_, rfl⟩
      obtain ⟨Y', hY'⟩ : ∃ Y', Y' = py + 2 * yn := ⟨_, rfl⟩
      have hnum := numP_lt (W := Wn) (H := Hn) (x := X') (y := Y') (by omega) (by omega) (by omega)
      rw [← hbl] at hnum
      have hfk : f k = at0 br (numP Wn X' Y') := by rw [hf, hX', hY']; simp [prt, thePt_eq hpt]
      have hcell := ints_cell (hc0.imp id (grows_cellsAt (ga.trans hg))) hnum
      rw [← at0_of hnum, ← hfk] at hcell
      have cl0 : cell h' hh.length 2 = some (sl b0 o0 br.length z0) := hg.cell (by simp [cell, ka])
      have ex : (px : Int) + 2 * (xn : Int) = ((X' : Nat) : Int) := by omega
      have ey : (py : Int) + 2 * (yn : Int) = ((Y' : Nat) : Int) := by omega
      simp (disch := omega) [q1, q2, q5, q12, q13, cl, cl0, wrap64, ex, ey]
      refine callW_of (c451 h' _ _ Wn X' Y' (hpt0.grow hg) rfl (by omega) (by omega) (by omega) (by omega)) ?_
      rintro _ h' ⟨rfl, rfl⟩
      refine ⟨fun _ => Grows.refl _, ?_⟩
      have hst := store_fill (P' := fun j => decide (j < k + 1)) hb k1 rfl (fun j _ => step_fill j)
      simp (disch := omega) [q1, q2, q5, q10, q12, q13, cl, cl0, k1, hnum, hcell, hst, wrap64]
      refine ⟨k + 1, ⟨by omega, hg.put hcb.1 _, hlen, ?_, by omega, .inr (by simp [at_lt hb])⟩, by omega⟩
      first
        | exact (List.getElem?_eq_some_iff.1 hkb).2
        | (rw [List.getElem?_set_ne (by omega)]; exact hkb)
    · have hkn : k = n := by omega
      subst hkn
      have hb' : k = 0 ∨ h'[bb]? = some ⟨ints (fillB f (fun j => decide (j < k)) k), true⟩ ∧ hh.length ≤ bb := by
        by_cases hk0 : k = 0
        · exact .inl hk0
        · refine .inr ⟨hb.resolve_left hk0, ?_⟩
          rcases hc with hc | hc
          · simp at hc; omega
          · have := hc.2.1; omega
      have ho := part_done (h := h') (bb := bb) (zz := zz) (lo := hh.length) (n := k) (hz.imp id fun e => ⟨e.1, by simpa using e.2⟩) hn128 hfb hb'
      have cw : cellsAt h' h2.length 0 3 = some [I wn, I hn, sl bb 0 k zz] := by rw [cellsAt_of hkb (by simp)]; simp
      simp (disch := omega) [q10, q12, cw, resOf, resAll, resOne, aField]
      exact ⟨ga.trans hg, Vo.of_panel v1 v2 ho, hsz⟩
end Am

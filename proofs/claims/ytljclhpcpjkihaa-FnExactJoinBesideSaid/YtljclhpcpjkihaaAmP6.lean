/- Contracts: merged panels. -/
import Derived.Test.YtljclhpcpjkihaaAmP5
set_option linter.unusedVariables false
set_option linter.unusedSimpArgs false
set_option maxHeartbeats 4000000
namespace Am
open Go

def mpre (o a b : List Int) (n : Nat) : List Int := (List.range n).map fun i => if at0 b i = at0 o i then at0 a i else at0 b i
theorem mpre_succ (o a b : List Int) (n : Nat) : mpre o a b (n + 1) = mpre o a b n ++ [if at0 b n = at0 o n then at0 a n else at0 b n] := by simp [mpre, List.range_succ]
theorem mpre_len (o a b : List Int) (n : Nat) : (mpre o a b n).length = n := by simp [mpre]
theorem mpre_64 {o a b : List Int} (ha : ∀ x ∈ a, I64 x) (hb : ∀ x ∈ b, I64 x) {n : Nat} : ∀ x ∈ mpre o a b n, I64 x := by
  intro x hx
  obtain ⟨i, hi, rfl⟩ := List.mem_map.1 hx
  split
  · exact at0wide ha i
  · exact at0wide hb i
def mergeCode (X0 X1 X2 : Pan) : Int := if (clashAns X0 X1 X2).2 = 0 then (if (clashAns X0 X1 X2).1 = [] then 0 else 9) else (clashAns X0 X1 X2).2
def mergeAns (X0 X1 X2 : Pan) : Pan × Int := (if mergeCode X0 X1 X2 = 0 then (X1.1, X1.2.1, mpre X0.2.2 X1.2.2 X2.2.2 X0.2.2.length) else (0, 0, []), mergeCode X0 X1 X2)
theorem merge_siz (X Y Z : Pan) (hs : X.2.2.length ≤ 1048576) : siz shPanel (mergeAns X Y Z).1 ≤ 16777216 := by
  unfold mergeAns
  simp only
  split
  · rw [siz_panel, mpre_len]; omega
  · rw [siz_panel]; simp
theorem Vo.no_panel {h : Heap} {lo hi : Nat} : Vo h lo hi shPanel (.agg #[I 0, I 0, sl 0 0 0 0]) ((0, 0, []) : Pan) := Vo.of_panel (by unfold I64; omega) (by unfold I64; omega) Vo.no_ints
theorem mergeCode_zero {X Y Z : Pan} (h : mergeCode X Y Z = 0) : clashCode X Y Z = 0 ∧ cpre X.2.2 Y.2.2 Z.2.2 X.2.2.length = [] := by
  unfold mergeCode clashAns at h
  simp only at h
  split at h
  · rename_i h1
    split at h
    · rename_i h2; exact ⟨h1, h2⟩
    · cases h
  · rename_i h1; exact absurd h h1

/-- The step of the loop that merges: one number of the copy is turned or not. -/
theorem merge_turn {h : Heap} {bb k : Nat} {o a b : List Int} (hb : h[bb]? = some ⟨ints (mpre o a b k ++ a.drop k), true⟩) (hk : k < a.length) (hne : ¬ at0 b k = at0 o k) :
    storeAt h bb k [I (at0 b k)] = some (h.set bb ⟨ints (mpre o a b (k + 1) ++ a.drop (k + 1)), true⟩) := by
  have hA : (ints (mpre o a b k)).length = k := by simp [ints, mpre_len]
  have hst := store_one (v := I (at0 b k)) (o := k) hb (by simp [ints, mpre_len]; omega)
  rw [List.drop_eq_getElem_cons hk, ints_append, ints_cons, set_end hA.symm] at hst
  rw [hst, mpre_succ, if_neg hne]
  simp [ints_append, ints_cons, ints_nil]
theorem merge_keep {o a b : List Int} {k : Nat} (hk : k < a.length) (he : at0 b k = at0 o k) : mpre o a b (k + 1) ++ a.drop (k + 1) = mpre o a b k ++ a.drop k := by
  rw [mpre_succ, if_pos he, List.drop_eq_getElem_cons hk, at0_of hk]; simp

theorem c391 (h : Heap) (hp : 0 < h.length) (v0 : Value) (X0 : Pan) (hv0 : Vr h shPanel v0 X0) (hs0 : siz shPanel X0 ≤ 1048576) (v1 : Value) (X1 : Pan) (hv1 : Vr h shPanel v1 X1) (hs1 : siz shPanel X1 ≤ 1048576) (v2 : Value) (X2 : Pan) (hv2 : Vr h shPanel v2 X2) (hs2 : siz shPanel X2 ≤ 1048576) :
    ACall Gam 391 [v0, v1, v2] h fun r h' => Grows h h' ∧ ∃ r0, r = .tuple #[r0, I (mergeAns X0 X1 X2).2] ∧ Vo h' h.length h'.length shPanel r0 (mergeAns X0 X1 X2).1 ∧ siz shPanel (mergeAns X0 X1 X2).1 ≤ 16777216 := by
  obtain ⟨W0, H0, o⟩ := X0
  obtain ⟨W1, H1, a⟩ := X1
  obtain ⟨W2, H2, b⟩ := X2
  rw [siz_panel] at hs0 hs1 hs2
  have hsz := merge_siz (W0, H0, o) (W1, H1, a) (W2, H2, b) hs0
  obtain ⟨s0, rfl, w0, x0, r0⟩ := hv0.panel
  obtain ⟨s1, rfl, w1, x1, r1⟩ := hv1.panel
  obtain ⟨s2, rfl, w2, x2, r2⟩ := hv2.panel
  refine ACall_intro g391 rfl ?_
  unfold fn391
  simp (disch := omega) [aBuildSlice]
  obtain ⟨hh, ehh⟩ : ∃ hh, hh = h ++ [⟨[I W0, I H0, s0], true⟩, ⟨[I W1, I H1, s1], true⟩, ⟨[I W2, I H2, s2], true⟩, ⟨[pt h.length 0, pt (h.length + 1) 0, pt (h.length + 2) 0], true⟩] := ⟨_, rfl⟩
  rw [← ehh]
  obtain ⟨G, p0, p1, p2, k0, k1, k2⟩ := boxes3 ehh r0 r1 r2 w0 x0 w1 x1 w2 x2
  have k3 : hh[h.length + 3]? = some ⟨[pt h.length 0, pt (h.length + 1) 0, pt (h.length + 2) 0], true⟩ := by rw [ehh, List.getElem?_append_right (by omega)]; simp
  refine callW_of (c552 hh (h.length + 3) 0 [pt h.length 0, pt (h.length + 1) 0, pt (h.length + 2) 0] [(W0, H0, o), (W1, H1, a), (W2, H2, b)] (by simp) (by simp) rfl (by rw [cellsAt_of k3 (by simp)]; simp) (fun i hi => by
    have : i = 0 ∨ i = 1 ∨ i = 2 := by simp at hi; omega
    rcases this with rfl | rfl | rfl
    · exact ⟨_, rfl, p0⟩
    · exact ⟨_, rfl, p1⟩
    · exact ⟨_, rfl, p2⟩)) ?_
  rintro _ h1 ⟨rfl, rfl⟩
  rw [sizes3]
  by_cases hz : clashCode (W0, H0, o) (W1, H1, a) (W2, H2, b) = 0
  rotate_left
  · have eM : mergeAns (W0, H0, o) (W1, H1, a) (W2, H2, b) = ((0, 0, []), clashCode (W0, H0, o) (W1, H1, a) (W2, H2, b)) := by simp [mergeAns, mergeCode, clashAns, hz]
    rw [eM] at hsz ⊢
    generalize hc : clashCode (W0, H0, o) (W1, H1, a) (W2, H2, b) = c at *
    simp (disch := omega) [hz, resOf, resAll, resOne, aField]
    exact ⟨G, Vo.no_panel, hsz⟩
  · obtain ⟨ok0, ok1, ok2, sm1, sm2⟩ := clashCode_zero hz
    have hl1 : o.length = a.length := same_len ok0 ok1 sm1
    have hl2 : o.length = b.length := same_len ok0 ok2 sm2
    rw [hz]
    simp (disch := omega)
    refine callW_of (c548 h1 (pos_of hp G) _ _ _ _ _ _ p0 p1 p2 hs0 hl1 hl2) ?_
    rintro r h2 ⟨g2, ho⟩
    refine ⟨fun _ => g2, ?_⟩
    obtain ⟨bb0, zz0, e, _⟩ := ho.ints
    subst e
    simp (disch := omega)
    by_cases hcl : cpre o a b o.length = []
    rotate_left
    · have eM : mergeAns (W0, H0, o) (W1, H1, a) (W2, H2, b) = ((0, 0, []), 9) := by simp [mergeAns, mergeCode, clashAns, hz, hcl]
      rw [eM] at hsz ⊢
      have : 0 < (cpre o a b o.length).length := List.length_pos_iff.2 hcl
      refine fork_dec (fun _ => ?_) (fun hn => ?_)
      · simp (disch := omega) [resOf, resAll, resOne, aField]
        exact ⟨G.trans g2, Vo.no_panel, hsz⟩
      · exact absurd this (by simpa using hn)
    · have eM : mergeAns (W0, H0, o) (W1, H1, a) (W2, H2, b) = ((W1, H1, mpre o a b o.length), 0) := by simp [mergeAns, mergeCode, clashAns, hz, hcl]
      rw [eM] at hsz ⊢
      rw [hcl]
      simp (disch := omega)
      refine callW_of (c453 h2 _ _ (pos_of hp (G.trans g2)) (p1.grow g2) hs1) ?_
      rintro r h3 ⟨g3, ho3⟩
      obtain ⟨so, rfl, _, _, ho4⟩ := ho3.panel
      obtain ⟨bb, zz, rfl, hzz, hmm, hxx, hcc⟩ := ho4.ints
      have G3 := (G.trans g2).trans g3
      obtain ⟨b0, o0, z0, rfl, _, hm0, hx0, hc0⟩ := r0.ints
      obtain ⟨b2, o2, z2, rfl, _, hm2, hx2, hc2⟩ := r2.ints
      have cx0 : cell h3 h.length 2 = some (sl b0 o0 o.length z0) := (g2.trans g3).cell (by simp [cell, k0])
      have cx2 : cell h3 (h.length + 2) 2 = some (sl b2 o2 b.length z2) := (g2.trans g3).cell (by simp [cell, k2])
      simp (disch := omega)
      refine awp_loop (fun k σ h' => k ≤ o.length ∧ Grows h2 h' ∧ h3.length ≤ h'.length ∧ σ 3 = pt h.length 0 ∧ σ 5 = pt (h.length + 2) 0 ∧ σ 6 = .agg #[I 0, I 0, sl 0 0 0 0] ∧ σ 9 = .agg #[I W1, I H1, sl bb 0 a.length zz] ∧ σ 10 = I k ∧ (a = [] ∨ h'[bb]? = some ⟨ints (mpre o a b k ++ a.drop k), true⟩)) (fun k => o.length - k) 0 ?_ ?_
      · refine ⟨by omega, g3, Nat.le_refl _, by simp, by simp, by simp, by simp, by simp, ?_⟩
        rcases hcc with e | e
        · exact .inl e
        · exact .inr (by simpa [mpre] using e.1)
      · rintro k σ h' ⟨hk, hg, hlen, t3, t5, t6, t9, t10, hb⟩
        have d0 : cell h' h.length 2 = some (sl b0 o0 o.length z0) := hg.cell (g2.cell (by simp [cell, k0]))
        have d2 : cell h' (h.length + 2) 2 = some (sl b2 o2 b.length z2) := hg.cell (g2.cell (by simp [cell, k2]))
        simp (disch := omega) [t3, t10, d0]
        refine fork_dec (fun hlt => ?_) (fun hge => ?_)
        · have l0 : k < o.length := by omega
          have l1 : k < a.length := by omega
          have l2 : k < b.length := by omega
          have hne : a ≠ [] := by intro e; subst e; simp at l1
          have hb := hb.resolve_left hne
          have hcc := hcc.resolve_left hne
          have c0 := ints_cell (hc0.imp id (grows_cellsAt ((G.trans g2).trans hg))) l0
          have c2 := ints_cell (hc2.imp id (grows_cellsAt ((G.trans g2).trans hg))) l2
          rw [← at0_of l0] at c0
          rw [← at0_of l2] at c2
          simp (disch := omega) [t3, t5, t9, t10, d0, d2, l0, l2, c0, c2]
          refine fork_dec (fun he => ?_) (fun he => ?_)
          · simp (disch := omega) [t3, t5, t6, t9, t10, wrap64]
            exact ⟨k + 1, ⟨by omega, hg, hlen, by omega, .inr (by rw [merge_keep l1 he]; exact (List.getElem?_eq_some_iff.1 hb).2)⟩, by omega⟩
          · have hst := merge_turn hb l1 he
            simp (disch := omega) [t3, t5, t6, t9, t10, d0, d2, l0, l1, l2, c0, c2, hst, wrap64]
            exact ⟨k + 1, ⟨by omega, hg.put hcc.2.1 _, hlen, by omega, .inr rfl⟩, by omega⟩
        · have : k = o.length := by omega
          subst this
          simp (disch := omega) [t3, t5, t6, t9, t10, resOf, resAll, resOne, aField]
          refine ⟨(G.trans g2).trans hg, Vo.of_panel w1 x1 ?_, hsz⟩
          have e1 : a.drop o.length = [] := by rw [hl1]; simp
          have hv := Vo.of_ints (h := h') (b := bb) (lo := h.length) (hi := h'.length) (z := zz) (X := mpre o a b o.length) (by
            rcases hzz with e | ⟨e, e'⟩
            · exact .inl e
            · exact .inr ⟨e, by rw [hl1, e']; rfl⟩) (by rw [mpre_len, maxLen_eq]; omega) (mpre_64 hxx hx2) (by
            rcases hb with e | e
            · subst e; exact .inl (by rw [hl1]; rfl)
            · by_cases ha : a = []
              · exact .inl (by rw [hl1, ha]; rfl)
              · have hcc := hcc.resolve_left ha
                refine .inr ⟨by simpa [e1] using e, ?_, at_lt e⟩
                have := (G.trans g2).le
                omega)
          rw [mpre_len, hl1] at hv
          rw [← hl1] at hv ⊢
          exact hv

theorem c98 (h : Heap) (hp : 0 < h.length) (v0 : Value) (X0 : Pan) (hv0 : Vr h shPanel v0 X0) (hs0 : siz shPanel X0 ≤ 1048576) (v1 : Value) (X1 : Pan) (hv1 : Vr h shPanel v1 X1) (hs1 : siz shPanel X1 ≤ 1048576) (v2 : Value) (X2 : Pan) (hv2 : Vr h shPanel v2 X2) (hs2 : siz shPanel X2 ≤ 1048576) :
    ACall Gam 98 [v0, v1, v2] h fun r h' => Grows h h' ∧ ∃ r0, r = .tuple #[r0, I (mergeAns X0 X1 X2).2] ∧ Vo h' h.length h'.length shPanel r0 (mergeAns X0 X1 X2).1 ∧ siz shPanel (mergeAns X0 X1 X2).1 ≤ 16777216 := by
  obtain ⟨W0, H0, o⟩ := X0
  obtain ⟨W1, H1, a⟩ := X1
  obtain ⟨W2, H2, b⟩ := X2
  have hs0' := hs0
  have hs1' := hs1
  have hs2' := hs2
  rw [siz_panel] at hs0 hs1 hs2
  have hsz := merge_siz (W0, H0, o) (W1, H1, a) (W2, H2, b) hs0
  have hv0' := hv0
  have hv1' := hv1
  have hv2' := hv2
  obtain ⟨s0, rfl, w0, x0, r0⟩ := hv0.panel
  obtain ⟨s1, rfl, w1, x1, r1⟩ := hv1.panel
  obtain ⟨s2, rfl, w2, x2, r2⟩ := hv2.panel
  refine ACall_intro g98 rfl ?_
  unfold fn98
  simp (disch := omega)
  refine callW_of (c65 h hp _ _ hv0' hs0' _ _ hv1' hs1' _ _ hv2' hs2') ?_
  rintro _ h2 ⟨g2, rr, rfl, ho, hsz2⟩
  obtain ⟨bb0, zz0, e, _⟩ := ho.ints
  subst e
  by_cases hz : clashCode (W0, H0, o) (W1, H1, a) (W2, H2, b) = 0
  rotate_left
  · have eM : mergeAns (W0, H0, o) (W1, H1, a) (W2, H2, b) = ((0, 0, []), clashCode (W0, H0, o) (W1, H1, a) (W2, H2, b)) := by simp [mergeAns, mergeCode, clashAns, hz]
    have eC : clashAns (W0, H0, o) (W1, H1, a) (W2, H2, b) = ([], clashCode (W0, H0, o) (W1, H1, a) (W2, H2, b)) := by simp [clashAns, hz]
    rw [eM] at hsz ⊢
    rw [eC]
    generalize hc : clashCode (W0, H0, o) (W1, H1, a) (W2, H2, b) = c at *
    simp (disch := omega) [hz, resOf, resAll, resOne, aField]
    exact ⟨g2, Vo.no_panel, hsz⟩
  · obtain ⟨ok0, ok1, ok2, sm1, sm2⟩ := clashCode_zero hz
    have hl1 : o.length = a.length := same_len ok0 ok1 sm1
    have hl2 : o.length = b.length := same_len ok0 ok2 sm2
    have eC : clashAns (W0, H0, o) (W1, H1, a) (W2, H2, b) = (cpre o a b o.length, 0) := by simp [clashAns, hz]
    rw [eC]
    simp (disch := omega)
    by_cases hcl : cpre o a b o.length = []
    rotate_left
    · have eM : mergeAns (W0, H0, o) (W1, H1, a) (W2, H2, b) = ((0, 0, []), 9) := by simp [mergeAns, mergeCode, clashAns, hz, hcl]
      rw [eM] at hsz ⊢
      have : 0 < (cpre o a b o.length).length := List.length_pos_iff.2 hcl
      refine fork_dec (fun _ => ?_) (fun hn => ?_)
      · simp (disch := omega) [resOf, resAll, resOne, aField]
        exact ⟨g2, Vo.no_panel, hsz⟩
      · exact absurd this (by simpa using hn)
    · have eM : mergeAns (W0, H0, o) (W1, H1, a) (W2, H2, b) = ((W1, H1, mpre o a b o.length), 0) := by simp [mergeAns, mergeCode, clashAns, hz, hcl]
      rw [eM] at hsz ⊢
      rw [hcl]
      simp (disch := omega)
      refine callW_of (c150 h2 _ _ (pos_of hp g2) (hv1'.grow g2) hs1) ?_
      rintro r h3 ⟨g3, ho3⟩
      obtain ⟨so, rfl, _, _, ho4⟩ := ho3.panel
      obtain ⟨bb, zz, rfl, hzz, hmm, hxx, hcc⟩ := ho4.ints
      obtain ⟨b0, o0, z0, rfl, _, hm0, hx0, hc0⟩ := r0.ints
      obtain ⟨b2, o2, z2, rfl, _, hm2, hx2, hc2⟩ := r2.ints
      simp (disch := omega)
      refine awp_loop (fun k σ h' => k ≤ o.length ∧ Grows h2 h' ∧ h3.length ≤ h'.length ∧ σ 3 = .agg #[I W0, I H0, sl b0 o0 o.length z0] ∧ σ 6 = .agg #[I 0, I 0, sl 0 0 0 0] ∧ σ 10 = .agg #[I W1, I H1, sl bb 0 a.length zz] ∧ σ 31 = sl b2 o2 b.length z2 ∧ σ 32 = I b.length ∧ σ 33 = I k ∧ (a = [] ∨ h'[bb]? = some ⟨ints (mpre o a b k ++ a.drop k), true⟩)) (fun k => o.length - k) 0 ?_ ?_
      · refine ⟨by omega, g3, Nat.le_refl _, by simp, by simp, by simp, by simp, by simp, by simp, ?_⟩
        rcases hcc with e | e
        · exact .inl e
        · exact .inr (by simpa [mpre] using e.1)
      · rintro k σ h' ⟨hk, hg, hlen, t3, t6, t10, t31, t32, t33, hb⟩
        simp (disch := omega) [t32, t33]
        refine fork_dec (fun hlt => ?_) (fun hge => ?_)
        · have l0 : k < o.length := by omega
          have l1 : k < a.length := by omega
          have l2 : k < b.length := by omega
          have hne : a ≠ [] := by intro e; subst e; simp at l1
          have hb := hb.resolve_left hne
          have hcc := hcc.resolve_left hne
          have c0 := ints_cell (hc0.imp id (grows_cellsAt (g2.trans hg))) l0
          have c2 := ints_cell (hc2.imp id (grows_cellsAt (g2.trans hg))) l2
          rw [← at0_of l0] at c0
          rw [← at0_of l2] at c2
          simp (disch := omega) [t3, t10, t31, t32, t33, l0, l2, c0, c2]
          refine fork_dec (fun he => ?_) (fun he => ?_)
          · simp (disch := omega) [t3, t6, t10, t31, t32, t33, wrap64]
            exact ⟨k + 1, ⟨by omega, hg, hlen, by omega, .inr (by rw [merge_keep l1 he]; exact (List.getElem?_eq_some_iff.1 hb).2)⟩, by omega⟩
          · have hst := merge_turn hb l1 he
            simp (disch := omega) [t3, t6, t10, t31, t32, t33, l0, l1, l2, c0, c2, hst, wrap64]
            exact ⟨k + 1, ⟨by omega, hg.put hcc.2.1 _, hlen, by omega, .inr rfl⟩, by omega⟩
        · have : k = o.length := by omega
          subst this
          simp (disch := omega) [t3, t6, t10, t31, t32, t33, resOf, resAll, resOne, aField]
          refine ⟨g2.trans hg, Vo.of_panel w1 x1 ?_, hsz⟩
          have e1 : a.drop o.length = [] := by rw [hl1]; simp
          have hv := Vo.of_ints (h := h') (b := bb) (lo := h.length) (hi := h'.length) (z := zz) (X := mpre o a b o.length) (by
            rcases hzz with e | ⟨e, e'⟩
            · exact .inl e
            · exact .inr ⟨e, by rw [hl1, e']; rfl⟩) (by rw [mpre_len, maxLen_eq]; omega) (mpre_64 hxx hx2) (by
            rcases hb with e | e
            · subst e; exact .inl (by rw [hl1]; rfl)
            · by_cases ha : a = []
              · exact .inl (by rw [hl1, ha]; rfl)
              · have hcc := hcc.resolve_left ha
                refine .inr ⟨by simpa [e1] using e, ?_, at_lt e⟩
                have := g2.le
                omega)
          rw [mpre_len, hl1] at hv
          rw [← hl1] at hv ⊢
          exact hv
end Am

/- Contracts: parts put into panels. -/
import Derived.Test.YtpdhmojncndobaaAmP13
set_option linter.unusedVariables false
set_option linter.unusedSimpArgs false
set_option maxHeartbeats 4000000
set_option maxRecDepth 4000
namespace Am
open Go

theorem numP_pt {W H x y : Nat} (hx : 1 ≤ x ∧ x < 2 * W) (hy : 1 ≤ y ∧ y < 2 * H) (hp : (x + y) % 2 = 1) : IsPt W H (numP W x y) x y := by
  have := rowN_succ (W := W) hy.1
  refine ⟨hy.1, hy.2, by unfold numP; omega, ?_, by unfold numP; omega⟩
  rw [this]; unfold numP; omega
theorem IsPt.num {W H k x y : Nat} (a : IsPt W H k x y) : numP W x y = k := by
  have h1 := a.x; have h2 := a.lo; have h3 := a.hi; have h4 := a.y1
  unfold numP; omega
theorem IsPt.ex {W H k : Nat} (w1 : 1 ≤ W) (h1 : 1 ≤ H) (hk : k < rowN W (2 * H)) : ∃ x y, IsPt W H k x y := by
  have key : ∀ m, k < rowN W (m + 1) → ∃ y, 1 ≤ y ∧ y ≤ m ∧ rowN W y ≤ k ∧ k < rowN W (y + 1) := by
    intro m
    induction m with
    | zero => intro h; simp [rowN] at h
    | succ m ih =>
      intro h
      by_cases e : k < rowN W (m + 1)
      · obtain ⟨y, a, b, c, d⟩ := ih e
        exact ⟨y, a, by omega, c, d⟩
      · exact ⟨m + 1, by omega, by omega, by omega, h⟩
  obtain ⟨y, a, b, c, d⟩ := key (2 * H - 1) (by rw [show 2 * H - 1 + 1 = 2 * H by omega]; exact hk)
  exact ⟨_, y, ⟨a, by omega, c, d, rfl⟩⟩

/-- The points of a part that have been put in. -/
noncomputable def inPart (W H w h X Y k : Nat) (j : Nat) : Bool := decide (2 * X < (thePt W H j).1 ∧ (thePt W H j).1 < 2 * X + 2 * w ∧ 2 * Y < (thePt W H j).2 ∧ (thePt W H j).2 < 2 * Y + 2 * h ∧ numP w ((thePt W H j).1 - 2 * X) ((thePt W H j).2 - 2 * Y) < k)
theorem inPart_zero {W H w h X Y j : Nat} : inPart W H w h X Y 0 j = false := by
  unfold inPart; rw [decide_eq_false_iff_not]; omega
theorem inPart_step {W H w h X Y k px py j : Nat} (w1 : 1 ≤ W) (h1 : 1 ≤ H) (hXw : X + w ≤ W) (hYh : Y + h ≤ H) (hpt : IsPt w h k px py) (hj : j < rowN W (2 * H)) :
    inPart W H w h X Y (k + 1) j = (inPart W H w h X Y k j || j == numP W (px + 2 * X) (py + 2 * Y)) := by
  obtain ⟨x, y, hP⟩ := IsPt.ex w1 h1 hj
  have e := thePt_eq hP
  unfold inPart
  rw [e, Bool.eq_iff_iff]
  simp only [decide_eq_true_eq, Bool.or_eq_true, beq_iff_eq]
  obtain ⟨d1, d2, d3⟩ := hpt.bd
  have d4 := hpt.y1
  have d5 := hpt.y2
  obtain ⟨q1, q2, q3⟩ := hP.bd
  constructor
  · rintro ⟨a1, a2, a3, a4, a5⟩
    by_cases e2 : numP w (x - 2 * X) (y - 2 * Y) < k
    · exact .inl ⟨a1, a2, a3, a4, e2⟩
    · right
      have e3 : numP w (x - 2 * X) (y - 2 * Y) = k := by omega
      have hQ := numP_pt (W := w) (H := h) (x := x - 2 * X) (y := y - 2 * Y) (by omega) (by omega) (by omega)
      rw [e3] at hQ
      obtain ⟨u1, u2⟩ := hQ.uniq hpt
      rw [← hP.num]
      congr 1 <;> omega
  · rintro (⟨a1, a2, a3, a4, a5⟩ | a)
    · exact ⟨a1, a2, a3, a4, by omega⟩
    · have hN := numP_pt (W := W) (H := H) (x := px + 2 * X) (y := py + 2 * Y) (by omega) (by omega) (by omega)
      rw [← a] at hN
      obtain ⟨u1, u2⟩ := hP.uniq hN
      have : numP w (x - 2 * X) (y - 2 * Y) = k := by
        rw [← hpt.num]; congr 1 <;> omega
      exact ⟨by omega, by omega, by omega, by omega, by omega⟩

/-- What is put in is what is wanted there. -/
def Fits (f : Nat → Int) (W w h X Y : Nat) (br : List Int) : Prop := ∀ k px py, IsPt w h k px py → k < rowN w (2 * h) → at0 br k = f (numP W (px + 2 * X) (py + 2 * Y))

theorem c46 (hh : Heap) (hp : 0 < hh.length) (W H w h X Y bb zz : Nat) (v : Value) (br : List Int) (f : Nat → Int) (P : Nat → Bool) (hB : Heap) (hv : Vr hB shPanel v (w, h, br)) (GB : Grows hB hh) (hle : hB.length ≤ bb) (hbr : br.length = rowN w (2 * h)) (W1 : 1 ≤ W) (W8 : W < 9) (H1 : 1 ≤ H) (H8 : H < 9) (w1 : 1 ≤ w) (h1 : 1 ≤ h) (hXw : X + w ≤ W) (hYh : Y + h ≤ H)
    (hb : hh[bb]? = some ⟨ints (fillB f P (rowN W (2 * H))), true⟩) (hfit : Fits f W w h X Y br) :
    ACall Gam 46 [.agg #[I W, I H, sl bb 0 (rowN W (2 * H)) zz], I X, I Y, v] hh fun r h' => Mod bb (bb + 1) hh h' ∧ h'[bb]? = some ⟨ints (fillB f (fun j => P j || inPart W H w h X Y (rowN w (2 * h)) j) (rowN W (2 * H))), true⟩ := by
  obtain ⟨N, hN⟩ : ∃ N, N = rowN W (2 * H) := ⟨_, rfl⟩
  rw [← hN] at hb ⊢
  obtain ⟨n, hn⟩ : ∃ n, n = rowN w (2 * h) := ⟨_, rfl⟩
  rw [← hn] at hbr ⊢
  have hN128 : N ≤ 128 := by rw [hN]; exact rowN_le W8 (by omega)
  have hn128 : n ≤ 128 := by rw [hn]; exact rowN_le (by omega) (by omega)
  have hv0 := hv
  obtain ⟨s, rfl, v1, v2, r0⟩ := hv.panel
  obtain ⟨b0, o0, z0, rfl, _, hm0, hx0, hc0⟩ := r0.ints
  have hbl := at_lt hb
  refine ACall_intro g46 rfl ?_
  unfold fn46
  simp (disch := omega)
  refine callW_of (c49 hh w h (sl b0 o0 br.length z0) hp (by omega) (by omega) (by omega) (by omega)) ?_
  rintro v h3 ⟨g3, l, hl, hll, hbuf⟩
  rw [← hn] at hll
  obtain ⟨pb, pz, rfl, hpc⟩ : ∃ pb pz, v = sl pb 0 n pz ∧ (n = 0 ∨ cellsAt h3 pb 0 (n * 2) = some (pairsV l) ∧ hh.length ≤ pb ∧ pb < h3.length) := by
    rcases hbuf with ⟨e1, rfl⟩ | ⟨b, m, rfl, e2, e3, e4⟩
    · have : n = 0 := by
        have := congrArg List.length e1
        rw [pairsV_len] at this; simp at this; omega
      exact ⟨0, 2, by rw [this], .inl this⟩
    · rw [pairsV_len] at e2
      have : m = n := by omega
      subst this
      exact ⟨b, 2, rfl, .inr ⟨cellsAt_all e4 (by rw [pairsV_len]; omega), e3, at_lt e4⟩⟩
  simp (disch := omega)
  refine awp_loop (fun (k : Nat) σ h' => k ≤ n ∧ Mod bb (bb + 1) h3 h' ∧ σ 1 = I X ∧ σ 2 = I Y ∧ σ 4 = .agg #[I W, I H, sl bb 0 N zz] ∧ σ 7 = .agg #[I w, I h, sl b0 o0 br.length z0] ∧ σ 11 = sl pb 0 n pz ∧ σ 12 = I n ∧ σ 13 = I k ∧
    h'[bb]? = some ⟨ints (fillB f (fun j => P j || inPart W H w h X Y k j) N), true⟩) (fun k => n - k) 0 ?_ ?_
  · refine ⟨by omega, Mod.refl _ _ _, by simp, by simp, by simp, by simp, by simp, by simp, by simp, ?_⟩
    rw [g3.at hb]
    congr 3
    exact fillB_same fun j _ => by simp [inPart_zero]
  · rintro k σ h' ⟨hk, hmd, q1, q2, q4, q7, q11, q12, q13, hb⟩
    simp (disch := omega) [q12, q13]
    refine fork_dec (fun hlt => ?_) (fun hge => ?_)
    · have k1 : k < n := by omega
      obtain ⟨hpc, hp1, hp2⟩ := hpc.resolve_left (by omega)
      have hpc' : cellsAt h' pb 0 (n * 2) = some (pairsV l) := by
        unfold cellsAt at hpc ⊢
        rw [hmd.2 pb hp2 (by omega)]; exact hpc
      have hcp := cellsAt_in (i := k * 2) (m := 2) hpc' (by omega)
      rw [pairs_get l k (by omega)] at hcp
      have hpt := hl k (by omega)
      obtain ⟨px, hpx⟩ : ∃ px, px = (l[k]'(by omega)).1 := ⟨_, rfl⟩
      obtain ⟨py, hpy⟩ : ∃ py, py = (l[k]'(by omega)).2 := ⟨_, rfl⟩
      rw [← hpx, ← hpy] at hpt
      have hpv : pairV (l[k]'(by omega)) = [I px, I py] := by rw [hpx, hpy]; rfl
      rw [hpv] at hcp
      obtain ⟨d1, d2, d3⟩ := hpt.bd
      have d4 := hpt.y1
      have d5 := hpt.y2
      obtain ⟨X', hX'⟩ : ∃ X', X' = px + 2 * X := ⟨_, rfl⟩
      obtain ⟨Y', hY'⟩ : ∃ Y', Y' = py + 2 * Y := ⟨_, rfl⟩
      have hnum := numP_lt (W := W) (H := H) (x := X') (y := Y') (by omega) (by omega) (by omega)
      rw [← hN] at hnum
      have hkb : k < br.length := by omega
      have hfk : at0 br k = f (numP W X' Y') := by rw [hX', hY']; exact hfit k px py hpt (by omega)
      have gB' : Grows hB h' := hmd.grows (GB.trans g3) hle
      have hcell := ints_cell (hc0.imp id (grows_cellsAt gB')) hkb
      rw [← at0_of hkb, hfk] at hcell
      simp only [Nat.zero_add] at hcp
      simp (disch := omega) [q1, q2, q4, q7, q11, q13, k1, hcp]
      refine callW_of (c188 h' px py X Y (by omega) (by omega) (by omega) (by omega)) ?_
      rintro _ h' ⟨rfl, rfl⟩
      refine ⟨fun _ => Grows.refl _, ?_⟩
      rw [show (px : Int) + 2 * (X : Int) = ((X' : Nat) : Int) by omega, show (py : Int) + 2 * (Y : Int) = ((Y' : Nat) : Int) by omega]
      refine callW_of (c40 h' W H X' Y' _ (by omega) (by omega) (by omega) (by omega) (by omega)) ?_
      rintro _ h' ⟨rfl, rfl⟩
      refine ⟨fun _ => Grows.refl _, ?_⟩
      have hst := store_fill (P' := fun j => P j || inPart W H w h X Y (k + 1) j) hb hnum rfl (fun j hj => by
        rw [inPart_step W1 H1 hXw hYh hpt (by omega), ← hX', ← hY', Bool.or_assoc])
      simp (disch := omega) [q1, q2, q4, q7, q11, q12, q13, hkb, hnum, hcell, hst, wrap64]
      exact ⟨k + 1, ⟨by omega, hmd.put (by omega) _, by omega, by simp [at_lt hb]⟩, by omega⟩
    · have hkn : k = n := by omega
      subst hkn
      simp (disch := omega)
      exact ⟨(g3.mod).trans hmd, hb⟩

theorem c551 (hh : Heap) (hp : 0 < hh.length) (W H w h X Y bb zz bo : Nat) (v : Value) (br : List Int) (f : Nat → Int) (P : Nat → Bool) (hB : Heap) (hv : PtP hB v (w, h, br)) (GB : Grows hB hh) (hle : hB.length ≤ bb) (hbr : br.length = rowN w (2 * h)) (W1 : 1 ≤ W) (W8 : W < 9) (H1 : 1 ≤ H) (H8 : H < 9) (w1 : 1 ≤ w) (h1 : 1 ≤ h) (hXw : X + w ≤ W) (hYh : Y + h ≤ H)
    (hbo : hh[bo]? = some ⟨[I W, I H, sl bb 0 (rowN W (2 * H)) zz], true⟩) (hne : bo ≠ bb) (hz : zz = 1) (hb : hh[bb]? = some ⟨ints (fillB f P (rowN W (2 * H))), true⟩) (hfit : Fits f W w h X Y br) (hfb : ∀ k, I64 (f k)) :
    ACall Gam 551 [pt bo 0, I X, I Y, v] hh fun r h' => Mod bb (bb + 1) hh h' ∧ h'[bb]? = some ⟨ints (fillB f (fun j => P j || inPart W H w h X Y (rowN w (2 * h)) j) (rowN W (2 * H))), true⟩ := by
  obtain ⟨N, hN⟩ : ∃ N, N = rowN W (2 * H) := ⟨_, rfl⟩
  rw [← hN] at hb hbo ⊢
  obtain ⟨n, hn⟩ : ∃ n, n = rowN w (2 * h) := ⟨_, rfl⟩
  rw [← hn] at hbr ⊢
  have hN128 : N ≤ 128 := by rw [hN]; exact rowN_le W8 (by omega)
  have hn128 : n ≤ 128 := by rw [hn]; exact rowN_le (by omega) (by omega)
  have hv0 := hv
  obtain ⟨b, o, s, rfl, y1, y2, y3, r0, v1, v2⟩ := hv
  obtain ⟨b0, o0, z0, rfl, _, hm0, hx0, hc0⟩ := r0.ints
  refine ACall_intro g551 rfl ?_
  unfold fn551
  simp (disch := omega)
  refine awp_loop (fun (k : Nat) σ h' => k ≤ n ∧ Mod bb (bb + 1) hh h' ∧ σ 0 = pt bo 0 ∧ σ 1 = I X ∧ σ 2 = I Y ∧ σ 3 = pt b o ∧ σ 8 = I k ∧
    h'[bb]? = some ⟨ints (fillB f (fun j => P j || inPart W H w h X Y k j) N), true⟩) (fun k => n - k) 0 ?_ ?_
  · refine ⟨by omega, Mod.refl _ _ _, by simp, by simp, by simp, by simp, by simp, ?_⟩
    rw [hb]
    congr 3
    exact fillB_same fun j _ => by simp [inPart_zero]
  · rintro k σ h' ⟨hk, hmd, q0, q1, q2, q3, q8, hb⟩
    have gB' : Grows hB h' := hmd.grows GB hle
    have c3 := gB'.cell y3
    simp (disch := omega) [q3, q8, c3]
    refine fork_dec (fun hlt => ?_) (fun hge => ?_)
    · have k1 : k < n := by omega
      have hpt0 := hv0.grow gB'
      simp (disch := omega) [q3, q8]
      refine callW_of (c454 h' _ _ w h k hpt0 rfl rfl (by omega) (by omega) (by omega) (by omega) (by omega)) ?_
      rintro _ h' ⟨⟨px, py, hpt, rfl⟩, rfl⟩
      obtain ⟨d1, d2, d3⟩ := hpt.bd
      have d4 := hpt.y1
      have d5 := hpt.y2
      obtain ⟨X', hX'⟩ : ∃ X', X' = px + 2 * X := ⟨_, rfl⟩
      obtain ⟨Y', hY'⟩ : ∃ Y', Y' = py + 2 * Y := ⟨_, rfl⟩
      have hnum := numP_lt (W := W) (H := H) (x := X') (y := Y') (by omega) (by omega) (by omega)
      rw [← hN] at hnum
      have hkb : k < br.length := by omega
      have hfk : at0 br k = f (numP W X' Y') := by rw [hX', hY']; exact hfit k px py hpt (by omega)
      have hcell := ints_cell (hc0.imp id (grows_cellsAt gB')) hkb
      rw [← at0_of hkb, hfk] at hcell
      have hbo' : h'[bo]? = some ⟨[I W, I H, sl bb 0 N zz], true⟩ := by rw [hmd.2 bo (at_lt hbo) (by omega)]; exact hbo
      have hvo : Vr h' shInts (sl bb 0 N zz) (fillB f (fun j => P j || inPart W H w h X Y k j) N) := by
        have := Vr.of_ints (h := h') (b := bb) (o := 0) (z := zz) (X := fillB f (fun j => P j || inPart W H w h X Y k j) N) (.inl hz) (by rw [fillB_len, maxLen_eq]; omega) (by
          intro a ha
          obtain ⟨j, _, rfl⟩ := List.mem_map.1 ha
          have := hfb j
          split
          · exact this
          · unfold I64; omega) (.inr (by rw [cellsAt_of hb (by simp [ints, fillB_len])]; simp [ints, fillB_len, List.take_of_length_le]))
        rw [fillB_len] at this
        exact this
      have hpo : PtP h' (pt bo 0) ((W : Int), (H : Int), fillB f (fun j => P j || inPart W H w h X Y k j) N) := PtP.at hbo' hvo (by unfold I64; omega) (by unfold I64; omega)
      have cl : cell h' bo 2 = some (sl bb 0 N zz) := by simp [cell, hbo']
      have ex : (px : Int) + 2 * (X : Int) = ((X' : Nat) : Int) := by omega
      have ey : (py : Int) + 2 * (Y : Int) = ((Y' : Nat) : Int) := by omega
      simp (disch := omega) [q0, q1, q2, q3, q8, cl, wrap64, ex, ey]
      refine callW_of (c451 h' _ _ W X' Y' hpo rfl (by omega) (by omega) (by omega) (by omega)) ?_
      rintro _ h' ⟨rfl, rfl⟩
      refine ⟨fun _ => Grows.refl _, ?_⟩
      have hst := store_fill (P' := fun j => P j || inPart W H w h X Y (k + 1) j) hb hnum rfl (fun j hj => by
        rw [inPart_step W1 H1 hXw hYh hpt (by omega), ← hX', ← hY', Bool.or_assoc])
      simp (disch := omega) [q0, q1, q2, q3, q8, c3, hkb, hnum, hcell, hst, wrap64]
      exact ⟨k + 1, ⟨by omega, hmd.put (by omega) _, by omega, by simp [at_lt hb]⟩, by omega⟩
    · have hkn : k = n := by omega
      subst hkn
      simp (disch := omega)
      exact ⟨hmd, hb⟩
end Am

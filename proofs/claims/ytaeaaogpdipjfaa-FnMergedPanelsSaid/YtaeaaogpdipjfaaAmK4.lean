/- Contracts: AmP14, AmP16, AmP15. -/
import Derived.Test.YtaeaaogpdipjfaaAmK3
/-! AmP14 -/
set_option linter.unusedVariables false
set_option linter.unusedSimpArgs false
set_option maxHeartbeats 4000000
set_option maxRecDepth 4000
namespace Am
open Go

theorem numP_pt {W H x y : Nat} (hx : 1 ≤ x ∧ x < 2 * W) (hy : 1 ≤ y ∧ y < 2 * H) (hp : (x + y) % 2 = 1) : IsPt W H (numP W x y) x y := by
  have := rowN_succ (W := W) hy.1
  refine ⟨hy.1, hy.2, by unfold numP; omega, ?_, by unfold numP; omega⟩
  rw [this]; unfold numP; omega
theorem IsPt.num {W H k x y : Nat} (a : IsPt W H k x y) : numP W x y = k := by
  have h1 := a.x; have h2 := a.lo; have h3 := a.hi; have h4 := a.y1
  unfold numP; omega
theorem IsPt.ex {W H k : Nat} (w1 : 1 ≤ W) (h1 : 1 ≤ H) (hk : k < rowN W (2 * H)) : ∃ x y, IsPt W H k x y := by
  have key : ∀ m, k < rowN W (m + 1) → ∃ y, 1 ≤ y ∧ y ≤ m ∧ rowN W y ≤ k ∧ k < rowN W (y + 1) := by
    intro m
    induction m with
    | zero => intro h; simp [rowN] at h
    | succ m ih =>
      intro h
      by_cases e : k < rowN W (m + 1)
      · obtain ⟨y, a, b, c, d⟩ := ih e
        exact ⟨y, a, by omega, c, d⟩
      · exact ⟨m + 1, by omega, by omega, by omega, h⟩
  obtain ⟨y, a, b, c, d⟩ := key (2 * H - 1) (by rw [show 2 * H - 1 + 1 = 2 * H by omega]; exact hk)
  exact ⟨_, y, ⟨a, by omega, c, d, rfl⟩⟩

/-- The points of a part that have been put in. -/
noncomputable def inPart (W H w h X Y k : Nat) (j : Nat) : Bool := decide (2 * X < (thePt W H j).1 ∧ (thePt W H j).1 < 2 * X + 2 * w ∧ 2 * Y < (thePt W H j).2 ∧ (thePt W H j).2 < 2 * Y + 2 * h ∧ numP w ((thePt W H j).1 - 2 * X) ((thePt W H j).2 - 2 * Y) < k)
theorem inPart_zero {W H w h X Y j : Nat} : inPart W H w h X Y 0 j = false := by
  unfold inPart; rw [decide_eq_false_iff_not]; omega
theorem inPart_step {W H w h X Y k px py j : Nat} (w1 : 1 ≤ W) (h1 : 1 ≤ H) (hXw : X + w ≤ W) (hYh : Y + h ≤ H) (hpt : IsPt w h k px py) (hj : j < rowN W (2 * H)) :
    inPart W H w h X Y (k + 1) j = (inPart W H w h X Y k j || j == numP W (px + 2 * X) (py + 2 * Y)) := by
  obtain ⟨x, y, hP⟩ := IsPt.ex w1 h1 hj
  have e := thePt_eq hP
  unfold inPart
  rw [e, Bool.eq_iff_iff]
  simp only [decide_eq_true_eq, Bool.or_eq_true, beq_iff_eq]
  obtain ⟨d1, d2, d3⟩ := hpt.bd
  have d4 := hpt.y1
  have d5 := hpt.y2
  obtain ⟨q1, q2, q3⟩ := hP.bd
  constructor
  · rintro ⟨a1, a2, a3, a4, a5⟩
    by_cases e2 : numP w (x - 2 * X) (y - 2 * Y) < k
    · exact .inl ⟨a1, a2, a3, a4, e2⟩
    · right
      have e3 : numP w (x - 2 * X) (y - 2 * Y) = k := by omega
      have hQ := numP_pt (W := w) (H := h) (x := x - 2 * X) (y := y - 2 * Y) (by omega) (by omega) (by omega)
      rw [e3] at hQ
      obtain ⟨u1, u2⟩ := hQ.uniq hpt
      rw [← hP.num]
      congr 1 <;> omega
  · rintro (⟨a1, a2, a3, a4, a5⟩ | a)
    · exact ⟨a1, a2, a3, a4, by omega⟩
    · have hN := numP_pt (W := W) (H := H) (x := px + 2 * X) (y := py + 2 * Y) (by omega) (by omega) (by omega)
      rw [← a] at hN
      obtain ⟨u1, u2⟩ := hP.uniq hN
      have : numP w (x - 2 * X) (y - 2 * Y) = k := by
        rw [← hpt.num]; congr 1 <;> omega
      exact ⟨by omega, by omega, by omega, by omega, by omega⟩

/-- What is put in is what is wanted there. -/
def Fits (f : Nat → Int) (W w h X Y : Nat) (br : List Int) : Prop := ∀ k px py, IsPt w h k px py → k < rowN w (2 * h) → at0 br k = f (numP W (px + 2 * X) (py + 2 * Y))

theorem c46 (hh : Heap) (hp : 0 < hh.length) (W H w h X Y bb zz : Nat) (v : Value) (br : List Int) (f : Nat → Int) (P : Nat → Bool) (hB : Heap) (hv : Vr hB shPanel v (w, h, br)) (GB : Grows hB hh) (hle : hB.length ≤ bb) (hbr : br.length = rowN w (2 * h)) (W1 : 1 ≤ W) (W8 : W < 9) (H1 : 1 ≤ H) (H8 : H < 9) (w1 : 1 ≤ w) (h1 : 1 ≤ h) (hXw : X + w ≤ W) (hYh : Y + h ≤ H)
    (hb : hh[bb]? = some ⟨ints (fillB f P (rowN W (2 * H))), true⟩) (hfit : Fits f W w h X Y br) :
    ACall Gam 46 [.agg #[I W, I H, sl bb 0 (rowN W (2 * H)) zz], I X, I Y, v] hh fun r h' => Mod bb (bb + 1) hh h' ∧ h'[bb]? = some ⟨ints (fillB f (fun j => P j || inPart W H w h X Y (rowN w (2 * h)) j) (rowN W (2 * H))), true⟩ := by
  obtain ⟨N, hN⟩ : ∃ N, N = rowN W (2 * H) := ⟨_, rfl⟩
  rw [← hN] at hb ⊢
  obtain ⟨n, hn⟩ : ∃ n, n = rowN w (2 * h) := ⟨_, rfl⟩
  rw [← hn] at hbr ⊢
  have hN128 : N ≤ 128 := by rw [hN]; exact rowN_le W8 (by omega)
  have hn128 : n ≤ 128 := by rw [hn]; exact rowN_le (by omega) (by omega)
  have hv0 := hv
  obtain ⟨s, rfl, v1, v2, r0⟩ := hv.panel
  obtain ⟨b0, o0, z0, rfl, _, hm0, hx0, hc0⟩ := r0.ints
  have hbl := at_lt hb
  refine ACall_intro g46 rfl ?_
  unfold fn46
  simp (disch := omega)
  refine callW_of (c49 hh w h (sl b0 o0 br.length z0) hp (by omega) (by omega) (by omega) (by omega)) ?_
  rintro v h3 ⟨g3, l, hl, hll, hbuf⟩
  rw [← hn] at hll
  obtain ⟨pb, pz, rfl, hpc⟩ : ∃ pb pz, v = sl pb 0 n pz ∧ (n = 0 ∨ cellsAt h3 pb 0 (n * 2) = some (pairsV l) ∧ hh.length ≤ pb ∧ pb < h3.length) := by
    rcases hbuf with ⟨e1, rfl⟩ | ⟨b, m, rfl, e2, e3, e4⟩
    · have : n = 0 := by
        have := congrArg List.length e1
        rw [pairsV_len] at this; simp at this; omega
      exact ⟨0, 2, by rw [this], .inl this⟩
    · rw [pairsV_len] at e2
      have : m = n := by omega
      subst this
      exact ⟨b, 2, rfl, .inr ⟨cellsAt_all e4 (by rw [pairsV_len]; omega), e3, at_lt e4⟩⟩
  simp (disch := omega)
  refine awp_loop (fun (k : Nat) σ h' => k ≤ n ∧ Mod bb (bb + 1) h3 h' ∧ σ 1 = I X ∧ σ 2 = I Y ∧ σ 4 = .agg #[I W, I H, sl bb 0 N zz] ∧ σ 7 = .agg #[I w, I h, sl b0 o0 br.length z0] ∧ σ 11 = sl pb 0 n pz ∧ σ 12 = I n ∧ σ 13 = I k ∧
    h'[bb]? = some ⟨ints (fillB f (fun j => P j || inPart W H w h X Y k j) N), true⟩) (fun k => n - k) 0 ?_ ?_
  · refine ⟨by omega, Mod.refl _ _ _, by simp, by simp, by simp, by simp, by simp, by simp, by simp, ?_⟩
    rw [g3.at hb]
    congr 3
    exact fillB_same fun j _ => by simp [inPart_zero]
  · rintro k σ h' ⟨hk, hmd, q1, q2, q4, q7, q11, q12, q13, hb⟩
    simp (disch := omega) [q12, q13]
    refine fork_dec (fun hlt => ?_) (fun hge => ?_)
    · have k1 : k < n := by omega
      obtain ⟨hpc, hp1, hp2⟩ := hpc.resolve_left (by omega)
      have hpc' : cellsAt h' pb 0 (n * 2) = some (pairsV l) := by
        unfold cellsAt at hpc ⊢
        rw [hmd.2 pb hp2 (by omega)]; exact hpc
      have hcp := cellsAt_in (i := k * 2) (m := 2) hpc' (by omega)
      rw [pairs_get l k (by omega)] at hcp
      have hpt := hl k (by omega)
      obtain ⟨px, hpx⟩ : ∃ px, px = (l[k]'(by omega)).1 := ⟨_, rfl⟩
      obtain ⟨py, hpy⟩ : ∃ py, py = (l[k]'(by omega)).2 := ⟨_, rfl⟩
      rw [← hpx, ← hpy] at hpt
      have hpv : pairV (l[k]'(by omega)) = [I px, I py] := by rw [hpx, hpy]; rfl
      rw [hpv] at hcp
      obtain ⟨d1, d2, d3⟩ := hpt.bd
      have d4 := hpt.y1
      have d5 := hpt.y2
      obtain ⟨X', hX'⟩ : ∃ X', X' = px + 2 * X := ⟨_, rfl⟩
      obtain ⟨Y', hY'⟩ : ∃ Y', Y' = py + 2 * Y := ⟨_, rfl⟩
      have hnum := numP_lt (W := W) (H := H) (x := X') (y := Y') (by omega) (by omega) (by omega)
      rw [← hN] at hnum
      have hkb : k < br.length := by omega
      have hfk : at0 br k = f (numP W X' Y') := by rw [hX', hY']; exact hfit k px py hpt (by omega)
      have gB' : Grows hB h' := hmd.grows (GB.trans g3) hle
      have hcell := ints_cell (hc0.imp id (grows_cellsAt gB')) hkb
      rw [← at0_of hkb, hfk] at hcell
      simp only [Nat.zero_add] at hcp
      simp (disch := omega) [q1, q2, q4, q7, q11, q13, k1, hcp]
      refine callW_of (c188 h' px py X Y (by omega) (by omega) (by omega) (by omega)) ?_
      rintro _ h' ⟨rfl, rfl⟩
      refine ⟨fun _ => Grows.refl _, ?_⟩
      rw [show (px : Int) + 2 * (X : Int) = ((X' : Nat) : Int) by omega, show (py : Int) + 2 * (Y : Int) = ((Y' : Nat) : Int) by omega]
      refine callW_of (c40 h' W H X' Y' _ (by omega) (by omega) (by omega) (by omega) (by omega)) ?_
      rintro _ h' ⟨rfl, rfl⟩
      refine ⟨fun _ => Grows.refl _, ?_⟩
      have hst := store_fill (P' := fun j => P j || inPart W H w h X Y (k + 1) j) hb hnum rfl (fun j hj => by
        rw [inPart_step W1 H1 hXw hYh hpt (by omega), ← hX', ← hY', Bool.or_assoc])
      simp (disch := omega) [q1, q2, q4, q7, q11, q12, q13, hkb, hnum, hcell, hst, wrap64]
      exact ⟨k + 1, ⟨by omega, hmd.put (by omega) _, by omega, by simp [at_lt hb]⟩, by omega⟩
    · have hkn : k = n := by omega
      subst hkn
      simp (disch := omega)
      exact ⟨(g3.mod).trans hmd, hb⟩

theorem c551 (hh : Heap) (hp : 0 < hh.length) (W H w h X Y bb zz bo : Nat) (v : Value) (br : List Int) (f : Nat → Int) (P : Nat → Bool) (hB : Heap) (hv : PtP hB v (w, h, br)) (GB : Grows hB hh) (hle : hB.length ≤ bb) (hbr : br.length = rowN w (2 * h)) (W1 : 1 ≤ W) (W8 : W < 9) (H1 : 1 ≤ H) (H8 : H < 9) (w1 : 1 ≤ w) (h1 : 1 ≤ h) (hXw : X + w ≤ W) (hYh : Y + h ≤ H)
    (hbo : hh[bo]? = some ⟨[I W, I H, sl bb 0 (rowN W (2 * H)) zz], true⟩) (hne : bo ≠ bb) (hz : zz = 1) (hb : hh[bb]? = some ⟨ints (fillB f P (rowN W (2 * H))), true⟩) (hfit : Fits f W w h X Y br) (hfb : ∀ k, I64 (f k)) :
    ACall Gam 551 [pt bo 0, I X, I Y, v] hh fun r h' => Mod bb (bb + 1) hh h' ∧ h'[bb]? = some ⟨ints (fillB f (fun j => P j || inPart W H w h X Y (rowN w (2 * h)) j) (rowN W (2 * H))), true⟩ := by
  obtain ⟨N, hN⟩ : ∃ N, N = rowN W (2 * H) := ⟨_, rfl⟩
  rw [← hN] at hb hbo ⊢
  obtain ⟨n, hn⟩ : ∃ n, n = rowN w (2 * h) := ⟨_, rfl⟩
  rw [← hn] at hbr ⊢
  have hN128 : N ≤ 128 := by rw [hN]; exact rowN_le W8 (by omega)
  have hn128 : n ≤ 128 := by rw [hn]; exact rowN_le (by omega) (by omega)
  have hv0 := hv
  obtain ⟨b, o, s, rfl, y1, y2, y3, r0, v1, v2⟩ := hv
  obtain ⟨b0, o0, z0, rfl, _, hm0, hx0, hc0⟩ := r0.ints
  refine ACall_intro g551 rfl ?_
  unfold fn551
  simp (disch := omega)
  refine awp_loop (fun (k : Nat) σ h' => k ≤ n ∧ Mod bb (bb + 1) hh h' ∧ σ 0 = pt bo 0 ∧ σ 1 = I X ∧ σ 2 = I Y ∧ σ 3 = pt b o ∧ σ 8 = I k ∧
    h'[bb]? = some ⟨ints (fillB f (fun j => P j || inPart W H w h X Y k j) N), true⟩) (fun k => n - k) 0 ?_ ?_
  · refine ⟨by omega, Mod.refl _ _ _, by simp, by simp, by simp, by simp, by simp, ?_⟩
    rw [hb]
    congr 3
    exact fillB_same fun j _ => by simp [inPart_zero]
  · rintro k σ h' ⟨hk, hmd, q0, q1, q2, q3, q8, hb⟩
    have gB' : Grows hB h' := hmd.grows GB hle
    have c3 := gB'.cell y3
    simp (disch := omega) [q3, q8, c3]
    refine fork_dec (fun hlt => ?_) (fun hge => ?_)
    · have k1 : k < n := by omega
      have hpt0 := hv0.grow gB'
      simp (disch := omega) [q3, q8]
      refine callW_of (c454 h' _ _ w h k hpt0 rfl rfl (by omega) (by omega) (by omega) (by omega) (by omega)) ?_
      rintro _ h' ⟨⟨px, py, hpt, rfl⟩, rfl⟩
      obtain ⟨d1, d2, d3⟩ := hpt.bd
      have d4 := hpt.y1
      have d5 := hpt.y2
      obtain ⟨X', hX'⟩ : ∃ X', X' = px + 2 * X := ⟨_, rfl⟩
      obtain ⟨Y', hY'⟩ : ∃ Y', Y' = py + 2 * Y := ⟨_, rfl⟩
      have hnum := numP_lt (W := W) (H := H) (x := X') (y := Y') (by omega) (by omega) (by omega)
      rw [← hN] at hnum
      have hkb : k < br.length := by omega
      have hfk : at0 br k = f (numP W X' Y') := by rw [hX', hY']; exact hfit k px py hpt (by omega)
      have hcell := ints_cell (hc0.imp id (grows_cellsAt gB')) hkb
      rw [← at0_of hkb, hfk] at hcell
      have hbo' : h'[bo]? = some ⟨[I W, I H, sl bb 0 N zz], true⟩ := by rw [hmd.2 bo (at_lt hbo) (by omega)]; exact hbo
      have hvo : Vr h' shInts (sl bb 0 N zz) (fillB f (fun j => P j || inPart W H w h X Y k j) N) := by
        have := Vr.of_ints (h := h') (b := bb) (o := 0) (z := zz) (X := fillB f (fun j => P j || inPart W H w h X Y k j) N) (.inl hz) (by rw [fillB_len, maxLen_eq]; omega) (by
          intro a ha
          obtain ⟨j, _, rfl⟩ := List.mem_map.1 ha
          have := hfb j
          split
          · exact this
          · unfold I64; omega) (.inr (by rw [cellsAt_of hb (by simp [ints, fillB_len])]; simp [ints, fillB_len, List.take_of_length_le]))
        rw [fillB_len] at this
        exact this
      have hpo : PtP h' (pt bo 0) ((W : Int), (H : Int), fillB f (fun j => P j || inPart W H w h X Y k j) N) := PtP.at hbo' hvo (by unfold I64; omega) (by unfold I64; omega)
      have cl : cell h' bo 2 = some (sl bb 0 N zz) := by simp [cell, hbo']
      have ex : (px : Int) + 2 * (X : Int) = ((X' : Nat) : Int) := by omega
      have ey : (py : Int) + 2 * (Y : Int) = ((Y' : Nat) : Int) := by omega
      simp (disch := omega) [q0, q1, q2, q3, q8, cl, wrap64, ex, ey]
      refine callW_of (c451 h' _ _ W X' Y' hpo rfl (by omega) (by omega) (by omega) (by omega)) ?_
      rintro _ h' ⟨rfl, rfl⟩
      refine ⟨fun _ => Grows.refl _, ?_⟩
      have hst := store_fill (P' := fun j => P j || inPart W H w h X Y (k + 1) j) hb hnum rfl (fun j hj => by
        rw [inPart_step W1 H1 hXw hYh hpt (by omega), ← hX', ← hY', Bool.or_assoc])
      simp (disch := omega) [q0, q1, q2, q3, q8, c3, hkb, hnum, hcell, hst, wrap64]
      exact ⟨k + 1, ⟨by omega, hmd.put (by omega) _, by omega, by simp [at_lt hb]⟩, by omega⟩
    · have hkn : k = n := by omega
      subst hkn
      simp (disch := omega)
      exact ⟨hmd, hb⟩
end Am
/-! AmP16 -/
set_option linter.unusedVariables false
set_option linter.unusedSimpArgs false
set_option maxHeartbeats 4000000
set_option maxRecDepth 4000
namespace Am
open Go

/-- Numbers of which some have been replaced. -/
def fillG (g f : Nat → Int) (P : Nat → Bool) (n : Nat) : List Int := (List.range n).map fun j => if P j then f j else g j
theorem fillG_len (g f : Nat → Int) (P : Nat → Bool) (n : Nat) : (fillG g f P n).length = n := by simp [fillG]
theorem fillG_set {g f : Nat → Int} {P P' : Nat → Bool} {n k : Nat} (h : ∀ j, j < n → P' j = (P j || j == k)) : (fillG g f P n).set k (f k) = fillG g f P' n := by
  apply List.ext_getElem
  · simp [fillG]
  · intro i h1 h2
    simp [fillG] at h1 h2 ⊢
    rw [List.getElem_set]
    simp only [List.getElem_map, List.getElem_range]
    have := h i h2
    by_cases e : k = i
    · subst e; simp [this]
    · have e' : ¬ i = k := fun h => e h.symm
      simp [e, this, e']
theorem fillG_same {g f : Nat → Int} {P P' : Nat → Bool} {n : Nat} (h : ∀ j, j < n → P j = P' j) : fillG g f P n = fillG g f P' n := by
  apply List.map_congr_left
  intro i hi
  rw [h i (List.mem_range.1 hi)]
theorem fillG_none {f : Nat → Int} {P : Nat → Bool} {br : List Int} (h : ∀ j, j < br.length → P j = false) : fillG (at0 br) f P br.length = br := by
  apply List.ext_getElem
  · simp [fillG]
  · intro i h1 h2
    simp [fillG] at h1 ⊢
    simp [h i h1, at0_of h1]
theorem store_fillG {h : Heap} {b k n : Nat} {g f : Nat → Int} {P P' : Nat → Bool} {v : Int} (hb : h[b]? = some ⟨ints (fillG g f P n), true⟩) (hk : k < n) (hv : v = f k) (hp : ∀ j, j < n → P' j = (P j || j == k)) :
    storeAt h b k [I v] = some (h.set b ⟨ints (fillG g f P' n), true⟩) := by
  rw [store_one hb (by simp [ints, fillG_len]; exact hk), ← fillG_set hp, hv]
  simp [ints, List.map_set]

theorem c46g (g : Nat → Int) (hh : Heap) (hp : 0 < hh.length) (W H w h X Y bb zz : Nat) (v : Value) (br : List Int) (f : Nat → Int) (P : Nat → Bool) (hB : Heap) (hv : Vr hB shPanel v (w, h, br)) (GB : Grows hB hh) (hle : rowN W (2 * H) = 0 ∨ hB.length ≤ bb) (hbr : br.length = rowN w (2 * h)) (W1 : 1 ≤ W) (W8 : W < 9) (H1 : 1 ≤ H) (H8 : H < 9) (w1 : 1 ≤ w) (h1 : 1 ≤ h) (hXw : X + w ≤ W) (hYh : Y + h ≤ H)
    (hb : rowN W (2 * H) = 0 ∨ hh[bb]? = some ⟨ints (fillG g f P (rowN W (2 * H))), true⟩) (hfit : Fits f W w h X Y br) :
    ACall Gam 46 [.agg #[I W, I H, sl bb 0 (rowN W (2 * H)) zz], I X, I Y, v] hh fun r h' => Mod bb (bb + 1) hh h' ∧ Grows hB h' ∧ (rowN W (2 * H) = 0 ∨ h'[bb]? = some ⟨ints (fillG g f (fun j => P j || inPart W H w h X Y (rowN w (2 * h)) j) (rowN W (2 * H))), true⟩) := by
  obtain ⟨N, hN⟩ : ∃ N, N = rowN W (2 * H) := ⟨_, rfl⟩
  rw [← hN] at hb hle ⊢
  obtain ⟨n, hn⟩ : ∃ n, n = rowN w (2 * h) := ⟨_, rfl⟩
  rw [← hn] at hbr ⊢
  have hN128 : N ≤ 128 := by rw [hN]; exact rowN_le W8 (by omega)
  have hn128 : n ≤ 128 := by rw [hn]; exact rowN_le (by omega) (by omega)
  have hv0 := hv
  obtain ⟨s, rfl, v1, v2, r0⟩ := hv.panel
  obtain ⟨b0, o0, z0, rfl, _, hm0, hx0, hc0⟩ := r0.ints
  have hbl := hb.imp id at_lt
  refine ACall_intro g46 rfl ?_
  unfold fn46
  simp (disch := omega)
  refine callW_of (c49 hh w h (sl b0 o0 br.length z0) hp (by omega) (by omega) (by omega) (by omega)) ?_
  rintro v h3 ⟨g3, l, hl, hll, hbuf⟩
  rw [← hn] at hll
  obtain ⟨pb, pz, rfl, hpc⟩ : ∃ pb pz, v = sl pb 0 n pz ∧ (n = 0 ∨ cellsAt h3 pb 0 (n * 2) = some (pairsV l) ∧ hh.length ≤ pb ∧ pb < h3.length) := by
    rcases hbuf with ⟨e1, rfl⟩ | ⟨b, m, rfl, e2, e3, e4⟩
    · have : n = 0 := by
        have := congrArg List.length e1
        rw [pairsV_len] at this; simp at this; omega
      exact ⟨0, 2, by rw [this], .inl this⟩
    · rw [pairsV_len] at e2
      have : m = n := by omega
      subst this
      exact ⟨b, 2, rfl, .inr ⟨cellsAt_all e4 (by rw [pairsV_len]; omega), e3, at_lt e4⟩⟩
  simp (disch := omega)
  refine awp_loop (fun (k : Nat) σ h' => k ≤ n ∧ Mod bb (bb + 1) h3 h' ∧ Grows hB h' ∧ σ 1 = I X ∧ σ 2 = I Y ∧ σ 4 = .agg #[I W, I H, sl bb 0 N zz] ∧ σ 7 = .agg #[I w, I h, sl b0 o0 br.length z0] ∧ σ 11 = sl pb 0 n pz ∧ σ 12 = I n ∧ σ 13 = I k ∧
    (N = 0 ∨ h'[bb]? = some ⟨ints (fillG g f (fun j => P j || inPart W H w h X Y k j) N), true⟩)) (fun k => n - k) 0 ?_ ?_
  · refine ⟨by omega, Mod.refl _ _ _, GB.trans g3, by simp, by simp, by simp, by simp, by simp, by simp, by simp, ?_⟩
    refine hb.imp id fun hb => ?_
    rw [g3.at hb]
    congr 3
    exact fillG_same fun j _ => by simp [inPart_zero]
  · rintro k σ h' ⟨hk, hmd, gB', q1, q2, q4, q7, q11, q12, q13, hb⟩
    simp (disch := omega) [q12, q13]
    refine fork_dec (fun hlt => ?_) (fun hge => ?_)
    · have k1 : k < n := by omega
      obtain ⟨hpc, hp1, hp2⟩ := hpc.resolve_left (by omega)
      have hpt := hl k (by omega)
      have hN0 : N ≠ 0 := by
        obtain ⟨d1, d2, d3⟩ := hpt.bd
        have d4 := hpt.y1
        have d5 := hpt.y2
        have := numP_lt (W := W) (H := H) (x := (l[k]'(by omega)).1 + 2 * X) (y := (l[k]'(by omega)).2 + 2 * Y) (by omega) (by omega) (by omega)
        omega
      have hb := hb.resolve_left hN0
      have hbl := hbl.resolve_left hN0
      have hle := hle.resolve_left hN0
      have hpc' : cellsAt h' pb 0 (n * 2) = some (pairsV l) := by
        unfold cellsAt at hpc ⊢
        rw [hmd.2 pb hp2 (by omega)]; exact hpc
      have hcp := cellsAt_in (i := k * 2) (m := 2) hpc' (by omega)
      rw [pairs_get l k (by omega)] at hcp
      obtain ⟨px, hpx⟩ : ∃ px, px = (l[k]'(by omega)).1 := ⟨_, rfl⟩
      obtain ⟨py, hpy⟩ : ∃ py, py = (l[k]'(by omega)).2 := ⟨_, rfl⟩
      rw [← hpx, ← hpy] at hpt
      have hpv : pairV (l[k]'(by omega)) = [I px, I py] := by rw [hpx, hpy]; rfl
      rw [hpv] at hcp
      obtain ⟨d1, d2, d3⟩ := hpt.bd
      have d4 := hpt.y1
      have d5 := hpt.y2
      obtain ⟨X', hX'⟩ : ∃ X', X' = px + 2 * X := ⟨_, rfl⟩
      obtain ⟨Y', hY'⟩ : ∃ Y', Y' = py + 2 * Y := ⟨_, rfl⟩
      have hnum := numP_lt (W := W) (H := H) (x := X') (y := Y') (by omega) (by omega) (by omega)
      rw [← hN] at hnum
      have hkb : k < br.length := by omega
      have hfk : at0 br k = f (numP W X' Y') := by rw [hX', hY']; exact hfit k px py hpt (by omega)
      have hcell := ints_cell (hc0.imp id (grows_cellsAt gB')) hkb
      rw [← at0_of hkb, hfk] at hcell
      simp only [Nat.zero_add] at hcp
      simp (disch := omega) [q1, q2, q4, q7, q11, q13, k1, hcp]
      refine callW_of (c188 h' px py X Y (by omega) (by omega) (by omega) (by omega)) ?_
      rintro _ h' ⟨rfl, rfl⟩
      refine ⟨fun _ => Grows.refl _, ?_⟩
      rw [show (px : Int) + 2 * (X : Int) = ((X' : Nat) : Int) by omega, show (py : Int) + 2 * (Y : Int) = ((Y' : Nat) : Int) by omega]
      refine callW_of (c40 h' W H X' Y' _ (by omega) (by omega) (by omega) (by omega) (by omega)) ?_
      rintro _ h' ⟨rfl, rfl⟩
      refine ⟨fun _ => Grows.refl _, ?_⟩
      have hst := store_fillG (P' := fun j => P j || inPart W H w h X Y (k + 1) j) hb hnum rfl (fun j hj => by
        rw [inPart_step W1 H1 hXw hYh hpt (by omega), ← hX', ← hY', Bool.or_assoc])
      simp (disch := omega) [q1, q2, q4, q7, q11, q12, q13, hkb, hnum, hcell, hst, wrap64]
      exact ⟨k + 1, ⟨by omega, hmd.put (by omega) _, gB'.put (by omega) _, by omega, .inr (by simp [at_lt hb])⟩, by omega⟩
    · have hkn : k = n := by omega
      subst hkn
      simp (disch := omega)
      exact ⟨(g3.mod).trans hmd, gB', hb⟩

theorem c551g (g : Nat → Int) (hgb : ∀ k, I64 (g k)) (hh : Heap) (hp : 0 < hh.length) (W H w h X Y bb zz bo : Nat) (v : Value) (br : List Int) (f : Nat → Int) (P : Nat → Bool) (hB : Heap) (hv : PtP hB v (w, h, br)) (GB : Grows hB hh) (hle : rowN W (2 * H) = 0 ∨ hB.length ≤ bb) (hbr : br.length = rowN w (2 * h)) (W1 : 1 ≤ W) (W8 : W < 9) (H1 : 1 ≤ H) (H8 : H < 9) (w1 : 1 ≤ w) (h1 : 1 ≤ h) (hXw : X + w ≤ W) (hYh : Y + h ≤ H)
    (hbo : hh[bo]? = some ⟨[I W, I H, sl bb 0 (rowN W (2 * H)) zz], true⟩) (hne : rowN W (2 * H) = 0 ∨ bo ≠ bb) (hz : zz = 1 ∨ rowN W (2 * H) = 0) (hb : rowN W (2 * H) = 0 ∨ hh[bb]? = some ⟨ints (fillG g f P (rowN W (2 * H))), true⟩) (hfit : Fits f W w h X Y br) (hfb : ∀ k, I64 (f k)) :
    ACall Gam 551 [pt bo 0, I X, I Y, v] hh fun r h' => Mod bb (bb + 1) hh h' ∧ Grows hB h' ∧ h'[bo]? = some ⟨[I W, I H, sl bb 0 (rowN W (2 * H)) zz], true⟩ ∧ (rowN W (2 * H) = 0 ∨ h'[bb]? = some ⟨ints (fillG g f (fun j => P j || inPart W H w h X Y (rowN w (2 * h)) j) (rowN W (2 * H))), true⟩) := by
  obtain ⟨N, hN⟩ : ∃ N, N = rowN W (2 * H) := ⟨_, rfl⟩
  rw [← hN] at hb hbo hz hle hne ⊢
  obtain ⟨n, hn⟩ : ∃ n, n = rowN w (2 * h) := ⟨_, rfl⟩
  rw [← hn] at hbr ⊢
  have hN128 : N ≤ 128 := by rw [hN]; exact rowN_le W8 (by omega)
  have hn128 : n ≤ 128 := by rw [hn]; exact rowN_le (by omega) (by omega)
  have hv0 := hv
  obtain ⟨b, o, s, rfl, y1, y2, y3, r0, v1, v2⟩ := hv
  obtain ⟨b0, o0, z0, rfl, _, hm0, hx0, hc0⟩ := r0.ints
  refine ACall_intro g551 rfl ?_
  unfold fn551
  simp (disch := omega)
  refine awp_loop (fun (k : Nat) σ h' => k ≤ n ∧ Mod bb (bb + 1) hh h' ∧ Grows hB h' ∧ h'[bo]? = some ⟨[I W, I H, sl bb 0 N zz], true⟩ ∧ σ 0 = pt bo 0 ∧ σ 1 = I X ∧ σ 2 = I Y ∧ σ 3 = pt b o ∧ σ 8 = I k ∧
    (N = 0 ∨ h'[bb]? = some ⟨ints (fillG g f (fun j => P j || inPart W H w h X Y k j) N), true⟩)) (fun k => n - k) 0 ?_ ?_
  · refine ⟨by omega, Mod.refl _ _ _, GB, hbo, by simp, by simp, by simp, by simp, by simp, ?_⟩
    refine hb.imp id fun hb => ?_
    rw [hb]
    congr 3
    exact fillG_same fun j _ => by simp [inPart_zero]
  · rintro k σ h' ⟨hk, hmd, gB', hbo', q0, q1, q2, q3, q8, hb⟩
    have c3 := gB'.cell y3
    simp (disch := omega) [q3, q8, c3]
    refine fork_dec (fun hlt => ?_) (fun hge => ?_)
    · have k1 : k < n := by omega
      have hpt0 := hv0.grow gB'
      simp (disch := omega) [q3, q8]
      refine callW_of (c454 h' _ _ w h k hpt0 rfl rfl (by omega) (by omega) (by omega) (by omega) (by omega)) ?_
      rintro _ h' ⟨⟨px, py, hpt, rfl⟩, rfl⟩
      obtain ⟨d1, d2, d3⟩ := hpt.bd
      have d4 := hpt.y1
      have d5 := hpt.y2
      obtain ⟨X', hX'⟩ : ∃ X', X' = px + 2 * X := ⟨_, rfl⟩
      obtain ⟨Y', hY'⟩ : ∃ Y', Y' = py + 2 * Y := ⟨_, rfl⟩
      have hnum := numP_lt (W := W) (H := H) (x := X') (y := Y') (by omega) (by omega) (by omega)
      rw [← hN] at hnum
      have hb := hb.resolve_left (by omega)
      have hz := hz.resolve_right (by omega)
      have hle := hle.resolve_left (by omega)
      have hne := hne.resolve_left (by omega)
      have hkb : k < br.length := by omega
      have hfk : at0 br k = f (numP W X' Y') := by rw [hX', hY']; exact hfit k px py hpt (by omega)
      have hcell := ints_cell (hc0.imp id (grows_cellsAt gB')) hkb
      rw [← at0_of hkb, hfk] at hcell
      have hvo : Vr h' shInts (sl bb 0 N zz) (fillG g f (fun j => P j || inPart W H w h X Y k j) N) := by
        have := Vr.of_ints (h := h') (b := bb) (o := 0) (z := zz) (X := fillG g f (fun j => P j || inPart W H w h X Y k j) N) (.inl hz) (by rw [fillG_len, maxLen_eq]; omega) (by
          intro a ha
          obtain ⟨j, _, rfl⟩ := List.mem_map.1 ha
          have := hfb j
          split
          · exact this
          · exact hgb j) (.inr (by rw [cellsAt_of hb (by simp [ints, fillG_len])]; simp [ints, fillG_len, List.take_of_length_le]))
        rw [fillG_len] at this
        exact this
      have hpo : PtP h' (pt bo 0) ((W : Int), (H : Int), fillG g f (fun j => P j || inPart W H w h X Y k j) N) := PtP.at hbo' hvo (by unfold I64; omega) (by unfold I64; omega)
      have cl : cell h' bo 2 = some (sl bb 0 N zz) := by simp [cell, hbo']
      have ex : (px : Int) + 2 * (X : Int) = ((X' : Nat) : Int) := by omega
      have ey : (py : Int) + 2 * (Y : Int) = ((Y' : Nat) : Int) := by omega
      simp (disch := omega) [q0, q1, q2, q3, q8, cl, wrap64, ex, ey]
      refine callW_of (c451 h' _ _ W X' Y' hpo rfl (by omega) (by omega) (by omega) (by omega)) ?_
      rintro _ h' ⟨rfl, rfl⟩
      refine ⟨fun _ => Grows.refl _, ?_⟩
      have hst := store_fillG (P' := fun j => P j || inPart W H w h X Y (k + 1) j) hb hnum rfl (fun j hj => by
        rw [inPart_step W1 H1 hXw hYh hpt (by omega), ← hX', ← hY', Bool.or_assoc])
      simp (disch := omega) [q0, q1, q2, q3, q8, c3, hkb, hnum, hcell, hst, wrap64]
      exact ⟨k + 1, ⟨by omega, hmd.put (by omega) _, gB'.put (by omega) _, by first | exact hbo' | (rw [List.getElem?_set_ne (fun e => hne e.symm)]; exact hbo'), by omega, .inr (by simp [at_lt hb])⟩, by omega⟩
    · have hkn : k = n := by omega
      subst hkn
      simp (disch := omega)
      exact ⟨hmd, gB', hbo', hb⟩

/-! ### the law's two sides -/
noncomputable def pasteF (W H w X Y : Nat) (br : List Int) (i : Nat) : Int := at0 br (numP w ((thePt W H i).1 - 2 * X) ((thePt W H i).2 - 2 * Y))
noncomputable def pasteP (P Q : Pan) (x y : Int) : Pan := (P.1, P.2.1, fillG (at0 P.2.2) (pasteF P.1.toNat P.2.1.toNat Q.1.toNat x.toNat y.toNat Q.2.2) (inPart P.1.toNat P.2.1.toNat Q.1.toNat Q.2.1.toNat x.toNat y.toNat (rowN Q.1.toNat (2 * Q.2.1.toNat))) (rowN P.1.toNat (2 * P.2.1.toNat)))
noncomputable def pasteAns (P : Pan) (x y : Int) (Q : Pan) : Pan × Int := if okP P && okP Q then (if hasPart P x y Q.1 Q.2.1 then (pasteP P Q x y, 0) else ((0, 0, []), 2)) else ((0, 0, []), 1)
theorem paste_siz (P : Pan) (x y : Int) (Q : Pan) : siz shPanel (pasteAns P x y Q).1 ≤ 16777216 := by
  unfold pasteAns
  split
  · rename_i hok
    simp only [Bool.and_eq_true] at hok
    have o1 := okP_iff.1 hok.1
    have a1 := o1.w; have a2 := o1.h
    split
    · show siz shPanel (_, _, _) ≤ _
      rw [siz_panel]
      simp only [fillG_len]
      have := rowN_le (W := P.1.toNat) (by omega) (y := 2 * P.2.1.toNat) (by omega)
      omega
    · rw [siz_panel]; simp
  · rw [siz_panel]; simp
theorem paste_fits {W H w h X Y : Nat} {br : List Int} (w1 : 1 ≤ w) (h1 : 1 ≤ h) (hXw : X + w ≤ W) (hYh : Y + h ≤ H) : Fits (pasteF W H w X Y br) W w h X Y br := by
  intro k px py hpt hk
  obtain ⟨d1, d2, d3⟩ := hpt.bd
  have d4 := hpt.y1
  have d5 := hpt.y2
  have hN := numP_pt (W := W) (H := H) (x := px + 2 * X) (y := py + 2 * Y) (by omega) (by omega) (by omega)
  unfold pasteF
  rw [thePt_eq hN]
  simp only
  rw [Nat.add_sub_cancel, Nat.add_sub_cancel, hpt.num]
theorem paste_done {h : Heap} {bb zz n lo : Nat} {g f : Nat → Int} {P : Nat → Bool} (hz : zz = 1 ∨ bb = 0 ∧ n = 0) (hn : n ≤ 128) (hg : ∀ k, I64 (g k)) (hf : ∀ k, I64 (f k)) (hb : n = 0 ∨ h[bb]? = some ⟨ints (fillG g f P n), true⟩) (hlo : n = 0 ∨ lo ≤ bb) :
    Vo h lo h.length shInts (sl bb 0 n zz) (fillG g f P n) := by
  have hul : (fillG g f P n).length = n := fillG_len _ _ _ _
  have := Vo.of_ints (h := h) (b := bb) (lo := lo) (hi := h.length) (z := zz) (X := fillG g f P n) (by
    rcases hz with e | ⟨e, e'⟩
    · exact .inl e
    · exact .inr ⟨e, by rw [e']; rfl⟩) (by rw [hul, maxLen_eq]; omega) (by
    intro x hx
    obtain ⟨j, _, rfl⟩ := List.mem_map.1 hx
    split
    · exact hf j
    · exact hg j) (by
    by_cases hk0 : n = 0
    · exact .inl (by rw [hk0]; rfl)
    · exact .inr ⟨hb.resolve_left hk0, hlo.resolve_left hk0, at_lt (hb.resolve_left hk0)⟩)
  rw [hul] at this
  exact this
theorem rng_64 {x : Int} (h : 0 ≤ x ∧ x ≤ 2) : I64 x := by unfold I64; omega

theorem c114 (hh : Heap) (hp : 0 < hh.length) (v0 : Value) (X0 : Pan) (hv0 : Vr hh shPanel v0 X0) (hs0 : siz shPanel X0 ≤ 1048576) (x : Int) (wx : I64 x) (y : Int) (wy : I64 y) (v1 : Value) (X1 : Pan) (hv1 : Vr hh shPanel v1 X1) (hs1 : siz shPanel X1 ≤ 1048576) :
    ACall Gam 114 [v0, I x, I y, v1] hh fun r h' => Grows hh h' ∧ ∃ r0, r = .tuple #[r0, I (pasteAns X0 x y X1).2] ∧ Vo h' hh.length h'.length shPanel r0 (pasteAns X0 x y X1).1 ∧ siz shPanel (pasteAns X0 x y X1).1 ≤ 16777216 := by
  have hsz := paste_siz X0 x y X1
  obtain ⟨W0, H0, a⟩ := X0
  obtain ⟨W1, H1, b⟩ := X1
  have hv0' := hv0
  have hv1' := hv1
  obtain ⟨s0, rfl, w0, x0, r0⟩ := hv0.panel
  obtain ⟨s1, rfl, w1, x1, r1⟩ := hv1.panel
  refine ACall_intro g114 rfl ?_
  unfold fn114
  simp (disch := omega)
  refine callW_of (c140 _ _ hh hv0') ?_
  rintro _ h1 ⟨rfl, rfl⟩
  cases q0 : okP (W0, H0, a)
  · have e : pasteAns (W0, H0, a) x y (W1, H1, b) = ((0, 0, []), 1) := by simp [pasteAns, q0]
    rw [e] at hsz ⊢
    simp (disch := omega) [resOf, resAll, resOne, aField]
    exact ⟨Grows.refl _, Vo.zero_panel, hsz⟩
  simp (disch := omega)
  refine callW_of (c140 _ _ h1 hv1') ?_
  rintro _ h1 ⟨rfl, rfl⟩
  cases q1 : okP (W1, H1, b)
  · have e : pasteAns (W0, H0, a) x y (W1, H1, b) = ((0, 0, []), 1) := by simp [pasteAns, q1]
    rw [e] at hsz ⊢
    simp (disch := omega) [resOf, resAll, resOne, aField]
    exact ⟨Grows.refl _, Vo.zero_panel, hsz⟩
  have ok0 := okP_iff.1 q0
  have ok1 := okP_iff.1 q1
  simp (disch := omega)
  refine callW_of (c33 h1 _ _ x y W1 H1 hv0' ok0) ?_
  rintro _ h1 ⟨rfl, rfl⟩
  cases qp : hasPart (W0, H0, a) x y W1 H1
  · have e : pasteAns (W0, H0, a) x y (W1, H1, b) = ((0, 0, []), 2) := by simp [pasteAns, q0, q1, qp]
    rw [e] at hsz ⊢
    simp (disch := omega) [resOf, resAll, resOne, aField]
    exact ⟨Grows.refl _, Vo.zero_panel, hsz⟩
  have e : pasteAns (W0, H0, a) x y (W1, H1, b) = (pasteP (W0, H0, a) (W1, H1, b) x y, 0) := by simp [pasteAns, q0, q1, qp]
  rw [e] at hsz ⊢
  have hq := hasPart_iff.1 qp
  obtain ⟨okW, okH, okn, okb⟩ := ok0
  obtain ⟨okW1, okH1, okn1, okb1⟩ := ok1
  simp only at okW okH okn okb okW1 okH1 okn1 okb1 hq
  obtain ⟨W, rfl⟩ := Int.eq_ofNat_of_zero_le (show 0 ≤ W0 by omega)
  obtain ⟨H, rfl⟩ := Int.eq_ofNat_of_zero_le (show 0 ≤ H0 by omega)
  obtain ⟨w, rfl⟩ := Int.eq_ofNat_of_zero_le (show 0 ≤ W1 by omega)
  obtain ⟨h, rfl⟩ := Int.eq_ofNat_of_zero_le (show 0 ≤ H1 by omega)
  obtain ⟨X, rfl⟩ := Int.eq_ofNat_of_zero_le (show 0 ≤ x by omega)
  obtain ⟨Y, rfl⟩ := Int.eq_ofNat_of_zero_le (show 0 ≤ y by omega)
  have hal : a.length = rowN W (2 * H) := by
    have := inner_row (w := W) (h := H) (by omega) (by omega) (by omega) (by omega)
    omega
  have hbl : b.length = rowN w (2 * h) := by
    have := inner_row (w := w) (h := h) (by omega) (by omega) (by omega) (by omega)
    omega
  have hN128 := rowN_le (W := W) (by omega) (y := 2 * H) (by omega)
  obtain ⟨f, hf⟩ : ∃ f, f = pasteF W H w X Y b := ⟨_, rfl⟩
  have hpe : pasteP ((W : Int), (H : Int), a) ((w : Int), (h : Int), b) X Y = ((W : Int), (H : Int), fillG (at0 a) f (inPart W H w h X Y (rowN w (2 * h))) (rowN W (2 * H))) := by
    simp [pasteP, hf]
  rw [hpe] at hsz ⊢
  simp (disch := omega)
  refine callW_of (c150 h1 _ _ hp hv0' (by rw [siz_panel] at hs0; exact hs0)) ?_
  rintro _ h2 ⟨g2, o2⟩
  obtain ⟨so, rfl, v1, v2, o2⟩ := o2.panel
  obtain ⟨bb, zz, rfl, hz, hm, hx, hc⟩ := o2.ints
  have hz1 : zz = 1 ∨ bb = 0 ∧ rowN W (2 * H) = 0 := hz.imp id fun e => ⟨e.1, by rw [← hal, e.2]; rfl⟩
  have hc1 : rowN W (2 * H) = 0 ∨ h2[bb]? = some ⟨ints (fillG (at0 a) f (fun _ => false) (rowN W (2 * H))), true⟩ := by
    rw [← hal, fillG_none fun _ _ => rfl]
    exact hc.imp (fun e => by rw [e]; rfl) fun e => e.1
  have hlo : rowN W (2 * H) = 0 ∨ h1.length ≤ bb := by
    rw [← hal]
    exact hc.imp (fun e => by rw [e]; rfl) fun e => e.2.1
  rw [hal]
  simp (disch := omega)
  refine callW_of (c46g (at0 a) h2 (pos_of hp g2) W H w h X Y bb zz _ b f (fun _ => false) h1 hv1' g2 hlo hbl (by omega) (by omega) (by omega) (by omega) (by omega) (by omega) (by omega) (by omega) hc1 (by rw [hf]; exact paste_fits (by omega) (by omega) (by omega) (by omega))) ?_
  rintro _ h3 ⟨md3, G3, hb3⟩
  have ho := paste_done (h := h3) (lo := h1.length) hz1 hN128 (fun k => rng_64 (at0_rng okb k)) (fun k => rng_64 (by rw [hf]; exact at0_rng okb1 _)) hb3 hlo
  simp (disch := omega) [resOf, resAll, resOne, aField]
  simp only [Bool.false_or] at ho
  exact ⟨G3, Vo.of_panel v1 v2 ho, hsz⟩
theorem c406 (hh : Heap) (hp : 0 < hh.length) (v0 : Value) (X0 : Pan) (hv0 : Vr hh shPanel v0 X0) (hs0 : siz shPanel X0 ≤ 1048576) (x : Int) (wx : I64 x) (y : Int) (wy : I64 y) (v1 : Value) (X1 : Pan) (hv1 : Vr hh shPanel v1 X1) (hs1 : siz shPanel X1 ≤ 1048576) :
    ACall Gam 406 [v0, I x, I y, v1] hh fun r h' => Grows hh h' ∧ ∃ r0, r = .tuple #[r0, I (pasteAns X0 x y X1).2] ∧ Vo h' hh.length h'.length shPanel r0 (pasteAns X0 x y X1).1 ∧ siz shPanel (pasteAns X0 x y X1).1 ≤ 16777216 := by
  have hsz := paste_siz X0 x y X1
  obtain ⟨W0, H0, a⟩ := X0
  obtain ⟨W1, H1, b⟩ := X1
  obtain ⟨s0, rfl, w0, x0, r0⟩ := hv0.panel
  obtain ⟨s1, rfl, w1, x1, r1⟩ := hv1.panel
  refine ACall_intro g406 rfl ?_
  unfold fn406
  simp (disch := omega)
  obtain ⟨ha, eha⟩ : ∃ ha, ha = hh ++ [⟨[I W0, I H0, s0], true⟩] ++ [⟨[I W1, I H1, s1], true⟩] := ⟨_, rfl⟩
  have ga : Grows hh ha := ⟨[⟨[I W0, I H0, s0], true⟩, ⟨[I W1, I H1, s1], true⟩], by rw [eha]; simp⟩
  have ka : ha[hh.length]? = some ⟨[I W0, I H0, s0], true⟩ := by rw [eha]; simp
  have kb : ha[hh.length + 1]? = some ⟨[I W1, I H1, s1], true⟩ := by rw [eha]; simp
  have la : ha.length = hh.length + 2 := by rw [eha]; simp
  simp only [List.append_assoc, List.cons_append, List.nil_append] at eha
  try rw [← eha]
  have hpt0 : PtP ha (pt hh.length 0) (W0, H0, a) := PtP.at ka (r0.grow ga) w0 x0
  have hpt1 : PtP ha (pt (hh.length + 1) 0) (W1, H1, b) := PtP.at kb (r1.grow ga) w1 x1
  have cb0 : cell ha (hh.length + 1) 0 = some (I W1) := by simp [cell, kb]
  have cb1 : cell ha (hh.length + 1) 1 = some (I H1) := by simp [cell, kb]
  refine callW_of (c452 _ _ _ hpt0) ?_
  rintro _ h1 ⟨rfl, rfl⟩
  cases q0 : okP (W0, H0, a)
  · have e : pasteAns (W0, H0, a) x y (W1, H1, b) = ((0, 0, []), 1) := by simp [pasteAns, q0]
    rw [e] at hsz ⊢
    simp (disch := omega) [resOf, resAll, resOne, aField]
    exact ⟨ga, Vo.zero_panel, hsz⟩
  simp (disch := omega)
  refine callW_of (c452 _ _ _ hpt1) ?_
  rintro _ h1 ⟨rfl, rfl⟩
  cases q1 : okP (W1, H1, b)
  · have e : pasteAns (W0, H0, a) x y (W1, H1, b) = ((0, 0, []), 1) := by simp [pasteAns, q1]
    rw [e] at hsz ⊢
    simp (disch := omega) [resOf, resAll, resOne, aField]
    exact ⟨ga, Vo.zero_panel, hsz⟩
  have ok0 := okP_iff.1 q0
  have ok1 := okP_iff.1 q1
  simp (disch := omega) [cb0, cb1]
  refine callW_of (c549 h1 _ _ x y W1 H1 hpt0 ok0) ?_
  rintro _ h1 ⟨rfl, rfl⟩
  cases qp : hasPart (W0, H0, a) x y W1 H1
  · have e : pasteAns (W0, H0, a) x y (W1, H1, b) = ((0, 0, []), 2) := by simp [pasteAns, q0, q1, qp]
    rw [e] at hsz ⊢
    simp (disch := omega) [resOf, resAll, resOne, aField]
    exact ⟨ga, Vo.zero_panel, hsz⟩
  have e : pasteAns (W0, H0, a) x y (W1, H1, b) = (pasteP (W0, H0, a) (W1, H1, b) x y, 0) := by simp [pasteAns, q0, q1, qp]
  rw [e] at hsz ⊢
  have hq := hasPart_iff.1 qp
  obtain ⟨okW, okH, okn, okb⟩ := ok0
  obtain ⟨okW1, okH1, okn1, okb1⟩ := ok1
  simp only at okW okH okn okb okW1 okH1 okn1 okb1 hq
  obtain ⟨W, rfl⟩ := Int.eq_ofNat_of_zero_le (show 0 ≤ W0 by omega)
  obtain ⟨H, rfl⟩ := Int.eq_ofNat_of_zero_le (show 0 ≤ H0 by omega)
  obtain ⟨w, rfl⟩ := Int.eq_ofNat_of_zero_le (show 0 ≤ W1 by omega)
  obtain ⟨h, rfl⟩ := Int.eq_ofNat_of_zero_le (show 0 ≤ H1 by omega)
  obtain ⟨X, rfl⟩ := Int.eq_ofNat_of_zero_le (show 0 ≤ x by omega)
  obtain ⟨Y, rfl⟩ := Int.eq_ofNat_of_zero_le (show 0 ≤ y by omega)
  have hal : a.length = rowN W (2 * H) := by
    have := inner_row (w := W) (h := H) (by omega) (by omega) (by omega) (by omega)
    omega
  have hbl : b.length = rowN w (2 * h) := by
    have := inner_row (w := w) (h := h) (by omega) (by omega) (by omega) (by omega)
    omega
  have hN128 := rowN_le (W := W) (by omega) (y := 2 * H) (by omega)
  obtain ⟨f, hf⟩ : ∃ f, f = pasteF W H w X Y b := ⟨_, rfl⟩
  have hpe : pasteP ((W : Int), (H : Int), a) ((w : Int), (h : Int), b) X Y = ((W : Int), (H : Int), fillG (at0 a) f (inPart W H w h X Y (rowN w (2 * h))) (rowN W (2 * H))) := by
    simp [pasteP, hf]
  rw [hpe] at hsz ⊢
  simp (disch := omega)
  refine callW_of (c453 h1 _ _ (pos_of hp ga) hpt0 (by rw [siz_panel] at hs0; exact hs0)) ?_
  rintro _ h2 ⟨g2, o2⟩
  obtain ⟨so, rfl, v1, v2, o2⟩ := o2.panel
  obtain ⟨bb, zz, rfl, hz, hm, hx, hc⟩ := o2.ints
  have hz1 : zz = 1 ∨ bb = 0 ∧ rowN W (2 * H) = 0 := hz.imp id fun e => ⟨e.1, by rw [← hal, e.2]; rfl⟩
  rw [hal]
  have hsb : storeAt (h2 ++ [⟨[I 0, I 0, sl 0 0 0 0], true⟩]) h2.length 0 [I W, I H, sl bb 0 (rowN W (2 * H)) zz] = some (h2 ++ [⟨[I W, I H, sl bb 0 (rowN W (2 * H)) zz], true⟩]) := store_box rfl
  simp (disch := omega) [hsb]
  obtain ⟨h3, e3⟩ : ∃ h3, h3 = h2 ++ [⟨[I W, I H, sl bb 0 (rowN W (2 * H)) zz], true⟩] := ⟨_, rfl⟩
  rw [← e3]
  have g3 : Grows h2 h3 := ⟨_, e3⟩
  have l3 : h3.length = h2.length + 1 := by rw [e3]; simp
  have k3 : h3[h2.length]? = some ⟨[I W, I H, sl bb 0 (rowN W (2 * H)) zz], true⟩ := by rw [e3]; simp
  have hf64 : ∀ k, I64 (f k) := fun k => rng_64 (by rw [hf]; exact at0_rng okb1 _)
  have hc1 : rowN W (2 * H) = 0 ∨ h3[bb]? = some ⟨ints (fillG (at0 a) f (fun _ => false) (rowN W (2 * H))), true⟩ := by
    rw [← hal, fillG_none fun _ _ => rfl]
    exact hc.imp (fun e => by rw [e]; rfl) fun e => g3.at e.1
  have hlo : rowN W (2 * H) = 0 ∨ h1.length ≤ bb := by
    rw [← hal]
    exact hc.imp (fun e => by rw [e]; rfl) fun e => e.2.1
  have hne : rowN W (2 * H) = 0 ∨ h2.length ≠ bb := by
    rw [← hal]
    exact hc.imp (fun e => by rw [e]; rfl) fun e => by omega
  have G3 := g2.trans g3
  refine callW_of (c551g (at0 a) (fun k => rng_64 (at0_rng okb k)) h3 (pos_of hp (ga.trans G3)) W H w h X Y bb zz h2.length _ b f (fun _ => false) h1 hpt1 G3 hlo hbl (by omega) (by omega) (by omega) (by omega) (by omega) (by omega) (by omega) (by omega) k3 hne (hz1.imp id fun e => e.2) hc1 (by rw [hf]; exact paste_fits (by omega) (by omega) (by omega) (by omega)) hf64) ?_
  rintro _ h4 ⟨md4, G4, k4, hb4⟩
  have ho := paste_done (h := h4) (lo := hh.length) hz1 hN128 (fun k => rng_64 (at0_rng okb k)) hf64 hb4 (hlo.imp id fun e => by omega)
  have cw : cellsAt h4 h2.length 0 3 = some [I W, I H, sl bb 0 (rowN W (2 * H)) zz] := by rw [cellsAt_of k4 (by simp)]; simp
  simp (disch := omega) [cw, resOf, resAll, resOne, aField]
  simp only [Bool.false_or] at ho
  exact ⟨ga.trans G4, Vo.of_panel v1 v2 ho, hsz⟩
end Am
/-! AmP15 -/
set_option linter.unusedVariables false
set_option linter.unusedSimpArgs false
set_option linter.unusedSectionVars false
set_option maxHeartbeats 4000000
set_option maxRecDepth 4000
namespace Am
open Go

noncomputable def joinF (aW bW H : Nat) (a b : List Int) (i : Nat) : Int :=
  if (thePt (aW + bW) H i).1 = 2 * aW then 1 else if (thePt (aW + bW) H i).1 < 2 * aW then at0 a (numP aW (thePt (aW + bW) H i).1 (thePt (aW + bW) H i).2) else at0 b (numP bW ((thePt (aW + bW) H i).1 - 2 * aW) (thePt (aW + bW) H i).2)
noncomputable def joinP (X Y : Pan) : Pan := (X.1 + Y.1, X.2.1, (List.range (rowN (X.1.toNat + Y.1.toNat) (2 * X.2.1.toNat))).map (joinF X.1.toNat Y.1.toNat X.2.1.toNat X.2.2 Y.2.2))
noncomputable def joinAns (X Y : Pan) : Pan × Int := if okP X && okP Y then (if X.2.1 = Y.2.1 then (if X.1 + Y.1 ≤ 8 then (joinP X Y, 0) else ((0, 0, []), 5)) else ((0, 0, []), 6)) else ((0, 0, []), 1)
theorem join_siz (X Y : Pan) : siz shPanel (joinAns X Y).1 ≤ 16777216 := by
  unfold joinAns
  split
  · rename_i hok
    simp only [Bool.and_eq_true] at hok
    have o1 := okP_iff.1 hok.1
    have o2 := okP_iff.1 hok.2
    have a1 := o1.w; have a2 := o1.h; have a3 := o2.w
    split
    · split
      · rename_i hle
        show siz shPanel (_, _, _) ≤ _
        rw [siz_panel]
        simp only [List.length_map, List.length_range]
        have := rowN_le (W := X.1.toNat + Y.1.toNat) (by omega) (y := 2 * X.2.1.toNat) (by omega)
        omega
      · rw [siz_panel]; simp
    · rw [siz_panel]; simp
  · rw [siz_panel]; simp

/-- The uprights that have been put in. -/
noncomputable def upP (W H c m : Nat) (j : Nat) : Bool := decide ((thePt W H j).1 = 2 * c ∧ (thePt W H j).2 < 2 * m + 1)
theorem upP_zero {W H c j : Nat} (w1 : 1 ≤ W) (h1 : 1 ≤ H) (hj : j < rowN W (2 * H)) : upP W H c 0 j = false := by
  obtain ⟨x, y, hP⟩ := IsPt.ex w1 h1 hj
  unfold upP
  rw [thePt_eq hP, decide_eq_false_iff_not]
  have := hP.y1
  simp only; omega
theorem upP_step {W H c m j : Nat} (w1 : 1 ≤ W) (h1 : 1 ≤ H) (hc : 1 ≤ c ∧ c < W) (hm : 2 * m + 1 < 2 * H) (hj : j < rowN W (2 * H)) : upP W H c (m + 1) j = (upP W H c m j || j == numP W (2 * c) (2 * m + 1)) := by
  obtain ⟨x, y, hP⟩ := IsPt.ex w1 h1 hj
  unfold upP
  rw [thePt_eq hP, Bool.eq_iff_iff]
  simp only [decide_eq_true_eq, Bool.or_eq_true, beq_iff_eq]
  obtain ⟨q1, q2, q3⟩ := hP.bd
  constructor
  · rintro ⟨a1, a2⟩
    by_cases e : y < 2 * m + 1
    · exact .inl ⟨a1, e⟩
    · right
      rw [← hP.num]
      congr 1; omega
  · rintro (⟨a1, a2⟩ | a)
    · exact ⟨a1, by omega⟩
    · have hN := numP_pt (W := W) (H := H) (x := 2 * c) (y := 2 * m + 1) (by omega) (by omega) (by omega)
      rw [← a] at hN
      obtain ⟨u1, u2⟩ := hP.uniq hN
      omega
section
variable {aW bW H : Nat} {a b : List Int} (w1 : 1 ≤ aW) (w2 : 1 ≤ bW) (h1 : 1 ≤ H)
include w1 w2 h1
theorem join_up {m : Nat} (hm : 2 * m + 1 < 2 * H) : joinF aW bW H a b (numP (aW + bW) (2 * aW) (2 * m + 1)) = 1 := by
  have hN := numP_pt (W := aW + bW) (H := H) (x := 2 * aW) (y := 2 * m + 1) (by omega) (by omega) (by omega)
  unfold joinF
  rw [thePt_eq hN, if_pos rfl]
theorem join_a : Fits (joinF aW bW H a b) (aW + bW) aW H 0 0 a := by
  intro k px py hpt hk
  obtain ⟨d1, d2, d3⟩ := hpt.bd
  have d4 := hpt.y1
  have d5 := hpt.y2
  have hN := numP_pt (W := aW + bW) (H := H) (x := px + 2 * 0) (y := py + 2 * 0) (by omega) (by omega) (by omega)
  unfold joinF
  rw [thePt_eq hN]
  simp only [Nat.mul_zero, Nat.add_zero]
  rw [if_neg (by omega), if_pos (by omega), hpt.num]
theorem join_b : Fits (joinF aW bW H a b) (aW + bW) bW H aW 0 b := by
  intro k px py hpt hk
  obtain ⟨d1, d2, d3⟩ := hpt.bd
  have d4 := hpt.y1
  have d5 := hpt.y2
  have hN := numP_pt (W := aW + bW) (H := H) (x := px + 2 * aW) (y := py + 2 * 0) (by omega) (by omega) (by omega)
  unfold joinF
  rw [thePt_eq hN]
  simp only [Nat.mul_zero, Nat.add_zero]
  rw [if_neg (by omega), if_neg (by omega), Nat.add_sub_cancel, hpt.num]
theorem join_cover {j : Nat} (hj : j < rowN (aW + bW) (2 * H)) : (upP (aW + bW) H aW H j || (inPart (aW + bW) H aW H 0 0 (rowN aW (2 * H)) j || inPart (aW + bW) H bW H aW 0 (rowN bW (2 * H)) j)) = true := by
  obtain ⟨x, y, hP⟩ := IsPt.ex (W := aW + bW) (by omega) h1 hj
  obtain ⟨q1, q2, q3⟩ := hP.bd
  have q4 := hP.y1
  have q5 := hP.y2
  unfold upP inPart
  rw [thePt_eq hP]
  simp only [Bool.or_eq_true, decide_eq_true_eq]
  by_cases e1 : x = 2 * aW
  · exact .inl ⟨e1, by omega⟩
  · right
    by_cases e2 : x < 2 * aW
    · left
      have := numP_lt (W := aW) (H := H) (x := x) (y := y) (by omega) (by omega) (by omega)
      exact ⟨by omega, by omega, by omega, by omega, by simpa using this⟩
    · right
      have := numP_lt (W := bW) (H := H) (x := x - 2 * aW) (y := y) (by omega) (by omega) (by omega)
      exact ⟨by omega, by omega, by omega, by omega, by simpa using this⟩
end
theorem joinF_rng {aW bW H : Nat} {a b : List Int} (ha : ∀ x ∈ a, 0 ≤ x ∧ x ≤ 2) (hb : ∀ x ∈ b, 0 ≤ x ∧ x ≤ 2) (k : Nat) : 0 ≤ joinF aW bW H a b k ∧ joinF aW bW H a b k ≤ 2 := by
  unfold joinF
  split
  · omega
  · split
    · exact at0_rng ha _
    · exact at0_rng hb _
theorem rowN_pos {W H : Nat} (w2 : 2 ≤ W) (h1 : 1 ≤ H) : 0 < rowN W (2 * H) := by
  have h := rowN_mono (W := W) (show 2 ≤ 2 * H by omega)
  have e : rowN W 2 = W - 1 := by
    show rowN W (1 + 1) = _
    rw [rowN_succ (Nat.le_refl 1)]; simp [rowN]
  omega

theorem c92 (hh : Heap) (hp : 0 < hh.length) (v0 : Value) (X0 : Pan) (hv0 : Vr hh shPanel v0 X0) (hs0 : siz shPanel X0 ≤ 1048576) (v1 : Value) (X1 : Pan) (hv1 : Vr hh shPanel v1 X1) (hs1 : siz shPanel X1 ≤ 1048576) :
    ACall Gam 92 [v0, v1] hh fun r h' => Grows hh h' ∧ ∃ r0, r = .tuple #[r0, I (joinAns X0 X1).2] ∧ Vo h' hh.length h'.length shPanel r0 (joinAns X0 X1).1 ∧ siz shPanel (joinAns X0 X1).1 ≤ 16777216 := by
  have hsz := join_siz X0 X1
  obtain ⟨W0, H0, a⟩ := X0
  obtain ⟨W1, H1, b⟩ := X1
  have hv0' := hv0
  have hv1' := hv1
  obtain ⟨s0, rfl, w0, x0, r0⟩ := hv0.panel
  obtain ⟨s1, rfl, w1, x1, r1⟩ := hv1.panel
  refine ACall_intro g92 rfl ?_
  unfold fn92
  simp (disch := omega)
  refine callW_of (c140 _ _ hh hv0') ?_
  rintro _ h1 ⟨rfl, rfl⟩
  cases q0 : okP (W0, H0, a)
  · have e : joinAns (W0, H0, a) (W1, H1, b) = ((0, 0, []), 1) := by simp [joinAns, q0]
    rw [e] at hsz ⊢
    simp (disch := omega) [resOf, resAll, resOne, aField]
    exact ⟨Grows.refl _, Vo.zero_panel, hsz⟩
  simp (disch := omega)
  refine callW_of (c140 _ _ h1 hv1') ?_
  rintro _ h1 ⟨rfl, rfl⟩
  cases q1 : okP (W1, H1, b)
  · have e : joinAns (W0, H0, a) (W1, H1, b) = ((0, 0, []), 1) := by simp [joinAns, q1]
    rw [e] at hsz ⊢
    simp (disch := omega) [resOf, resAll, resOne, aField]
    exact ⟨Grows.refl _, Vo.zero_panel, hsz⟩
  have ok0 := okP_iff.1 q0
  have ok1 := okP_iff.1 q1
  obtain ⟨okW, okH, okn, okb⟩ := ok0
  obtain ⟨okW1, okH1, okn1, okb1⟩ := ok1
  simp only at okW okH okn okb okW1 okH1 okn1 okb1
  simp (disch := omega)
  refine fork_dec (fun hH => ?_) (fun hH => ?_)
  rotate_left
  · have e : joinAns (W0, H0, a) (W1, H1, b) = ((0, 0, []), 6) := by simp [joinAns, q0, q1, hH]
    rw [e] at hsz ⊢
    simp (disch := omega) [resOf, resAll, resOne, aField]
    exact ⟨Grows.refl _, Vo.zero_panel, hsz⟩
  simp (disch := omega) [wrap64]
  subst hH
  refine fork_dec (fun hS => ?_) (fun hS => ?_)
  · have e : joinAns (W0, H0, a) (W1, H0, b) = ((0, 0, []), 5) := by
      have : ¬ W0 + W1 ≤ 8 := by omega
      simp [joinAns, q0, q1, this]
    rw [e] at hsz ⊢
    simp (disch := omega) [resOf, resAll, resOne, aField]
    exact ⟨Grows.refl _, Vo.zero_panel, hsz⟩
  have e : joinAns (W0, H0, a) (W1, H0, b) = (joinP (W0, H0, a) (W1, H0, b), 0) := by
    have : W0 + W1 ≤ 8 := by omega
    simp [joinAns, q0, q1, this]
  rw [e] at hsz ⊢
  obtain ⟨aW, rfl⟩ := Int.eq_ofNat_of_zero_le (show 0 ≤ W0 by omega)
  obtain ⟨H, rfl⟩ := Int.eq_ofNat_of_zero_le (show 0 ≤ H0 by omega)
  obtain ⟨bW, rfl⟩ := Int.eq_ofNat_of_zero_le (show 0 ≤ W1 by omega)
  have hal : a.length = rowN aW (2 * H) := by
    have := inner_row (w := aW) (h := H) (by omega) (by omega) (by omega) (by omega)
    omega
  have hbl : b.length = rowN bW (2 * H) := by
    have := inner_row (w := bW) (h := H) (by omega) (by omega) (by omega) (by omega)
    omega
  obtain ⟨Wo, hWo⟩ : ∃ Wo, Wo = aW + bW := ⟨_, rfl⟩
  have eWo : (aW : Int) + (bW : Int) = (Wo : Int) := by omega
  have hin := inner_row (w := Wo) (h := H) (by omega) (by omega) (by omega) (by omega)
  have hN0 := rowN_pos (W := Wo) (H := H) (by omega) (by omega)
  have hN128 := rowN_le (W := Wo) (by omega) (y := 2 * H) (by omega)
  obtain ⟨f, hf⟩ : ∃ f, f = joinF aW bW H a b := ⟨_, rfl⟩
  have hpe : joinP ((aW : Int), (H : Int), a) ((bW : Int), (H : Int), b) = ((Wo : Int), (H : Int), (List.range (rowN Wo (2 * H))).map f) := by
    simp only [joinP, Int.toNat_natCast]
    rw [eWo, ← hWo, ← hf]
  rw [hpe] at hsz ⊢
  simp (disch := omega) [wrap64, eWo]
  refine callW_of (c177 h1 Wo H (by omega) (by omega) hp) ?_
  rintro _ h2 ⟨g2, o2⟩
  obtain ⟨so, rfl, v1, v2, o2⟩ := o2.panel
  obtain ⟨bb, zz, rfl, hz, hm, hx, hc⟩ := o2.ints
  rw [hin] at hz hc ⊢
  simp only [List.length_replicate] at hc ⊢
  have hrne : List.replicate (rowN Wo (2 * H)) (0 : Int) ≠ [] := by
    intro e; have := congrArg List.length e; simp at this; omega
  have hc1 := hc.resolve_left hrne
  clear hc
  have hc := hc1
  have hz1 : zz = 1 := hz.resolve_right (fun e => hrne e.2)
  simp (disch := omega)
  refine awp_loop (fun (m : Nat) σ h' => m ≤ H ∧ Mod bb (bb + 1) h2 h' ∧ σ 2 = .agg #[I aW, I H, s0] ∧ σ 3 = .agg #[I bW, I H, s1] ∧ σ 4 = .agg #[I 0, I 0, sl 0 0 0 0] ∧ σ 6 = .agg #[I Wo, I H, sl bb 0 (rowN Wo (2 * H)) zz] ∧ σ 7 = I ((2 * m + 1 : Nat) : Int) ∧
    h'[bb]? = some ⟨ints (fillB f (upP Wo H aW m) (rowN Wo (2 * H))), true⟩) (fun m => H - m) 0 ?_ ?_
  · refine ⟨by omega, Mod.refl _ _ _, by simp, by simp, by simp, by simp, by simp, ?_⟩
    rw [fillB_none _ _ _ (fun j hj => upP_zero (by omega) (by omega) hj)]
    exact hc.1
  · rintro m σ h' ⟨hm', hmd, p2, p3, p4, p6, p7, hb⟩
    simp (disch := omega) [p2, p7, wrap64]
    refine fork_dec (fun hlt => ?_) (fun hge => ?_)
    · have hlt' : 2 * m + 1 < 2 * H := by omega
      have hnum := numP_lt (W := Wo) (H := H) (x := 2 * aW) (y := 2 * m + 1) (by omega) (by omega) (by omega)
      have hfk : (1 : Int) = f (numP Wo (2 * aW) (2 * m + 1)) := by rw [hf, hWo]; exact (join_up (by omega) (by omega) (by omega) hlt').symm
      have hst := store_fill (P' := upP Wo H aW (m + 1)) hb hnum hfk (fun j hj => upP_step (by omega) (by omega) (by omega) hlt' hj)
      have ex : 2 * (aW : Int) = ((2 * aW : Nat) : Int) := by omega
      have ey : 2 * (m : Int) + 1 = ((2 * m + 1 : Nat) : Int) := by omega
      have hcall := c40 h' Wo H (2 * aW) (2 * m + 1) (sl bb 0 (rowN Wo (2 * H)) zz) (by omega) (by omega) (by omega) (by omega) (by omega)
      simp only [Int.natCast_mul, Int.natCast_add, Int.natCast_one, Int.cast_ofNat_Int] at hcall
      simp (disch := omega) [p2, p6, p7, wrap64]
      refine callW_of hcall ?_
      rintro _ h' ⟨rfl, rfl⟩
      simp (disch := omega) [p2, p3, p4, p6, p7, hnum, hst, wrap64]
      exact ⟨m + 1, ⟨by omega, hmd.put (by omega) _, by omega, by simp [at_lt hb]⟩, by omega⟩
    · have : m = H := by omega
      subst this
      have G' := hmd.grows g2 hc.2.1
      simp (disch := omega) [p2, p3, p4, p6, p7]
      refine callW_of (c46 h' (pos_of hp G') Wo m aW m 0 0 bb zz _ a f (upP Wo m aW m) h1 hv0' G' hc.2.1 hal (by omega) (by omega) (by omega) (by omega) (by omega) (by omega) (by omega) (by omega) hb (by rw [hf, hWo]; exact join_a (by omega) (by omega) (by omega))) ?_
      rintro _ h3 ⟨md3, hb3⟩
      refine ⟨fun e => (by cases e), ?_⟩
      have G3 := md3.grows G' hc.2.1
      try simp (disch := omega) [p2, p3, p4, p6, p7]
      refine callW_of (c46 h3 (pos_of hp G3) Wo m bW m aW 0 bb zz _ b f _ h1 hv1' G3 hc.2.1 hbl (by omega) (by omega) (by omega) (by omega) (by omega) (by omega) (by omega) (by omega) hb3 (by rw [hf, hWo]; exact join_b (by omega) (by omega) (by omega))) ?_
      rintro _ h4 ⟨md4, hb4⟩
      refine ⟨fun e => (by cases e), ?_⟩
      have G4 := md4.grows G3 hc.2.1
      have hfin : fillB f (fun j => decide (j < rowN Wo (2 * m))) (rowN Wo (2 * m)) = fillB f (fun j => (upP Wo m aW m j || inPart Wo m aW m 0 0 (rowN aW (2 * m)) j) || inPart Wo m bW m aW 0 (rowN bW (2 * m)) j) (rowN Wo (2 * m)) := fillB_same fun j hj => by
        have := join_cover (aW := aW) (bW := bW) (H := m) (by omega) (by omega) (by omega) (j := j) (by rw [← hWo]; exact hj)
        rw [← hWo, ← Bool.or_assoc] at this
        rw [this]; simp [hj]
      have ho := part_done (h := h4) (bb := bb) (zz := zz) (lo := h1.length) (n := rowN Wo (2 * m)) (f := f) (.inl hz1) hN128 (fun k => by rw [hf]; exact joinF_rng okb okb1 k) (.inr ⟨by rw [hfin]; exact hb4, hc.2.1⟩)
      simp (disch := omega) [p2, p3, p4, p6, p7, resOf, resAll, resOne, aField]
      exact ⟨G4, Vo.of_panel v1 v2 ho, hsz⟩

theorem c384 (hh : Heap) (hp : 0 < hh.length) (v0 : Value) (X0 : Pan) (hv0 : Vr hh shPanel v0 X0) (hs0 : siz shPanel X0 ≤ 1048576) (v1 : Value) (X1 : Pan) (hv1 : Vr hh shPanel v1 X1) (hs1 : siz shPanel X1 ≤ 1048576) :
    ACall Gam 384 [v0, v1] hh fun r h' => Grows hh h' ∧ ∃ r0, r = .tuple #[r0, I (joinAns X0 X1).2] ∧ Vo h' hh.length h'.length shPanel r0 (joinAns X0 X1).1 ∧ siz shPanel (joinAns X0 X1).1 ≤ 16777216 := by
  have hsz := join_siz X0 X1
  obtain ⟨W0, H0, a⟩ := X0
  obtain ⟨W1, H1, b⟩ := X1
  obtain ⟨s0, rfl, w0, x0, r0⟩ := hv0.panel
  obtain ⟨s1, rfl, w1, x1, r1⟩ := hv1.panel
  refine ACall_intro g384 rfl ?_
  unfold fn384
  simp (disch := omega)
  obtain ⟨ha, eha⟩ : ∃ ha, ha = hh ++ [⟨[I W0, I H0, s0], true⟩] ++ [⟨[I W1, I H1, s1], true⟩] := ⟨_, rfl⟩
  have ga : Grows hh ha := ⟨[⟨[I W0, I H0, s0], true⟩, ⟨[I W1, I H1, s1], true⟩], by rw [eha]; simp⟩
  have ka : ha[hh.length]? = some ⟨[I W0, I H0, s0], true⟩ := by rw [eha]; simp
  have kb : ha[hh.length + 1]? = some ⟨[I W1, I H1, s1], true⟩ := by rw [eha]; simp
  have la : ha.length = hh.length + 2 := by rw [eha]; simp
  simp only [List.append_assoc, List.cons_append, List.nil_append] at eha
  try rw [← eha]
  have hpt0 : PtP ha (pt hh.length 0) (W0, H0, a) := PtP.at ka (r0.grow ga) w0 x0
  have hpt1 : PtP ha (pt (hh.length + 1) 0) (W1, H1, b) := PtP.at kb (r1.grow ga) w1 x1
  have ca0 : cell ha hh.length 0 = some (I W0) := by simp [cell, ka]
  have ca1 : cell ha hh.length 1 = some (I H0) := by simp [cell, ka]
  have cb0 : cell ha (hh.length + 1) 0 = some (I W1) := by simp [cell, kb]
  have cb1 : cell ha (hh.length + 1) 1 = some (I H1) := by simp [cell, kb]
  refine callW_of (c452 _ _ _ hpt0) ?_
  rintro _ h1 ⟨rfl, rfl⟩
  cases q0 : okP (W0, H0, a)
  · have e : joinAns (W0, H0, a) (W1, H1, b) = ((0, 0, []), 1) := by simp [joinAns, q0]
    rw [e] at hsz ⊢
    simp (disch := omega) [resOf, resAll, resOne, aField]
    exact ⟨ga, Vo.zero_panel, hsz⟩
  simp (disch := omega)
  refine callW_of (c452 _ _ _ hpt1) ?_
  rintro _ h1 ⟨rfl, rfl⟩
  cases q1 : okP (W1, H1, b)
  · have e : joinAns (W0, H0, a) (W1, H1, b) = ((0, 0, []), 1) := by simp [joinAns, q1]
    rw [e] at hsz ⊢
    simp (disch := omega) [resOf, resAll, resOne, aField]
    exact ⟨ga, Vo.zero_panel, hsz⟩
  have ok0 := okP_iff.1 q0
  have ok1 := okP_iff.1 q1
  obtain ⟨okW, okH, okn, okb⟩ := ok0
  obtain ⟨okW1, okH1, okn1, okb1⟩ := ok1
  simp only at okW okH okn okb okW1 okH1 okn1 okb1
  simp (disch := omega) [ca0, ca1, cb0, cb1]
  refine fork_dec (fun hH => ?_) (fun hH => ?_)
  rotate_left
  · have e : joinAns (W0, H0, a) (W1, H1, b) = ((0, 0, []), 6) := by simp [joinAns, q0, q1, hH]
    rw [e] at hsz ⊢
    simp (disch := omega) [resOf, resAll, resOne, aField]
    exact ⟨ga, Vo.zero_panel, hsz⟩
  subst hH
  simp (disch := omega) [ca0, ca1, cb0, cb1, wrap64]
  refine callW_of (c457 _ _) ?_
  rintro _ h1 ⟨rfl, rfl⟩
  cases hS : inR (W0 + W1) 1 8
  · have e : joinAns (W0, H0, a) (W1, H0, b) = ((0, 0, []), 5) := by
      have : ¬ W0 + W1 ≤ 8 := by simp [inR] at hS; omega
      simp [joinAns, q0, q1, this]
    rw [e] at hsz ⊢
    simp (disch := omega) [resOf, resAll, resOne, aField]
    exact ⟨ga, Vo.zero_panel, hsz⟩
  have hS' : W0 + W1 ≤ 8 := by simp [inR] at hS; omega
  have e : joinAns (W0, H0, a) (W1, H0, b) = (joinP (W0, H0, a) (W1, H0, b), 0) := by
    simp [joinAns, q0, q1, hS']
  rw [e] at hsz ⊢
  obtain ⟨aW, rfl⟩ := Int.eq_ofNat_of_zero_le (show 0 ≤ W0 by omega)
  obtain ⟨H, rfl⟩ := Int.eq_ofNat_of_zero_le (show 0 ≤ H0 by omega)
  obtain ⟨bW, rfl⟩ := Int.eq_ofNat_of_zero_le (show 0 ≤ W1 by omega)
  have hal : a.length = rowN aW (2 * H) := by
    have := inner_row (w := aW) (h := H) (by omega) (by omega) (by omega) (by omega)
    omega
  have hbl : b.length = rowN bW (2 * H) := by
    have := inner_row (w := bW) (h := H) (by omega) (by omega) (by omega) (by omega)
    omega
  obtain ⟨Wo, hWo⟩ : ∃ Wo, Wo = aW + bW := ⟨_, rfl⟩
  have eWo : (aW : Int) + (bW : Int) = (Wo : Int) := by omega
  have hin := inner_row (w := Wo) (h := H) (by omega) (by omega) (by omega) (by omega)
  have hN0 := rowN_pos (W := Wo) (H := H) (by omega) (by omega)
  have hN128 := rowN_le (W := Wo) (by omega) (y := 2 * H) (by omega)
  obtain ⟨f, hf⟩ : ∃ f, f = joinF aW bW H a b := ⟨_, rfl⟩
  have hfb : ∀ k, 0 ≤ f k ∧ f k ≤ 2 := fun k => by rw [hf]; exact joinF_rng okb okb1 k
  have hpe : joinP ((aW : Int), (H : Int), a) ((bW : Int), (H : Int), b) = ((Wo : Int), (H : Int), (List.range (rowN Wo (2 * H))).map f) := by
    simp only [joinP, Int.toNat_natCast]
    rw [eWo, ← hWo, ← hf]
  rw [hpe] at hsz ⊢
  simp (disch := omega) [ca0, ca1, cb0, cb1, wrap64, eWo]
  refine callW_of (c450 h1 Wo H (by omega) (by omega) (pos_of hp ga)) ?_
  rintro _ h2 ⟨g2, o2⟩
  obtain ⟨so, rfl, v1, v2, o2⟩ := o2.panel
  obtain ⟨bb, zz, rfl, hz, hm, hx, hc⟩ := o2.ints
  rw [hin] at hz hc ⊢
  simp only [List.length_replicate] at hc ⊢
  have hrne : List.replicate (rowN Wo (2 * H)) (0 : Int) ≠ [] := by
    intro e; have := congrArg List.length e; simp at this; omega
  have hc1 := hc.resolve_left hrne
  clear hc
  have hz1 : zz = 1 := hz.resolve_right (fun e => hrne e.2)
  clear hz
  have hsb : storeAt (h2 ++ [⟨[I 0, I 0, sl 0 0 0 0], true⟩]) h2.length 0 [I Wo, I H, sl bb 0 (rowN Wo (2 * H)) zz] = some (h2 ++ [⟨[I Wo, I H, sl bb 0 (rowN Wo (2 * H)) zz], true⟩]) := store_box rfl
  simp (disch := omega) [hsb]
  obtain ⟨h3, e3⟩ : ∃ h3, h3 = h2 ++ [⟨[I Wo, I H, sl bb 0 (rowN Wo (2 * H)) zz], true⟩] := ⟨_, rfl⟩
  rw [← e3]
  have g3 : Grows h2 h3 := ⟨_, e3⟩
  have l3 : h3.length = h2.length + 1 := by rw [e3]; simp
  have k3 : h3[h2.length]? = some ⟨[I Wo, I H, sl bb 0 (rowN Wo (2 * H)) zz], true⟩ := by rw [e3]; simp
  have hf64 : ∀ k, I64 (f k) := fun k => by have := hfb k; unfold I64; omega
  have hb3 : h3[bb]? = some ⟨ints (fillB f (fun _ => false) (rowN Wo (2 * H))), true⟩ := by
    rw [fillB_none _ _ _ (fun j hj => rfl)]; exact g3.at hc1.1
  have G3 := g2.trans g3
  refine callW_of (c551 h3 (pos_of hp (ga.trans G3)) Wo H aW H 0 0 bb zz h2.length _ a f _ h1 hpt0 G3 hc1.2.1 hal (by omega) (by omega) (by omega) (by omega) (by omega) (by omega) (by omega) (by omega) k3 (by omega) hz1 hb3 (by rw [hf, hWo]; exact join_a (by omega) (by omega) (by omega)) hf64) ?_
  rintro _ h4 ⟨md4, hb4⟩
  refine ⟨fun e => (by cases e), ?_⟩
  have G4 := md4.grows G3 hc1.2.1
  have k4 := (md4.2 h2.length (by omega) (by omega)).trans k3
  have cc0 := G4.cell ca0
  simp (disch := omega) [cc0]
  refine callW_of (c551 h4 (pos_of hp (ga.trans G4)) Wo H bW H aW 0 bb zz h2.length _ b f _ h1 hpt1 G4 hc1.2.1 hbl (by omega) (by omega) (by omega) (by omega) (by omega) (by omega) (by omega) (by omega) k4 (by omega) hz1 hb4 (by rw [hf, hWo]; exact join_b (by omega) (by omega) (by omega)) hf64) ?_
  rintro _ h5 ⟨md5, hb5⟩
  refine ⟨fun e => (by cases e), ?_⟩
  have G5 := md5.grows G4 hc1.2.1
  have k5 := (md5.2 h2.length (by have := md4.1; omega) (by omega)).trans k4
  obtain ⟨P, hP⟩ : ∃ P : Nat → Bool, P = fun j => (false || inPart Wo H aW H 0 0 (rowN aW (2 * H)) j) || inPart Wo H bW H aW 0 (rowN bW (2 * H)) j := ⟨_, rfl⟩
  rw [← hP] at hb5
  try simp (disch := omega)
  refine awp_loop (fun (m : Nat) σ h' => m ≤ H ∧ Grows h1 h' ∧ h3.length ≤ h'.length ∧ h'[h2.length]? = some ⟨[I Wo, I H, sl bb 0 (rowN Wo (2 * H)) zz], true⟩ ∧ σ 2 = pt hh.length 0 ∧ σ 4 = .agg #[I 0, I 0, sl 0 0 0 0] ∧ σ 6 = pt h2.length 0 ∧ σ 7 = I ((2 * m + 1 : Nat) : Int) ∧
    h'[bb]? = some ⟨ints (fillB f (fun j => P j || upP Wo H aW m j) (rowN Wo (2 * H))), true⟩) (fun m => H - m) 0 ?_ ?_
  · refine ⟨by omega, G5, by have := md4.1; have := md5.1; omega, k5, by simp, by simp, by simp, by simp, ?_⟩
    rw [hb5]
    congr 3
    exact fillB_same fun j hj => by rw [upP_zero (by omega) (by omega) hj, Bool.or_false]
  · rintro m σ h' ⟨hm', hg, hlen, hkb, p2, p4, p6, p7, hb⟩
    have cl := hg.cell ca0
    have cl1 := hg.cell ca1
    have cl2 : cell h' h2.length 2 = some (sl bb 0 (rowN Wo (2 * H)) zz) := by simp [cell, hkb]
    simp (disch := omega) [p2, p7, cl, cl1, cl2, wrap64]
    refine fork_dec (fun hlt => ?_) (fun hge => ?_)
    · have hlt' : 2 * m + 1 < 2 * H := by omega
      have hnum := numP_lt (W := Wo) (H := H) (x := 2 * aW) (y := 2 * m + 1) (by omega) (by omega) (by omega)
      have hfk : (1 : Int) = f (numP Wo (2 * aW) (2 * m + 1)) := by rw [hf, hWo]; exact (join_up (by omega) (by omega) (by omega) hlt').symm
      have hst := store_fill (P' := fun j => P j || upP Wo H aW (m + 1) j) hb hnum hfk (fun j hj => by rw [upP_step (by omega) (by omega) (by omega) hlt' hj, Bool.or_assoc])
      have hvo : Vr h' shInts (sl bb 0 (rowN Wo (2 * H)) zz) (fillB f (fun j => P j || upP Wo H aW m j) (rowN Wo (2 * H))) := by
        have := Vr.of_ints (h := h') (b := bb) (o := 0) (z := zz) (X := fillB f (fun j => P j || upP Wo H aW m j) (rowN Wo (2 * H))) (.inl hz1) (by rw [fillB_len, maxLen_eq]; omega) (by
          intro a ha
          obtain ⟨j, _, rfl⟩ := List.mem_map.1 ha
          have := hfb j
          split <;> (unfold I64; omega)) (.inr (by rw [cellsAt_of hb (by simp [ints, fillB_len])]; simp [ints, fillB_len, List.take_of_length_le]))
        rw [fillB_len] at this
        exact this
      have hpo : PtP h' (pt h2.length 0) ((Wo : Int), (H : Int), fillB f (fun j => P j || upP Wo H aW m j) (rowN Wo (2 * H))) := PtP.at hkb hvo v1 v2
      have hcall := c451 h' _ _ Wo (2 * aW) (2 * m + 1) hpo rfl (by omega) (by omega) (by omega) (by omega)
      simp only [Int.natCast_mul, Int.natCast_add, Int.natCast_one, Int.cast_ofNat_Int] at hcall
      simp (disch := omega) [p2, p6, p7, cl, cl1, cl2, wrap64]
      refine callW_of hcall ?_
      rintro _ h' ⟨rfl, rfl⟩
      refine ⟨fun _ => Grows.refl _, ?_⟩
      simp (disch := omega) [p2, p4, p6, p7, hnum, hst, cl, cl1, cl2, wrap64]
      refine ⟨m + 1, ⟨by omega, hg.put hc1.2.1 _, hlen, ?_, by omega, by simp [at_lt hb]⟩, by omega⟩
      first
        | exact (List.getElem?_eq_some_iff.1 hkb).2
        | (rw [List.getElem?_set_ne (by omega)]; exact hkb)
    · have : m = H := by omega
      subst this
      have hfin : fillB f (fun j => decide (j < rowN Wo (2 * m))) (rowN Wo (2 * m)) = fillB f (fun j => P j || upP Wo m aW m j) (rowN Wo (2 * m)) := fillB_same fun j hj => by
        have := join_cover (aW := aW) (bW := bW) (H := m) (by omega) (by omega) (by omega) (j := j) (by rw [← hWo]; exact hj)
        rw [← hWo, Bool.or_comm] at this
        rw [hP]; simp only [Bool.false_or]
        rw [this]; simp [hj]
      have ho := part_done (h := h') (bb := bb) (zz := zz) (lo := hh.length) (n := rowN Wo (2 * m)) (f := f) (.inl hz1) hN128 hfb (.inr ⟨by rw [hfin]; exact hb, by omega⟩)
      have cw : cellsAt h' h2.length 0 3 = some [I Wo, I m, sl bb 0 (rowN Wo (2 * m)) zz] := by rw [cellsAt_of hkb (by simp)]; simp
      simp (disch := omega) [p4, p6, cw, resOf, resAll, resOne, aField]
      exact ⟨ga.trans hg, Vo.of_panel v1 v2 ho, hsz⟩
end Am

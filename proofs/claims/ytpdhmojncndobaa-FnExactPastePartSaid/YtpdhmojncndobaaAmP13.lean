/- Contracts: PartOf. -/
import Derived.Test.YtpdhmojncndobaaAmP12
set_option linter.unusedVariables false
set_option linter.unusedSimpArgs false
set_option maxHeartbeats 4000000
set_option maxRecDepth 4000
namespace Am
open Go

open Classical in
/-- The inner point with a number. -/
noncomputable def thePt (W H k : Nat) : Nat × Nat := if e : ∃ p : Nat × Nat, IsPt W H k p.1 p.2 then Classical.choose e else (0, 0)
theorem thePt_eq {W H k x y : Nat} (h : IsPt W H k x y) : thePt W H k = (x, y) := by
  have e : ∃ p : Nat × Nat, IsPt W H k p.1 p.2 := ⟨(x, y), h⟩
  unfold thePt
  rw [dif_pos e]
  have := (Classical.choose_spec e).uniq h
  exact Prod.ext this.1 this.2
/-- The break of a part's point, in the panel. -/
noncomputable def prt (br : List Int) (W w h X Y k : Nat) : Int := at0 br (numP W ((thePt w h k).1 + 2 * X) ((thePt w h k).2 + 2 * Y))
noncomputable def partP (P : Pan) (x y w h : Int) : Pan := (w, h, (List.range (rowN w.toNat (2 * h.toNat))).map fun k => prt P.2.2 P.1.toNat w.toNat h.toNat x.toNat y.toNat k)
noncomputable def partAns (P : Pan) (x y w h : Int) : Pan × Int := if okP P then (if hasPart P x y w h then (partP P x y w h, 0) else ((0, 0, []), 2)) else ((0, 0, []), 1)

theorem inner_row {w h : Nat} (w1 : 1 ≤ w) (w8 : w < 9) (h1 : 1 ≤ h) (h8 : h < 9) : (inner (w : Int) (h : Int)).toNat = rowN w (2 * h) := by
  have := rowN_end w8 h8 w1 h1
  unfold inner
  rw [← this]; simp
theorem at0_rng {br : List Int} (hb : ∀ x ∈ br, 0 ≤ x ∧ x ≤ 2) (i : Nat) : 0 ≤ at0 br i ∧ at0 br i ≤ 2 := by
  unfold at0
  rw [List.getD_eq_getElem?_getD]
  by_cases h : i < br.length
  · rw [List.getElem?_eq_getElem h]
    exact hb _ (List.getElem_mem h)
  · rw [List.getElem?_eq_none (by omega)]; simp
theorem part_siz (P : Pan) (x y w h : Int) : siz shPanel (partAns P x y w h).1 ≤ 16777216 := by
  unfold partAns
  split
  · rename_i hok
    split
    · rename_i hp
      have ok := okP_iff.1 hok
      have hq := hasPart_iff.1 hp
      have w8 := ok.w
      have h8 := ok.h
      show siz shPanel (w, h, _) ≤ _
      rw [siz_panel]
      simp only [List.length_map, List.length_range]
      have := rowN_le (W := w.toNat) (by omega) (y := 2 * h.toNat) (by omega)
      omega
    · rw [siz_panel]; simp
  · rw [siz_panel]; simp

/-- What the part's own block holds at the end. -/
theorem part_done {h : Heap} {bb zz n : Nat} {lo : Nat} {f : Nat → Int} (hz : zz = 1 ∨ bb = 0 ∧ n = 0) (hn : n ≤ 128) (hf : ∀ k, 0 ≤ f k ∧ f k ≤ 2) (hb : n = 0 ∨ h[bb]? = some ⟨ints (fillB f (fun j => decide (j < n)) n), true⟩ ∧ lo ≤ bb) :
    Vo h lo h.length shInts (sl bb 0 n zz) ((List.range n).map f) := by
  have hul : ((List.range n).map f).length = n := by simp
  have hfill : fillB f (fun j => decide (j < n)) n = (List.range n).map f := fillB_all _ _ _ fun j hj => by simp [hj]
  have := Vo.of_ints (h := h) (b := bb) (lo := lo) (hi := h.length) (z := zz) (X := (List.range n).map f) (by
    rcases hz with e | ⟨e, e'⟩
    · exact .inl e
    · exact .inr ⟨e, by rw [e']; rfl⟩) (by rw [hul, maxLen_eq]; omega) (by
    intro x hx
    obtain ⟨j, _, rfl⟩ := List.mem_map.1 hx
    have := hf j
    unfold I64; omega) (by
    rcases hb with e | e
    · exact .inl (by rw [e]; rfl)
    · rw [hfill] at e
      by_cases hk0 : n = 0
      · exact .inl (by rw [hk0]; rfl)
      · exact .inr ⟨e.1, e.2, at_lt e.1⟩)
  rw [hul] at this
  exact this
theorem step_fill {k : Nat} : ∀ j, decide (j < k + 1) = (decide (j < k) || j == k) := by
  intro j
  rw [Bool.eq_iff_iff]
  simp only [decide_eq_true_eq, Bool.or_eq_true, beq_iff_eq]
  omega

theorem c111 (hh : Heap) (hp : 0 < hh.length) (v0 : Value) (P : Pan) (hv0 : Vr hh shPanel v0 P) (hs0 : siz shPanel P ≤ 1048576) (x : Int) (wx : I64 x) (y : Int) (wy : I64 y) (w : Int) (ww : I64 w) (h : Int) (wh : I64 h) :
    ACall Gam 111 [v0, I x, I y, I w, I h] hh fun r h' => Grows hh h' ∧ ∃ r0, r = .tuple #[r0, I (partAns P x y w h).2] ∧ Vo h' hh.length h'.length shPanel r0 (partAns P x y w h).1 ∧ siz shPanel (partAns P x y w h).1 ≤ 16777216 := by
  have hsz := part_siz P x y w h
  obtain ⟨W, H, br⟩ := P
  have hv0' := hv0
  obtain ⟨s, rfl, w1, w2, r0⟩ := hv0.panel
  refine ACall_intro g111 rfl ?_
  unfold fn111
  simp (disch := omega)
  refine callW_of (c140 _ _ hh hv0') ?_
  rintro _ h1 ⟨rfl, rfl⟩
  cases q : okP (W, H, br)
  · have e : partAns (W, H, br) x y w h = ((0, 0, []), 1) := by simp [partAns, q]
    rw [e] at hsz ⊢
    simp (disch := omega) [resOf, resAll, resOne, aField]
    exact ⟨Grows.refl _, Vo.zero_panel, hsz⟩
  have ok := okP_iff.1 q
  simp (disch := omega)
  refine callW_of (c33 h1 _ _ x y w h hv0' ok) ?_
  rintro _ h1 ⟨rfl, rfl⟩
  cases qp : hasPart (W, H, br) x y w h
  · have e : partAns (W, H, br) x y w h = ((0, 0, []), 2) := by simp [partAns, q, qp]
    rw [e] at hsz ⊢
    simp (disch := omega) [resOf, resAll, resOne, aField]
    exact ⟨Grows.refl _, Vo.zero_panel, hsz⟩
  have e : partAns (W, H, br) x y w h = (partP (W, H, br) x y w h, 0) := by simp [partAns, q, qp]
  rw [e] at hsz ⊢
  obtain ⟨okW, okH, okn, okb⟩ := ok
  have hq := hasPart_iff.1 qp
  simp only at okW okH okn okb hq
  obtain ⟨Wn, rfl⟩ := Int.eq_ofNat_of_zero_le (show 0 ≤ W by omega)
  obtain ⟨Hn, rfl⟩ := Int.eq_ofNat_of_zero_le (show 0 ≤ H by omega)
  obtain ⟨xn, rfl⟩ := Int.eq_ofNat_of_zero_le (show 0 ≤ x by omega)
  obtain ⟨yn, rfl⟩ := Int.eq_ofNat_of_zero_le (show 0 ≤ y by omega)
  obtain ⟨wn, rfl⟩ := Int.eq_ofNat_of_zero_le (show 0 ≤ w by omega)
  obtain ⟨hn, rfl⟩ := Int.eq_ofNat_of_zero_le (show 0 ≤ h by omega)
  have hbl : br.length = rowN Wn (2 * Hn) := by
    have := inner_row (w := Wn) (h := Hn) (by omega) (by omega) (by omega) (by omega)
    omega
  obtain ⟨n, hnn⟩ : ∃ n, n = rowN wn (2 * hn) := ⟨_, rfl⟩
  have hn128 : n ≤ 128 := by rw [hnn]; exact rowN_le (by omega) (by omega)
  have hin := inner_row (w := wn) (h := hn) (by omega) (by omega) (by omega) (by omega)
  rw [← hnn] at hin
  obtain ⟨f, hf⟩ : ∃ f : Nat → Int, f = fun k => prt br Wn wn hn xn yn k := ⟨_, rfl⟩
  have hfb : ∀ k, 0 ≤ f k ∧ f k ≤ 2 := fun k => by rw [hf]; exact at0_rng okb _
  have hpe : partP ((Wn : Int), (Hn : Int), br) xn yn wn hn = ((wn : Int), (hn : Int), (List.range n).map f) := by
    simp [partP, hf, hnn]
  rw [hpe] at hsz ⊢
  obtain ⟨b0, o0, z0, rfl, _, hm0, hx0, hc0⟩ := r0.ints
  simp (disch := omega)
  refine callW_of (c177 h1 wn hn (by omega) (by omega) hp) ?_
  rintro _ h2 ⟨g2, o2⟩
  obtain ⟨so, rfl, v1, v2, o2⟩ := o2.panel
  obtain ⟨bb, zz, rfl, hz, hm, hx, hc⟩ := o2.ints
  rw [hin] at hz hc ⊢
  simp only [List.length_replicate] at hc ⊢
  simp (disch := omega)
  refine callW_of (c49 h2 wn hn (sl bb 0 n zz) (pos_of hp g2) (by omega) (by omega) (by omega) (by omega)) ?_
  rintro v h3 ⟨g3, l, hl, hll, hbuf⟩
  rw [← hnn] at hll
  obtain ⟨pb, pz, rfl, hpc⟩ : ∃ pb pz, v = sl pb 0 n pz ∧ (n = 0 ∨ cellsAt h3 pb 0 (n * 2) = some (pairsV l)) := by
    rcases hbuf with ⟨e1, rfl⟩ | ⟨b, m, rfl, e2, _, e4⟩
    · have : n = 0 := by
        have := congrArg List.length e1
        rw [pairsV_len] at this; simp at this; omega
      exact ⟨0, 2, by rw [this], .inl this⟩
    · rw [pairsV_len] at e2
      have : m = n := by omega
      subst this
      exact ⟨b, 2, rfl, .inr (cellsAt_all e4 (by rw [pairsV_len]; omega))⟩
  simp (disch := omega)
  refine awp_loop (fun (k : Nat) σ h' => k ≤ n ∧ Grows h1 h' ∧ h3.length ≤ h'.length ∧ (∀ b, h1.length ≤ b → b < h3.length → b ≠ bb → h'[b]? = h3[b]?) ∧ σ 1 = I xn ∧ σ 2 = I yn ∧ σ 5 = .agg #[I Wn, I Hn, sl b0 o0 br.length z0] ∧ σ 10 = .agg #[I 0, I 0, sl 0 0 0 0] ∧ σ 12 = .agg #[I wn, I hn, sl bb 0 n zz] ∧ σ 31 = sl pb 0 n pz ∧ σ 32 = I n ∧ σ 33 = I k ∧
    (n = 0 ∨ h'[bb]? = some ⟨ints (fillB f (fun j => decide (j < k)) n), true⟩)) (fun k => n - k) 0 ?_ ?_
  · refine ⟨by omega, g2.trans g3, Nat.le_refl _, fun _ _ _ _ => rfl, by simp, by simp, by simp, by simp, by simp, by simp, by simp, by simp, ?_⟩
    rcases hc with hc | hc
    · left; simpa using hc
    · right; rw [fillB_none _ _ _ (by simp)]; exact g3.at hc.1
  · rintro k σ h' ⟨hk, hg, hlen, hkeep, q1, q2, q5, q10, q12, q31, q32, q33, hb⟩
    simp (disch := omega) [q32, q33]
    refine fork_dec (fun hlt => ?_) (fun hge => ?_)
    · have k1 : k < n := by omega
      have hnz : n ≠ 0 := by omega
      have hb := hb.resolve_left hnz
      have hcb : h1.length ≤ bb ∧ bb < h2.length := by
        rcases hc with hc | hc
        · simp at hc; omega
        · exact hc.2
      have hpb : h2.length ≤ pb ∧ pb < h3.length := by
        rcases hbuf with ⟨e1, e3⟩ | ⟨b, m, e3, _, e4, e5⟩
        · have := congrArg List.length e1
          rw [pairsV_len] at this; simp at this; omega
        · injection e3 with e3 _ _
          simp only [Option.some.injEq, Addr.mk.injEq] at e3
          obtain ⟨rfl, _⟩ := e3
          exact ⟨e4, at_lt e5⟩
      have hpc := hpc.resolve_left hnz
      have hpc' : cellsAt h' pb 0 (n * 2) = some (pairsV l) := by
        unfold cellsAt at hpc ⊢
        rw [hkeep pb (by have := g2.le; omega) hpb.2 (by omega)]
        exact hpc
      have hcp := cellsAt_in (i := k * 2) (m := 2) hpc' (by omega)
      rw [pairs_get l k (by omega)] at hcp
      have hpt := hl k (by omega)
      obtain ⟨px, hpx⟩ : ∃ px, px = (l[k]'(by omega)).1 := ⟨_, rfl⟩
      obtain ⟨py, hpy⟩ : ∃ py, py = (l[k]'(by omega)).2 := ⟨_, rfl⟩
      rw [← hpx, ← hpy] at hpt
      have hpv : pairV (l[k]'(by omega)) = [I px, I py] := by rw [hpx, hpy]; rfl
      rw [hpv] at hcp
      obtain ⟨d1, d2, d3⟩ := hpt.bd
      have d4 := hpt.y1
      have d5 := hpt.y2
      obtain ⟨X', hX'⟩ : ∃ X', X' = px + 2 * xn := ⟨_, rfl⟩
      obtain ⟨Y', hY'⟩ : ∃ Y', Y' = py + 2 * yn := ⟨_, rfl⟩
      have hnum := numP_lt (W := Wn) (H := Hn) (x := X') (y := Y') (by omega) (by omega) (by omega)
      rw [← hbl] at hnum
      have hfk : f k = at0 br (numP Wn X' Y') := by rw [hf, hX', hY']; simp [prt, thePt_eq hpt]
      have hcell := ints_cell (hc0.imp id (grows_cellsAt hg)) hnum
      rw [← at0_of hnum, ← hfk] at hcell
      simp only [Nat.zero_add] at hcp
      simp (disch := omega) [q1, q2, q5, q12, q31, q33, k1, hcp]
      refine callW_of (c188 h' px py xn yn (by omega) (by omega) (by omega) (by omega)) ?_
      rintro _ h' ⟨rfl, rfl⟩
      rw [show (px : Int) + 2 * (xn : Int) = ((X' : Nat) : Int) by omega, show (py : Int) + 2 * (yn : Int) = ((Y' : Nat) : Int) by omega]
      simp (disch := omega)
      refine callW_of (c40 h' Wn Hn X' Y' _ (by omega) (by omega) (by omega) (by omega) (by omega)) ?_
      rintro _ h' ⟨rfl, rfl⟩
      have hst := store_fill (P' := fun j => decide (j < k + 1)) hb k1 rfl (fun j _ => step_fill j)
      simp (disch := omega) [q1, q2, q5, q10, q12, q31, q32, q33, k1, hnum, hcell, hst, wrap64]
      refine ⟨k + 1, ⟨by omega, hg.put hcb.1 _, hlen, ?_, by omega, .inr (by simp [at_lt hb])⟩, by omega⟩
      intro b hb1 hb2 hb3
      rw [List.getElem?_set_ne (by omega)]; exact hkeep b hb1 hb2 hb3
    · have hkn : k = n := by omega
      subst hkn
      have hb' : k = 0 ∨ h'[bb]? = some ⟨ints (fillB f (fun j => decide (j < k)) k), true⟩ ∧ h1.length ≤ bb := by
        by_cases hk0 : k = 0
        · exact .inl hk0
        · refine .inr ⟨hb.resolve_left hk0, ?_⟩
          rcases hc with hc | hc
          · simp at hc; omega
          · exact hc.2.1
      have ho := part_done (h := h') (bb := bb) (zz := zz) (lo := h1.length) (n := k) (hz.imp id fun e => ⟨e.1, by simpa using e.2⟩) hn128 hfb hb'
      simp (disch := omega) [q10, q12, resOf, resAll, resOne, aField]
      exact ⟨hg, Vo.of_panel v1 v2 ho, hsz⟩

theorem c403 (hh : Heap) (hp : 0 < hh.length) (v0 : Value) (P : Pan) (hv0 : Vr hh shPanel v0 P) (hs0 : siz shPanel P ≤ 1048576) (x : Int) (wx : I64 x) (y : Int) (wy : I64 y) (w : Int) (ww : I64 w) (h : Int) (wh : I64 h) :
    ACall Gam 403 [v0, I x, I y, I w, I h] hh fun r h' => Grows hh h' ∧ ∃ r0, r = .tuple #[r0, I (partAns P x y w h).2] ∧ Vo h' hh.length h'.length shPanel r0 (partAns P x y w h).1 ∧ siz shPanel (partAns P x y w h).1 ≤ 16777216 := by
  have hsz := part_siz P x y w h
  obtain ⟨W, H, br⟩ := P
  obtain ⟨s, rfl, w1, w2, r0⟩ := hv0.panel
  refine ACall_intro g403 rfl ?_
  unfold fn403
  simp (disch := omega)
  obtain ⟨ha, eha⟩ : ∃ ha, ha = hh ++ [⟨[I W, I H, s], true⟩] := ⟨_, rfl⟩
  rw [← eha]
  have ga : Grows hh ha := ⟨_, eha⟩
  have ka : ha[hh.length]? = some ⟨[I W, I H, s], true⟩ := by rw [eha]; simp
  have la : ha.length = hh.length + 1 := by rw [eha]; simp
  have hpt0 : PtP ha (pt hh.length 0) (W, H, br) := PtP.at ka (r0.grow ga) w1 w2
  refine callW_of (c452 _ _ _ hpt0) ?_
  rintro _ h1 ⟨rfl, rfl⟩
  cases q : okP (W, H, br)
  · have e : partAns (W, H, br) x y w h = ((0, 0, []), 1) := by simp [partAns, q]
    rw [e] at hsz ⊢
    simp (disch := omega) [resOf, resAll, resOne, aField]
    exact ⟨ga, Vo.zero_panel, hsz⟩
  have ok := okP_iff.1 q
  simp (disch := omega)
  refine callW_of (c549 h1 _ _ x y w h hpt0 ok) ?_
  rintro _ h1 ⟨rfl, rfl⟩
  cases qp : hasPart (W, H, br) x y w h
  · have e : partAns (W, H, br) x y w h = ((0, 0, []), 2) := by simp [partAns, q, qp]
    rw [e] at hsz ⊢
    simp (disch := omega) [resOf, resAll, resOne, aField]
    exact ⟨ga, Vo.zero_panel, hsz⟩
  have e : partAns (W, H, br) x y w h = (partP (W, H, br) x y w h, 0) := by simp [partAns, q, qp]
  rw [e] at hsz ⊢
  obtain ⟨okW, okH, okn, okb⟩ := ok
  have hq := hasPart_iff.1 qp
  simp only at okW okH okn okb hq
  obtain ⟨Wn, rfl⟩ := Int.eq_ofNat_of_zero_le (show 0 ≤ W by omega)
  obtain ⟨Hn, rfl⟩ := Int.eq_ofNat_of_zero_le (show 0 ≤ H by omega)
  obtain ⟨xn, rfl⟩ := Int.eq_ofNat_of_zero_le (show 0 ≤ x by omega)
  obtain ⟨yn, rfl⟩ := Int.eq_ofNat_of_zero_le (show 0 ≤ y by omega)
  obtain ⟨wn, rfl⟩ := Int.eq_ofNat_of_zero_le (show 0 ≤ w by omega)
  obtain ⟨hn, rfl⟩ := Int.eq_ofNat_of_zero_le (show 0 ≤ h by omega)
  have hbl : br.length = rowN Wn (2 * Hn) := by
    have := inner_row (w := Wn) (h := Hn) (by omega) (by omega) (by omega) (by omega)
    omega
  obtain ⟨n, hnn⟩ : ∃ n, n = rowN wn (2 * hn) := ⟨_, rfl⟩
  have hn128 : n ≤ 128 := by rw [hnn]; exact rowN_le (by omega) (by omega)
  have hin := inner_row (w := wn) (h := hn) (by omega) (by omega) (by omega) (by omega)
  rw [← hnn] at hin
  obtain ⟨f, hf⟩ : ∃ f : Nat → Int, f = fun k => prt br Wn wn hn xn yn k := ⟨_, rfl⟩
  have hfb : ∀ k, 0 ≤ f k ∧ f k ≤ 2 := fun k => by rw [hf]; exact at0_rng okb _
  have hpe : partP ((Wn : Int), (Hn : Int), br) xn yn wn hn = ((wn : Int), (hn : Int), (List.range n).map f) := by
    simp [partP, hf, hnn]
  rw [hpe] at hsz ⊢
  obtain ⟨b0, o0, z0, rfl, _, hm0, hx0, hc0⟩ := r0.ints
  simp (disch := omega)
  refine callW_of (c450 h1 wn hn (by omega) (by omega) (pos_of hp ga)) ?_
  rintro _ h2 ⟨g2, o2⟩
  obtain ⟨so, rfl, v1, v2, o2⟩ := o2.panel
  obtain ⟨bb, zz, rfl, hz, hm, hx, hc⟩ := o2.ints
  rw [hin] at hz hc ⊢
  simp only [List.length_replicate] at hc ⊢
  have hsb : storeAt (h2 ++ [⟨[I 0, I 0, sl 0 0 0 0], true⟩]) h2.length 0 [I wn, I hn, sl bb 0 n zz] = some (h2 ++ [⟨[I wn, I hn, sl bb 0 n zz], true⟩]) := store_box rfl
  simp (disch := omega) [hsb]
  obtain ⟨h3, e3⟩ : ∃ h3, h3 = h2 ++ [⟨[I wn, I hn, sl bb 0 n zz], true⟩] := ⟨_, rfl⟩
  rw [← e3]
  have g3 : Grows h2 h3 := ⟨_, e3⟩
  have l3 : h3.length = h2.length + 1 := by rw [e3]; simp
  have k3 : h3[h2.length]? = some ⟨[I wn, I hn, sl bb 0 n zz], true⟩ := by rw [e3]; simp
  refine awp_loop (fun (k : Nat) σ h' => k ≤ n ∧ Grows h1 h' ∧ h3.length ≤ h'.length ∧ h'[h2.length]? = some ⟨[I wn, I hn, sl bb 0 n zz], true⟩ ∧ σ 1 = I xn ∧ σ 2 = I yn ∧ σ 5 = pt hh.length 0 ∧ σ 10 = .agg #[I 0, I 0, sl 0 0 0 0] ∧ σ 12 = pt h2.length 0 ∧ σ 13 = I k ∧
    (n = 0 ∨ h'[bb]? = some ⟨ints (fillB f (fun j => decide (j < k)) n), true⟩)) (fun k => n - k) 0 ?_ ?_
  · refine ⟨by omega, g2.trans g3, Nat.le_refl _, k3, by simp, by simp, by simp, by simp, by simp, by simp, ?_⟩
    rcases hc with hc | hc
    · left; simpa using hc
    · right; rw [fillB_none _ _ _ (by simp)]; exact g3.at hc.1
  · rintro k σ h' ⟨hk, hg, hlen, hkb, q1, q2, q5, q10, q12, q13, hb⟩
    have cl : cell h' h2.length 2 = some (sl bb 0 n zz) := by simp [cell, hkb]
    simp (disch := omega) [q12, q13, cl]
    refine fork_dec (fun hlt => ?_) (fun hge => ?_)
    · have k1 : k < n := by omega
      have hnz : n ≠ 0 := by omega
      have hb := hb.resolve_left hnz
      have hcb : h1.length ≤ bb ∧ bb < h2.length := by
        rcases hc with hc | hc
        · simp at hc; omega
        · exact hc.2
      have hvo : Vr h' shInts (sl bb 0 n zz) (fillB f (fun j => decide (j < k)) n) := by
        have := Vr.of_ints (h := h') (b := bb) (o := 0) (z := zz) (X := fillB f (fun j => decide (j < k)) n) (by
          rcases hz with e | ⟨e, e'⟩
          · exact .inl e
          · simp at e'; omega) (by rw [fillB_len, maxLen_eq]; omega) (by
          intro a ha
          obtain ⟨j, _, rfl⟩ := List.mem_map.1 ha
          have := hfb j
          split <;> (unfold I64; omega)) (.inr (by rw [cellsAt_of hb (by simp [ints, fillB_len])]; simp [ints, fillB_len, List.take_of_length_le]))
        rw [fillB_len] at this
        exact this
      have hpo : PtP h' (pt h2.length 0) ((wn : Int), (hn : Int), fillB f (fun j => decide (j < k)) n) := PtP.at hkb hvo v1 v2
      simp (disch := omega) [q12, q13]
      refine callW_of (c454 h' _ _ wn hn k hpo rfl rfl (by omega) (by omega) (by omega) (by omega) (by omega)) ?_
      rintro _ h' ⟨⟨px, py, hpt, rfl⟩, rfl⟩
      obtain ⟨d1, d2, d3⟩ := hpt.bd
      have d4 := hpt.y1
      have d5 := hpt.y2
      obtain ⟨X', hX'⟩ : ∃ X', X' = px + 2 * xn := ⟨_, rfl⟩
      obtain ⟨Y', hY'⟩ : ∃ Y', Y' = py + 2 * yn := ⟨_, rfl⟩
      have hnum := numP_lt (W := Wn) (H := Hn) (x := X') (y := Y') (by omega) (by omega) (by omega)
      rw [← hbl] at hnum
      have hfk : f k = at0 br (numP Wn X' Y') := by rw [hf, hX', hY']; simp [prt, thePt_eq hpt]
      have hcell := ints_cell (hc0.imp id (grows_cellsAt (ga.trans hg))) hnum
      rw [← at0_of hnum, ← hfk] at hcell
      have cl0 : cell h' hh.length 2 = some (sl b0 o0 br.length z0) := hg.cell (by simp [cell, ka])
      have ex : (px : Int) + 2 * (xn : Int) = ((X' : Nat) : Int) := by omega
      have ey : (py : Int) + 2 * (yn : Int) = ((Y' : Nat) : Int) := by omega
      simp (disch := omega) [q1, q2, q5, q12, q13, cl, cl0, wrap64, ex, ey]
      refine callW_of (c451 h' _ _ Wn X' Y' (hpt0.grow hg) rfl (by omega) (by omega) (by omega) (by omega)) ?_
      rintro _ h' ⟨rfl, rfl⟩
      refine ⟨fun _ => Grows.refl _, ?_⟩
      have hst := store_fill (P' := fun j => decide (j < k + 1)) hb k1 rfl (fun j _ => step_fill j)
      simp (disch := omega) [q1, q2, q5, q10, q12, q13, cl, cl0, k1, hnum, hcell, hst, wrap64]
      refine ⟨k + 1, ⟨by omega, hg.put hcb.1 _, hlen, ?_, by omega, .inr (by simp [at_lt hb])⟩, by omega⟩
      first
        | exact (List.getElem?_eq_some_iff.1 hkb).2
        | (rw [List.getElem?_set_ne (by omega)]; exact hkb)
    · have hkn : k = n := by omega
      subst hkn
      have hb' : k = 0 ∨ h'[bb]? = some ⟨ints (fillB f (fun j => decide (j < k)) k), true⟩ ∧ hh.length ≤ bb := by
        by_cases hk0 : k = 0
        · exact .inl hk0
        · refine .inr ⟨hb.resolve_left hk0, ?_⟩
          rcases hc with hc | hc
          · simp at hc; omega
          · have := hc.2.1; omega
      have ho := part_done (h := h') (bb := bb) (zz := zz) (lo := hh.length) (n := k) (hz.imp id fun e => ⟨e.1, by simpa using e.2⟩) hn128 hfb hb'
      have cw : cellsAt h' h2.length 0 3 = some [I wn, I hn, sl bb 0 k zz] := by rw [cellsAt_of hkb (by simp)]; simp
      simp (disch := omega) [q10, q12, cw, resOf, resAll, resOne, aField]
      exact ⟨ga.trans hg, Vo.of_panel v1 v2 ho, hsz⟩
end Am

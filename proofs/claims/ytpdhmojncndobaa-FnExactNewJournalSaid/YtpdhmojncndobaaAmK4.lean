/- Contracts: AmP12, AmP13, AmP14, AmP16, AmP15, AmD1. -/
import Derived.Test.YtpdhmojncndobaaAmK3
/-! AmP12 -/
set_option linter.unusedVariables false
set_option linter.unusedSimpArgs false
set_option maxHeartbeats 4000000
set_option maxRecDepth 4000
namespace Am
open Go

theorem c188 (h : Heap) (x y X Y : Int) (hx : 0 ≤ x ∧ x ≤ 100) (hy : 0 ≤ y ∧ y ≤ 100) (hX : 0 ≤ X ∧ X ≤ 100) (hY : 0 ≤ Y ∧ Y ≤ 100) : ACall Gam 188 [.agg #[I x, I y], I X, I Y] h fun r h' => r = .agg #[I (x + 2 * X), I (y + 2 * Y)] ∧ h' = h := by
  refine ACall_intro g188 rfl ?_
  unfold fn188
  simp (disch := omega) [wrap64, resOf_box, aField]

/-! ### where a part lies -/
def hasPart (P : Pan) (x y w h : Int) : Bool := inR w 1 P.1 && (inR h 1 P.2.1 && (inR x 0 (P.1 - w) && inR y 0 (P.2.1 - h)))
theorem hasPart_iff {P : Pan} {x y w h : Int} : hasPart P x y w h = true ↔ (1 ≤ w ∧ w ≤ P.1) ∧ (1 ≤ h ∧ h ≤ P.2.1) ∧ (0 ≤ x ∧ x ≤ P.1 - w) ∧ 0 ≤ y ∧ y ≤ P.2.1 - h := by
  simp [hasPart, inR_iff]
theorem c549 (hh : Heap) (v : Value) (P : Pan) (x y w h : Int) (hv : PtP hh v P) (ok : OkP P) : ACall Gam 549 [v, I x, I y, I w, I h] hh fun r h' => r = B (hasPart P x y w h) ∧ h' = hh := by
  obtain ⟨W, H, br⟩ := P
  obtain ⟨b, o, s, rfl, h1, h2, _⟩ := hv
  obtain ⟨qW, qH, _, _⟩ := ok
  simp only at h1 h2 qW qH
  refine ACall_intro g549 rfl ?_
  unfold fn549
  simp (disch := omega) [h1, h2]
  refine callW_of (c432 w 1 W hh) ?_
  rintro _ h' ⟨rfl, rfl⟩
  cases q1 : inR w 1 W
  · simp [hasPart, q1]
  simp (disch := omega) [h1, h2]
  refine callW_of (c432 h 1 H h') ?_
  rintro _ h' ⟨rfl, rfl⟩
  cases q2 : inR h 1 H
  · simp [hasPart, q1, q2]
  have i1 := inR_iff.1 q1
  have i2 := inR_iff.1 q2
  simp (disch := omega) [h1, h2, wrap64]
  refine callW_of (c432 x 0 (W - w) h') ?_
  rintro _ h' ⟨rfl, rfl⟩
  cases q3 : inR x 0 (W - w)
  · simp [hasPart, q1, q2, q3]
  simp (disch := omega) [h1, h2, wrap64]
  refine callW_of (c432 y 0 (H - h) h') ?_
  rintro _ h' ⟨rfl, rfl⟩
  simp [hasPart, q1, q2, q3]
theorem c33 (hh : Heap) (v : Value) (P : Pan) (x y w h : Int) (hv : Vr hh shPanel v P) (ok : OkP P) : ACall Gam 33 [v, I x, I y, I w, I h] hh fun r h' => r = B (hasPart P x y w h) ∧ h' = hh := by
  obtain ⟨W, H, br⟩ := P
  obtain ⟨s, rfl, _⟩ := hv.panel
  obtain ⟨qW, qH, _, _⟩ := ok
  simp only at qW qH
  refine ACall_intro g33 rfl ?_
  unfold fn33
  simp (disch := omega)
  refine callW_of (c164 w 1 W hh) ?_
  rintro _ h' ⟨rfl, rfl⟩
  cases q1 : inR w 1 W
  · simp [hasPart, q1]
  simp (disch := omega)
  refine callW_of (c164 h 1 H h') ?_
  rintro _ h' ⟨rfl, rfl⟩
  cases q2 : inR h 1 H
  · simp [hasPart, q1, q2]
  have i1 := inR_iff.1 q1
  have i2 := inR_iff.1 q2
  simp (disch := omega) [wrap64]
  refine callW_of (c164 x 0 (W - w) h') ?_
  rintro _ h' ⟨rfl, rfl⟩
  cases q3 : inR x 0 (W - w)
  · simp [hasPart, q1, q2, q3]
  simp (disch := omega) [wrap64]
  refine callW_of (c164 y 0 (H - h) h') ?_
  rintro _ h' ⟨rfl, rfl⟩
  simp [hasPart, q1, q2, q3]

/-! ### all points, in order -/
def pairV (p : Nat × Nat) : List Value := [I p.1, I p.2]
def pairsV (l : List (Nat × Nat)) : List Value := (l.map pairV).flatten
theorem pairsV_append (a b : List (Nat × Nat)) : pairsV (a ++ b) = pairsV a ++ pairsV b := by simp [pairsV]
theorem pairsV_len : ∀ l : List (Nat × Nat), (pairsV l).length = 2 * l.length
  | [] => rfl
  | a :: l => by
    have := pairsV_len l
    simp only [pairsV, List.map_cons, List.flatten_cons, List.length_append, List.length_cons] at this ⊢
    simp only [pairV, List.length_cons, List.length_nil] at this ⊢
    omega
theorem append_pair {h h' : Heap} {v : Value} {l : List (Nat × Nat)} {x y : Nat} {K : Value → Heap → Prop} (hp : 0 < h.length) (hl : l.length ≤ 1048576) (hg : Grows h h') (hv : Buf h h' v 2 (pairsV l))
    (hK : ∀ v' h'', Grows h h'' → Buf h h'' v' 2 (pairsV (l ++ [(x, y)])) → K v' h'') :
    bindW (aBuildSlice 2 1 h' [(0, .agg #[I 0, I 0]), (2, .agg #[I x, I y])]) fun y h'' => bindW (aAppend 2 h'' y v) K := by
  have e : aBuildSlice 2 1 h' [(0, .agg #[I 0, I 0]), (2, .agg #[I x, I y])] = some (sl h'.length 0 1 2, h' ++ [⟨[I x, I y], true⟩]) := by simp [aBuildSlice]
  rw [e]
  simp only [bindW_some]
  refine append_buf hp (hg.push _) (hv.grow ⟨_, rfl⟩) (new := [I x, I y]) ?_ (by omega) (by simp) (by simp) (by rw [pairsV_len]; simp [maxSize]; omega) ?_
  · simp [newCells]
    rw [cellsAt_of (k := ⟨[I x, I y], true⟩) (by simp) (by simp)]
    simp
  · intro v' h'' g1 b1 k1
    refine hK v' h'' g1 (by rw [pairsV_append]; exact b1)
theorem pairs_get : ∀ (l : List (Nat × Nat)) (k : Nat) (hk : k < l.length), ((pairsV l).drop (k * 2)).take 2 = pairV l[k]
  | a :: l, 0, _ => by simp [pairsV, pairV]
  | a :: l, k + 1, hk => by
    have := pairs_get l k (by simpa using hk)
    simp only [pairsV, List.map_cons, List.flatten_cons] at this ⊢
    rw [List.drop_append, List.drop_eq_nil_of_le (by simp [pairV]; omega)]
    simp only [pairV, List.length_cons, List.length_nil, List.nil_append] at this ⊢
    rw [show (k + 1) * 2 - (0 + 1 + 1) = k * 2 by omega]
    simpa using this

/-- The first m points, in order. -/
def PtsOk (W H : Nat) (l : List (Nat × Nat)) : Prop := ∀ k (hk : k < l.length), IsPt W H k l[k].1 l[k].2
end Am
/-! AmP13 -/
set_option linter.unusedVariables false
set_option linter.unusedSimpArgs false
set_option maxHeartbeats 4000000
set_option maxRecDepth 4000
namespace Am
open Go

open Classical in
/-- The inner point with a number. -/
noncomputable def thePt (W H k : Nat) : Nat × Nat := if e : ∃ p : Nat × Nat, IsPt W H k p.1 p.2 then Classical.choose e else (0, 0)
theorem thePt_eq {W H k x y : Nat} (h : IsPt W H k x y) : thePt W H k = (x, y) := by
  have e : ∃ p : Nat × Nat, IsPt W H k p.1 p.2 := ⟨(x, y), h⟩
  unfold thePt
  rw [dif_pos e]
  have := (Classical.choose_spec e).uniq h
  exact Prod.ext this.1 this.2
/-- The break of a part's point, in the panel. -/
noncomputable def prt (br : List Int) (W w h X Y k : Nat) : Int := at0 br (numP W ((thePt w h k).1 + 2 * X) ((thePt w h k).2 + 2 * Y))
noncomputable def partP (P : Pan) (x y w h : Int) : Pan := (w, h, (List.range (rowN w.toNat (2 * h.toNat))).map fun k => prt P.2.2 P.1.toNat w.toNat h.toNat x.toNat y.toNat k)
noncomputable def partAns (P : Pan) (x y w h : Int) : Pan × Int := if okP P then (if hasPart P x y w h then (partP P x y w h, 0) else ((0, 0, []), 2)) else ((0, 0, []), 1)

theorem inner_row {w h : Nat} (w1 : 1 ≤ w) (w8 : w < 9) (h1 : 1 ≤ h) (h8 : h < 9) : (inner (w : Int) (h : Int)).toNat = rowN w (2 * h) := by
  have := rowN_end w8 h8 w1 h1
  unfold inner
  rw [← this]; simp
theorem at0_rng {br : List Int} (hb : ∀ x ∈ br, 0 ≤ x ∧ x ≤ 2) (i : Nat) : 0 ≤ at0 br i ∧ at0 br i ≤ 2 := by
  unfold at0
  rw [List.getD_eq_getElem?_getD]
  by_cases h : i < br.length
  · rw [List.getElem?_eq_getElem h]
    exact hb _ (List.getElem_mem h)
  · rw [List.getElem?_eq_none (by omega)]; simp
theorem part_siz (P : Pan) (x y w h : Int) : siz shPanel (partAns P x y w h).1 ≤ 16777216 := by
  unfold partAns
  split
  · rename_i hok
    split
    · rename_i hp
      have ok := okP_iff.1 hok
      have hq := hasPart_iff.1 hp
      have w8 := ok.w
      have h8 := ok.h
      show siz shPanel (w, h, _) ≤ _
      rw [siz_panel]
      simp only [List.length_map, List.length_range]
      have := rowN_le (W := w.toNat) (by omega) (y := 2 * h.toNat) (by omega)
      omega
    · rw [siz_panel]; simp
  · rw [siz_panel]; simp

/-- What the part's own block holds at the end. -/
theorem part_done {h : Heap} {bb zz n : Nat} {lo : Nat} {f : Nat → Int} (hz : zz = 1 ∨ bb = 0 ∧ n = 0) (hn : n ≤ 128) (hf : ∀ k, 0 ≤ f k ∧ f k ≤ 2) (hb : n = 0 ∨ h[bb]? = some ⟨ints (fillB f (fun j => decide (j < n)) n), true⟩ ∧ lo ≤ bb) :
    Vo h lo h.length shInts (sl bb 0 n zz) ((List.range n).map f) := by
  have hul : ((List.range n).map f).length = n := by simp
  have hfill : fillB f (fun j => decide (j < n)) n = (List.range n).map f := fillB_all _ _ _ fun j hj => by simp [hj]
  have := Vo.of_ints (h := h) (b := bb) (lo := lo) (hi := h.length) (z := zz) (X := (List.range n).map f) (by
    rcases hz with e | ⟨e, e'⟩
    · exact .inl e
    · exact .inr ⟨e, by rw [e']; rfl⟩) (by rw [hul, maxLen_eq]; omega) (by
    intro x hx
    obtain ⟨j, _, rfl⟩ := List.mem_map.1 hx
    have := hf j
    unfold I64; omega) (by
    rcases hb with e | e
    · exact .inl (by rw [e]; rfl)
    · rw [hfill] at e
      by_cases hk0 : n = 0
      · exact .inl (by rw [hk0]; rfl)
      · exact .inr ⟨e.1, e.2, at_lt e.1⟩)
  rw [hul] at this
  exact this
theorem step_fill {k : Nat} : ∀ j, decide (j < k + 1) = (decide (j < k) || j == k) := by
  intro j
  rw [Bool.eq_iff_iff]
  simp only [decide_eq_true_eq, Bool.or_eq_true, beq_iff_eq]
  omega

end Am
/-! AmP14 -/
set_option linter.unusedVariables false
set_option linter.unusedSimpArgs false
set_option maxHeartbeats 4000000
set_option maxRecDepth 4000
namespace Am
open Go

theorem numP_pt {W H x y : Nat} (hx : 1 ≤ x ∧ x < 2 * W) (hy : 1 ≤ y ∧ y < 2 * H) (hp : (x + y) % 2 = 1) : IsPt W H (numP W x y) x y := by
  have := rowN_succ (W := W) hy.1
  refine ⟨hy.1, hy.2, by unfold numP; omega, ?_, by unfold numP; omega⟩
  rw [this]; unfold numP; omega
theorem IsPt.num {W H k x y : Nat} (a : IsPt W H k x y) : numP W x y = k := by
  have h1 := a.x; have h2 := a.lo; have h3 := a.hi; have h4 := a.y1
  unfold numP; omega
theorem IsPt.ex {W H k : Nat} (w1 : 1 ≤ W) (h1 : 1 ≤ H) (hk : k < rowN W (2 * H)) : ∃ x y, IsPt W H k x y := by
  have key : ∀ m, k < rowN W (m + 1) → ∃ y, 1 ≤ y ∧ y ≤ m ∧ rowN W y ≤ k ∧ k < rowN W (y + 1) := by
    intro m
    induction m with
    | zero => intro h; simp [rowN] at h
    | succ m ih =>
      intro h
      by_cases e : k < rowN W (m + 1)
      · obtain ⟨y, a, b, c, d⟩ := ih e
        exact ⟨y, a, by omega, c, d⟩
      · exact ⟨m + 1, by omega, by omega, by omega, h⟩
  obtain ⟨y, a, b, c, d⟩ := key (2 * H - 1) (by rw [show 2 * H - 1 + 1 = 2 * H by omega]; exact hk)
  exact ⟨_, y, ⟨a, by omega, c, d, rfl⟩⟩

/-- The points of a part that have been put in. -/
noncomputable def inPart (W H w h X Y k : Nat) (j : Nat) : Bool := decide (2 * X < (thePt W H j).1 ∧ (thePt W H j).1 < 2 * X + 2 * w ∧ 2 * Y < (thePt W H j).2 ∧ (thePt W H j).2 < 2 * Y + 2 * h ∧ numP w ((thePt W H j).1 - 2 * X) ((thePt W H j).2 - 2 * Y) < k)
theorem inPart_zero {W H w h X Y j : Nat} : inPart W H w h X Y 0 j = false := by
  unfold inPart; rw [decide_eq_false_iff_not]; omega
theorem inPart_step {W H w h X Y k px py j : Nat} (w1 : 1 ≤ W) (h1 : 1 ≤ H) (hXw : X + w ≤ W) (hYh : Y + h ≤ H) (hpt : IsPt w h k px py) (hj : j < rowN W (2 * H)) :
    inPart W H w h X Y (k + 1) j = (inPart W H w h X Y k j || j == numP W (px + 2 * X) (py + 2 * Y)) := by
  obtain ⟨x, y, hP⟩ := IsPt.ex w1 h1 hj
  have e := thePt_eq hP
  unfold inPart
  rw [e, Bool.eq_iff_iff]
  simp only [decide_eq_true_eq, Bool.or_eq_true, beq_iff_eq]
  obtain ⟨d1, d2, d3⟩ := hpt.bd
  have d4 := hpt.y1
  have d5 := hpt.y2
  obtain ⟨q1, q2, q3⟩ := hP.bd
  constructor
  · rintro ⟨a1, a2, a3, a4, a5⟩
    by_cases e2 : numP w (x - 2 * X) (y - 2 * Y) < k
    · exact .inl ⟨a1, a2, a3, a4, e2⟩
    · right
      have e3 : numP w (x - 2 * X) (y - 2 * Y) = k := by omega
      have hQ := numP_pt (W := w) (H := h) (x := x - 2 * X) (y := y - 2 * Y) (by omega) (by omega) (by omega)
      rw [e3] at hQ
      obtain ⟨u1, u2⟩ := hQ.uniq hpt
      rw [← hP.num]
      congr 1 <;> omega
  · rintro (⟨a1, a2, a3, a4, a5⟩ | a)
    · exact ⟨a1, a2, a3, a4, by omega⟩
    · have hN := numP_pt (W := W) (H := H) (x := px + 2 * X) (y := py + 2 * Y) (by omega) (by omega) (by omega)
      rw [← a] at hN
      obtain ⟨u1, u2⟩ := hP.uniq hN
      have : numP w (x - 2 * X) (y - 2 * Y) = k := by
        rw [← hpt.num]; congr 1 <;> omega
      exact ⟨by omega, by omega, by omega, by omega, by omega⟩

/-- What is put in is what is wanted there. -/
def Fits (f : Nat → Int) (W w h X Y : Nat) (br : List Int) : Prop := ∀ k px py, IsPt w h k px py → k < rowN w (2 * h) → at0 br k = f (numP W (px + 2 * X) (py + 2 * Y))

theorem c551 (hh : Heap) (hp : 0 < hh.length) (W H w h X Y bb zz bo : Nat) (v : Value) (br : List Int) (f : Nat → Int) (P : Nat → Bool) (hB : Heap) (hv : PtP hB v (w, h, br)) (GB : Grows hB hh) (hle : hB.length ≤ bb) (hbr : br.length = rowN w (2 * h)) (W1 : 1 ≤ W) (W8 : W < 9) (H1 : 1 ≤ H) (H8 : H < 9) (w1 : 1 ≤ w) (h1 : 1 ≤ h) (hXw : X + w ≤ W) (hYh : Y + h ≤ H)
    (hbo : hh[bo]? = some ⟨[I W, I H, sl bb 0 (rowN W (2 * H)) zz], true⟩) (hne : bo ≠ bb) (hz : zz = 1) (hb : hh[bb]? = some ⟨ints (fillB f P (rowN W (2 * H))), true⟩) (hfit : Fits f W w h X Y br) (hfb : ∀ k, I64 (f k)) :
    ACall Gam 551 [pt bo 0, I X, I Y, v] hh fun r h' => Mod bb (bb + 1) hh h' ∧ h'[bb]? = some ⟨ints (fillB f (fun j => P j || inPart W H w h X Y (rowN w (2 * h)) j) (rowN W (2 * H))), true⟩ := by
  obtain ⟨N, hN⟩ : ∃ N, N = rowN W (2 * H) := ⟨_, rfl⟩
  rw [← hN] at hb hbo ⊢
  obtain ⟨n, hn⟩ : ∃ n, n = rowN w (2 * h) := ⟨_, rfl⟩
  rw [← hn] at hbr ⊢
  have hN128 : N ≤ 128 := by rw [hN]; exact rowN_le W8 (by omega)
  have hn128 : n ≤ 128 := by rw [hn]; exact rowN_le (by omega) (by omega)
  have hv0 := hv
  obtain ⟨b, o, s, rfl, y1, y2, y3, r0, v1, v2⟩ := hv
  obtain ⟨b0, o0, z0, rfl, _, hm0, hx0, hc0⟩ := r0.ints
  refine ACall_intro g551 rfl ?_
  unfold fn551
  simp (disch := omega)
  refine awp_loop (fun (k : Nat) σ h' => k ≤ n ∧ Mod bb (bb + 1) hh h' ∧ σ 0 = pt bo 0 ∧ σ 1 = I X ∧ σ 2 = I Y ∧ σ 3 = pt b o ∧ σ 8 = I k ∧
    h'[bb]? = some ⟨ints (fillB f (fun j => P j || inPart W H w h X Y k j) N), true⟩) (fun k => n - k) 0 ?_ ?_
  · refine ⟨by omega, Mod.refl _ _ _, by simp, by simp, by simp, by simp, by simp, ?_⟩
    rw [hb]
    congr 3
    exact fillB_same fun j _ => by simp [inPart_zero]
  · rintro k σ h' ⟨hk, hmd, q0, q1, q2, q3, q8, hb⟩
    have gB' : Grows hB h' := hmd.grows GB hle
    have c3 := gB'.cell y3
    simp (disch := omega) [q3, q8, c3]
    refine fork_dec (fun hlt => ?_) (fun hge => ?_)
    · have k1 : k < n := by omega
      have hpt0 := hv0.grow gB'
      simp (disch := omega) [q3, q8]
      refine callW_of (c454 h' _ _ w h k hpt0 rfl rfl (by omega) (by omega) (by omega) (by omega) (by omega)) ?_
      rintro _ h' ⟨⟨px, py, hpt, rfl⟩, rfl⟩
      obtain ⟨d1, d2, d3⟩ := hpt.bd
      have d4 := hpt.y1
      have d5 := hpt.y2
      obtain ⟨X', hX'⟩ : ∃ X', X' = px + 2 * X := ⟨_, rfl⟩
      obtain ⟨Y', hY'⟩ : ∃ Y', Y' = py + 2 * Y := ⟨_, rfl⟩
      have hnum := numP_lt (W := W) (H := H) (x := X') (y := Y') (by omega) (by omega) (by omega)
      rw [← hN] at hnum
      have hkb : k < br.length := by omega
      have hfk : at0 br k = f (numP W X' Y') := by rw [hX', hY']; exact hfit k px py hpt (by omega)
      have hcell := ints_cell (hc0.imp id (grows_cellsAt gB')) hkb
      rw [← at0_of hkb, hfk] at hcell
      have hbo' : h'[bo]? = some ⟨[I W, I H, sl bb 0 N zz], true⟩ := by rw [hmd.2 bo (at_lt hbo) (by omega)]; exact hbo
      have hvo : Vr h' shInts (sl bb 0 N zz) (fillB f (fun j => P j || inPart W H w h X Y k j) N) := by
        have := Vr.of_ints (h := h') (b := bb) (o := 0) (z := zz) (X := fillB f (fun j => P j || inPart W H w h X Y k j) N) (.inl hz) (by rw [fillB_len, maxLen_eq]; omega) (by
          intro a ha
          obtain ⟨j, _, rfl⟩ := List.mem_map.1 ha
          have := hfb j
          split
          · exact this
          · unfold I64; omega) (.inr (by rw [cellsAt_of hb (by simp [ints, fillB_len])]; simp [ints, fillB_len, List.take_of_length_le]))
        rw [fillB_len] at this
        exact this
      have hpo : PtP h' (pt bo 0) ((W : Int), (H : Int), fillB f (fun j => P j || inPart W H w h X Y k j) N) := PtP.at hbo' hvo (by unfold I64; omega) (by unfold I64; omega)
      have cl : cell h' bo 2 = some (sl bb 0 N zz) := by simp [cell, hbo']
      have ex : (px : Int) + 2 * (X : Int) = ((X' : Nat) : Int) := by omega
      have ey : (py : Int) + 2 * (Y : Int) = ((Y' : Nat) : Int) := by omega
      simp (disch := omega) [q0, q1, q2, q3, q8, cl, wrap64, ex, ey]
      refine callW_of (c451 h' _ _ W X' Y' hpo rfl (by omega) (by omega) (by omega) (by omega)) ?_
      rintro _ h' ⟨rfl, rfl⟩
      refine ⟨fun _ => Grows.refl _, ?_⟩
      have hst := store_fill (P' := fun j => P j || inPart W H w h X Y (k + 1) j) hb hnum rfl (fun j hj => by
        rw [inPart_step W1 H1 hXw hYh hpt (by omega), ← hX', ← hY', Bool.or_assoc])
      simp (disch := omega) [q0, q1, q2, q3, q8, c3, hkb, hnum, hcell, hst, wrap64]
      exact ⟨k + 1, ⟨by omega, hmd.put (by omega) _, by omega, by simp [at_lt hb]⟩, by omega⟩
    · have hkn : k = n := by omega
      subst hkn
      simp (disch := omega)
      exact ⟨hmd, hb⟩
end Am
/-! AmP16 -/
set_option linter.unusedVariables false
set_option linter.unusedSimpArgs false
set_option maxHeartbeats 4000000
set_option maxRecDepth 4000
namespace Am
open Go

/-- Numbers of which some have been replaced. -/
def fillG (g f : Nat → Int) (P : Nat → Bool) (n : Nat) : List Int := (List.range n).map fun j => if P j then f j else g j
theorem fillG_len (g f : Nat → Int) (P : Nat → Bool) (n : Nat) : (fillG g f P n).length = n := by simp [fillG]
theorem fillG_set {g f : Nat → Int} {P P' : Nat → Bool} {n k : Nat} (h : ∀ j, j < n → P' j = (P j || j == k)) : (fillG g f P n).set k (f k) = fillG g f P' n := by
  apply List.ext_getElem
  · simp [fillG]
  · intro i h1 h2
    simp [fillG] at h1 h2 ⊢
    rw [List.getElem_set]
    simp only [List.getElem_map, List.getElem_range]
    have := h i h2
    by_cases e : k = i
    · subst e; simp [this]
    · have e' : ¬ i = k := fun h => e h.symm
      simp [e, this, e']
theorem fillG_same {g f : Nat → Int} {P P' : Nat → Bool} {n : Nat} (h : ∀ j, j < n → P j = P' j) : fillG g f P n = fillG g f P' n := by
  apply List.map_congr_left
  intro i hi
  rw [h i (List.mem_range.1 hi)]
theorem fillG_none {f : Nat → Int} {P : Nat → Bool} {br : List Int} (h : ∀ j, j < br.length → P j = false) : fillG (at0 br) f P br.length = br := by
  apply List.ext_getElem
  · simp [fillG]
  · intro i h1 h2
    simp [fillG] at h1 ⊢
    simp [h i h1, at0_of h1]
theorem store_fillG {h : Heap} {b k n : Nat} {g f : Nat → Int} {P P' : Nat → Bool} {v : Int} (hb : h[b]? = some ⟨ints (fillG g f P n), true⟩) (hk : k < n) (hv : v = f k) (hp : ∀ j, j < n → P' j = (P j || j == k)) :
    storeAt h b k [I v] = some (h.set b ⟨ints (fillG g f P' n), true⟩) := by
  rw [store_one hb (by simp [ints, fillG_len]; exact hk), ← fillG_set hp, hv]
  simp [ints, List.map_set]

theorem c551g (g : Nat → Int) (hgb : ∀ k, I64 (g k)) (hh : Heap) (hp : 0 < hh.length) (W H w h X Y bb zz bo : Nat) (v : Value) (br : List Int) (f : Nat → Int) (P : Nat → Bool) (hB : Heap) (hv : PtP hB v (w, h, br)) (GB : Grows hB hh) (hle : rowN W (2 * H) = 0 ∨ hB.length ≤ bb) (hbr : br.length = rowN w (2 * h)) (W1 : 1 ≤ W) (W8 : W < 9) (H1 : 1 ≤ H) (H8 : H < 9) (w1 : 1 ≤ w) (h1 : 1 ≤ h) (hXw : X + w ≤ W) (hYh : Y + h ≤ H)
    (hbo : hh[bo]? = some ⟨[I W, I H, sl bb 0 (rowN W (2 * H)) zz], true⟩) (hne : rowN W (2 * H) = 0 ∨ bo ≠ bb) (hz : zz = 1 ∨ rowN W (2 * H) = 0) (hb : rowN W (2 * H) = 0 ∨ hh[bb]? = some ⟨ints (fillG g f P (rowN W (2 * H))), true⟩) (hfit : Fits f W w h X Y br) (hfb : ∀ k, I64 (f k)) :
    ACall Gam 551 [pt bo 0, I X, I Y, v] hh fun r h' => Mod bb (bb + 1) hh h' ∧ Grows hB h' ∧ h'[bo]? = some ⟨[I W, I H, sl bb 0 (rowN W (2 * H)) zz], true⟩ ∧ (rowN W (2 * H) = 0 ∨ h'[bb]? = some ⟨ints (fillG g f (fun j => P j || inPart W H w h X Y (rowN w (2 * h)) j) (rowN W (2 * H))), true⟩) := by
  obtain ⟨N, hN⟩ : ∃ N, N = rowN W (2 * H) := ⟨_, rfl⟩
  rw [← hN] at hb hbo hz hle hne ⊢
  obtain ⟨n, hn⟩ : ∃ n, n = rowN w (2 * h) := ⟨_, rfl⟩
  rw [← hn] at hbr ⊢
  have hN128 : N ≤ 128 := by rw [hN]; exact rowN_le W8 (by omega)
  have hn128 : n ≤ 128 := by rw [hn]; exact rowN_le (by omega) (by omega)
  have hv0 := hv
  obtain ⟨b, o, s, rfl, y1, y2, y3, r0, v1, v2⟩ := hv
  obtain ⟨b0, o0, z0, rfl, _, hm0, hx0, hc0⟩ := r0.ints
  refine ACall_intro g551 rfl ?_
  unfold fn551
  simp (disch := omega)
  refine awp_loop (fun (k : Nat) σ h' => k ≤ n ∧ Mod bb (bb + 1) hh h' ∧ Grows hB h' ∧ h'[bo]? = some ⟨[I W, I H, sl bb 0 N zz], true⟩ ∧ σ 0 = pt bo 0 ∧ σ 1 = I X ∧ σ 2 = I Y ∧ σ 3 = pt b o ∧ σ 8 = I k ∧
    (N = 0 ∨ h'[bb]? = some ⟨ints (fillG g f (fun j => P j || inPart W H w h X Y k j) N), true⟩)) (fun k => n - k) 0 ?_ ?_
  · refine ⟨by omega, Mod.refl _ _ _, GB, hbo, by simp, by simp, by simp, by simp, by simp, ?_⟩
    refine hb.imp id fun hb => ?_
    rw [hb]
    congr 3
    exact fillG_same fun j _ => by simp [inPart_zero]
  · rintro k σ h' ⟨hk, hmd, gB', hbo', q0, q1, q2, q3, q8, hb⟩
    have c3 := gB'.cell y3
    simp (disch := omega) [q3, q8, c3]
    refine fork_dec (fun hlt => ?_) (fun hge => ?_)
    · have k1 : k < n := by omega
      have hpt0 := hv0.grow gB'
      simp (disch := omega) [q3, q8]
      refine callW_of (c454 h' _ _ w h k hpt0 rfl rfl (by omega) (by omega) (by omega) (by omega) (by omega)) ?_
      rintro _ h' ⟨⟨px, py, hpt, rfl⟩, rfl⟩
      obtain ⟨d1, d2, d3⟩ := hpt.bd
      have d4 := hpt.y1
      have d5 := hpt.y2
      obtain ⟨X', hX'⟩ : ∃ X', X' = px + 2 * X := ⟨_, rfl⟩
      obtain ⟨Y', hY'⟩ : ∃ Y', Y' = py + 2 * Y := ⟨_, rfl⟩
      have hnum := numP_lt (W := W) (H := H) (x := X') (y := Y') (by omega) (by omega) (by omega)
      rw [← hN] at hnum
      have hb := hb.resolve_left (by omega)
      have hz := hz.resolve_right (by omega)
      have hle := hle.resolve_left (by omega)
      have hne := hne.resolve_left (by omega)
      have hkb : k < br.length := by omega
      have hfk : at0 br k = f (numP W X' Y') := by rw [hX', hY']; exact hfit k px py hpt (by omega)
      have hcell := ints_cell (hc0.imp id (grows_cellsAt gB')) hkb
      rw [← at0_of hkb, hfk] at hcell
      have hvo : Vr h' shInts (sl bb 0 N zz) (fillG g f (fun j => P j || inPart W H w h X Y k j) N) := by
        have := Vr.of_ints (h := h') (b := bb) (o := 0) (z := zz) (X := fillG g f (fun j => P j || inPart W H w h X Y k j) N) (.inl hz) (by rw [fillG_len, maxLen_eq]; omega) (by
          intro a ha
          obtain ⟨j, _, rfl⟩ := List.mem_map.1 ha
          have := hfb j
          split
          · exact this
          · exact hgb j) (.inr (by rw [cellsAt_of hb (by simp [ints, fillG_len])]; simp [ints, fillG_len, List.take_of_length_le]))
        rw [fillG_len] at this
        exact this
      have hpo : PtP h' (pt bo 0) ((W : Int), (H : Int), fillG g f (fun j => P j || inPart W H w h X Y k j) N) := PtP.at hbo' hvo (by unfold I64; omega) (by unfold I64; omega)
      have cl : cell h' bo 2 = some (sl bb 0 N zz) := by simp [cell, hbo']
      have ex : (px : Int) + 2 * (X : Int) = ((X' : Nat) : Int) := by omega
      have ey : (py : Int) + 2 * (Y : Int) = ((Y' : Nat) : Int) := by omega
      simp (disch := omega) [q0, q1, q2, q3, q8, cl, wrap64, ex, ey]
      refine callW_of (c451 h' _ _ W X' Y' hpo rfl (by omega) (by omega) (by omega) (by omega)) ?_
      rintro _ h' ⟨rfl, rfl⟩
      refine ⟨fun _ => Grows.refl _, ?_⟩
      have hst := store_fillG (P' := fun j => P j || inPart W H w h X Y (k + 1) j) hb hnum rfl (fun j hj => by
        rw [inPart_step W1 H1 hXw hYh hpt (by omega), ← hX', ← hY', Bool.or_assoc])
      simp (disch := omega) [q0, q1, q2, q3, q8, c3, hkb, hnum, hcell, hst, wrap64]
      exact ⟨k + 1, ⟨by omega, hmd.put (by omega) _, gB'.put (by omega) _, by first | exact hbo' | (rw [List.getElem?_set_ne (fun e => hne e.symm)]; exact hbo'), by omega, .inr (by simp [at_lt hb])⟩, by omega⟩
    · have hkn : k = n := by omega
      subst hkn
      simp (disch := omega)
      exact ⟨hmd, gB', hbo', hb⟩

/-! ### the law's two sides -/
noncomputable def pasteF (W H w X Y : Nat) (br : List Int) (i : Nat) : Int := at0 br (numP w ((thePt W H i).1 - 2 * X) ((thePt W H i).2 - 2 * Y))
noncomputable def pasteP (P Q : Pan) (x y : Int) : Pan := (P.1, P.2.1, fillG (at0 P.2.2) (pasteF P.1.toNat P.2.1.toNat Q.1.toNat x.toNat y.toNat Q.2.2) (inPart P.1.toNat P.2.1.toNat Q.1.toNat Q.2.1.toNat x.toNat y.toNat (rowN Q.1.toNat (2 * Q.2.1.toNat))) (rowN P.1.toNat (2 * P.2.1.toNat)))
noncomputable def pasteAns (P : Pan) (x y : Int) (Q : Pan) : Pan × Int := if okP P && okP Q then (if hasPart P x y Q.1 Q.2.1 then (pasteP P Q x y, 0) else ((0, 0, []), 2)) else ((0, 0, []), 1)
theorem paste_siz (P : Pan) (x y : Int) (Q : Pan) : siz shPanel (pasteAns P x y Q).1 ≤ 16777216 := by
  unfold pasteAns
  split
  · rename_i hok
    simp only [Bool.and_eq_true] at hok
    have o1 := okP_iff.1 hok.1
    have a1 := o1.w; have a2 := o1.h
    split
    · show siz shPanel (_, _, _) ≤ _
      rw [siz_panel]
      simp only [fillG_len]
      have := rowN_le (W := P.1.toNat) (by omega) (y := 2 * P.2.1.toNat) (by omega)
      omega
    · rw [siz_panel]; simp
  · rw [siz_panel]; simp
theorem paste_fits {W H w h X Y : Nat} {br : List Int} (w1 : 1 ≤ w) (h1 : 1 ≤ h) (hXw : X + w ≤ W) (hYh : Y + h ≤ H) : Fits (pasteF W H w X Y br) W w h X Y br := by
  intro k px py hpt hk
  obtain ⟨d1, d2, d3⟩ := hpt.bd
  have d4 := hpt.y1
  have d5 := hpt.y2
  have hN := numP_pt (W := W) (H := H) (x := px + 2 * X) (y := py + 2 * Y) (by omega) (by omega) (by omega)
  unfold pasteF
  rw [thePt_eq hN]
  simp only
  rw [Nat.add_sub_cancel, Nat.add_sub_cancel, hpt.num]
theorem paste_done {h : Heap} {bb zz n lo : Nat} {g f : Nat → Int} {P : Nat → Bool} (hz : zz = 1 ∨ bb = 0 ∧ n = 0) (hn : n ≤ 128) (hg : ∀ k, I64 (g k)) (hf : ∀ k, I64 (f k)) (hb : n = 0 ∨ h[bb]? = some ⟨ints (fillG g f P n), true⟩) (hlo : n = 0 ∨ lo ≤ bb) :
    Vo h lo h.length shInts (sl bb 0 n zz) (fillG g f P n) := by
  have hul : (fillG g f P n).length = n := fillG_len _ _ _ _
  have := Vo.of_ints (h := h) (b := bb) (lo := lo) (hi := h.length) (z := zz) (X := fillG g f P n) (by
    rcases hz with e | ⟨e, e'⟩
    · exact .inl e
    · exact .inr ⟨e, by rw [e']; rfl⟩) (by rw [hul, maxLen_eq]; omega) (by
    intro x hx
    obtain ⟨j, _, rfl⟩ := List.mem_map.1 hx
    split
    · exact hf j
    · exact hg j) (by
    by_cases hk0 : n = 0
    · exact .inl (by rw [hk0]; rfl)
    · exact .inr ⟨hb.resolve_left hk0, hlo.resolve_left hk0, at_lt (hb.resolve_left hk0)⟩)
  rw [hul] at this
  exact this
theorem rng_64 {x : Int} (h : 0 ≤ x ∧ x ≤ 2) : I64 x := by unfold I64; omega

end Am
/-! AmP15 -/
set_option linter.unusedVariables false
set_option linter.unusedSimpArgs false
set_option linter.unusedSectionVars false
set_option maxHeartbeats 4000000
set_option maxRecDepth 4000
namespace Am
open Go

noncomputable def joinF (aW bW H : Nat) (a b : List Int) (i : Nat) : Int :=
  if (thePt (aW + bW) H i).1 = 2 * aW then 1 else if (thePt (aW + bW) H i).1 < 2 * aW then at0 a (numP aW (thePt (aW + bW) H i).1 (thePt (aW + bW) H i).2) else at0 b (numP bW ((thePt (aW + bW) H i).1 - 2 * aW) (thePt (aW + bW) H i).2)
noncomputable def joinP (X Y : Pan) : Pan := (X.1 + Y.1, X.2.1, (List.range (rowN (X.1.toNat + Y.1.toNat) (2 * X.2.1.toNat))).map (joinF X.1.toNat Y.1.toNat X.2.1.toNat X.2.2 Y.2.2))
noncomputable def joinAns (X Y : Pan) : Pan × Int := if okP X && okP Y then (if X.2.1 = Y.2.1 then (if X.1 + Y.1 ≤ 8 then (joinP X Y, 0) else ((0, 0, []), 5)) else ((0, 0, []), 6)) else ((0, 0, []), 1)
theorem join_siz (X Y : Pan) : siz shPanel (joinAns X Y).1 ≤ 16777216 := by
  unfold joinAns
  split
  · rename_i hok
    simp only [Bool.and_eq_true] at hok
    have o1 := okP_iff.1 hok.1
    have o2 := okP_iff.1 hok.2
    have a1 := o1.w; have a2 := o1.h; have a3 := o2.w
    split
    · split
      · rename_i hle
        show siz shPanel (_, _, _) ≤ _
        rw [siz_panel]
        simp only [List.length_map, List.length_range]
        have := rowN_le (W := X.1.toNat + Y.1.toNat) (by omega) (y := 2 * X.2.1.toNat) (by omega)
        omega
      · rw [siz_panel]; simp
    · rw [siz_panel]; simp
  · rw [siz_panel]; simp

/-- The uprights that have been put in. -/
noncomputable def upP (W H c m : Nat) (j : Nat) : Bool := decide ((thePt W H j).1 = 2 * c ∧ (thePt W H j).2 < 2 * m + 1)
theorem upP_zero {W H c j : Nat} (w1 : 1 ≤ W) (h1 : 1 ≤ H) (hj : j < rowN W (2 * H)) : upP W H c 0 j = false := by
  obtain ⟨x, y, hP⟩ := IsPt.ex w1 h1 hj
  unfold upP
  rw [thePt_eq hP, decide_eq_false_iff_not]
  have := hP.y1
  simp only; omega
theorem upP_step {W H c m j : Nat} (w1 : 1 ≤ W) (h1 : 1 ≤ H) (hc : 1 ≤ c ∧ c < W) (hm : 2 * m + 1 < 2 * H) (hj : j < rowN W (2 * H)) : upP W H c (m + 1) j = (upP W H c m j || j == numP W (2 * c) (2 * m + 1)) := by
  obtain ⟨x, y, hP⟩ := IsPt.ex w1 h1 hj
  unfold upP
  rw [thePt_eq hP, Bool.eq_iff_iff]
  simp only [decide_eq_true_eq, Bool.or_eq_true, beq_iff_eq]
  obtain ⟨q1, q2, q3⟩ := hP.bd
  constructor
  · rintro ⟨a1, a2⟩
    by_cases e : y < 2 * m + 1
    · exact .inl ⟨a1, e⟩
    · right
      rw [← hP.num]
      congr 1; omega
  · rintro (⟨a1, a2⟩ | a)
    · exact ⟨a1, by omega⟩
    · have hN := numP_pt (W := W) (H := H) (x := 2 * c) (y := 2 * m + 1) (by omega) (by omega) (by omega)
      rw [← a] at hN
      obtain ⟨u1, u2⟩ := hP.uniq hN
      omega
section
variable {aW bW H : Nat} {a b : List Int} (w1 : 1 ≤ aW) (w2 : 1 ≤ bW) (h1 : 1 ≤ H)
include w1 w2 h1
theorem join_up {m : Nat} (hm : 2 * m + 1 < 2 * H) : joinF aW bW H a b (numP (aW + bW) (2 * aW) (2 * m + 1)) = 1 := by
  have hN := numP_pt (W := aW + bW) (H := H) (x := 2 * aW) (y := 2 * m + 1) (by omega) (by omega) (by omega)
  unfold joinF
  rw [thePt_eq hN, if_pos rfl]
theorem join_a : Fits (joinF aW bW H a b) (aW + bW) aW H 0 0 a := by
  intro k px py hpt hk
  obtain ⟨d1, d2, d3⟩ := hpt.bd
  have d4 := hpt.y1
  have d5 := hpt.y2
  have hN := numP_pt (W := aW + bW) (H := H) (x := px + 2 * 0) (y := py + 2 * 0) (by omega) (by omega) (by omega)
  unfold joinF
  rw [thePt_eq hN]
  simp only [Nat.mul_zero, Nat.add_zero]
  rw [if_neg (by omega), if_pos (by omega), hpt.num]
theorem join_b : Fits (joinF aW bW H a b) (aW + bW) bW H aW 0 b := by
  intro k px py hpt hk
  obtain ⟨d1, d2, d3⟩ := hpt.bd
  have d4 := hpt.y1
  have d5 := hpt.y2
  have hN := numP_pt (W := aW + bW) (H := H) (x := px + 2 * aW) (y := py + 2 * 0) (by omega) (by omega) (by omega)
  unfold joinF
  rw [thePt_eq hN]
  simp only [Nat.mul_zero, Nat.add_zero]
  rw [if_neg (by omega), if_neg (by omega), Nat.add_sub_cancel, hpt.num]
theorem join_cover {j : Nat} (hj : j < rowN (aW + bW) (2 * H)) : (upP (aW + bW) H aW H j || (inPart (aW + bW) H aW H 0 0 (rowN aW (2 * H)) j || inPart (aW + bW) H bW H aW 0 (rowN bW (2 * H)) j)) = true := by
  obtain ⟨x, y, hP⟩ := IsPt.ex (W := aW + bW) (by omega) h1 hj
  obtain ⟨q1, q2, q3⟩ := hP.bd
  have q4 := hP.y1
  have q5 := hP.y2
  unfold upP inPart
  rw [thePt_eq hP]
  simp only [Bool.or_eq_true, decide_eq_true_eq]
  by_cases e1 : x = 2 * aW
  · exact .inl ⟨e1, by omega⟩
  · right
    by_cases e2 : x < 2 * aW
    · left
      have := numP_lt (W := aW) (H := H) (x := x) (y := y) (by omega) (by omega) (by omega)
      exact ⟨by omega, by omega, by omega, by omega, by simpa using this⟩
    · right
      have := numP_lt (W := bW) (H := H) (x := x - 2 * aW) (y := y) (by omega) (by omega) (by omega)
      exact ⟨by omega, by omega, by omega, by omega, by simpa using this⟩
end
theorem joinF_rng {aW bW H : Nat} {a b : List Int} (ha : ∀ x ∈ a, 0 ≤ x ∧ x ≤ 2) (hb : ∀ x ∈ b, 0 ≤ x ∧ x ≤ 2) (k : Nat) : 0 ≤ joinF aW bW H a b k ∧ joinF aW bW H a b k ≤ 2 := by
  unfold joinF
  split
  · omega
  · split
    · exact at0_rng ha _
    · exact at0_rng hb _
theorem rowN_pos {W H : Nat} (w2 : 2 ≤ W) (h1 : 1 ≤ H) : 0 < rowN W (2 * H) := by
  have h := rowN_mono (W := W) (show 2 ≤ 2 * H by omega)
  have e : rowN W 2 = W - 1 := by
    show rowN W (1 + 1) = _
    rw [rowN_succ (Nat.le_refl 1)]; simp [rowN]
  omega

end Am
/-! AmD1 -/
set_option linter.unusedVariables false
set_option linter.unusedSimpArgs false
set_option maxHeartbeats 4000000
set_option maxRecDepth 20000
namespace Am
open Go

/-- The digits of a number; none for 0. -/
def decN (n : Nat) : List UInt8 := if h : n = 0 then [] else decN (n / 10) ++ [UInt8.ofNat (48 + n % 10)]
termination_by n
decreasing_by omega
theorem decN_zero : decN 0 = [] := by unfold decN; simp
theorem decN_pos {n : Nat} (h : n ≠ 0) : decN n = decN (n / 10) ++ [UInt8.ofNat (48 + n % 10)] := by
  rw [decN]; rw [dif_neg h]
theorem decN_len (k : Nat) : ∀ n, n < 10 ^ k → (decN n).length ≤ k := by
  induction k with
  | zero => intro n hn; have : n = 0 := by simpa using hn
            subst this; simp [decN_zero]
  | succ k ih =>
    intro n hn
    by_cases h0 : n = 0
    · subst h0; simp [decN_zero]
    · rw [decN_pos h0]
      have := ih (n / 10) (by rw [Nat.pow_succ] at hn; omega)
      simp; omega
theorem decN_pos_len {n : Nat} (h : n ≠ 0) : 0 < (decN n).length := by rw [decN_pos h]; simp
def decS (n : Int) : List UInt8 := if n = 0 then [48] else if n < 0 then 45 :: decN n.natAbs else decN n.natAbs
theorem decN_len64 {n : Int} (hn : I64 n) : (decN n.natAbs).length ≤ 19 := by
  unfold I64 at hn
  have e : 10 ^ 19 = 10000000000000000000 := by decide
  exact decN_len 19 _ (by omega)
theorem decS_len {n : Int} (hn : I64 n) : 1 ≤ (decS n).length ∧ (decS n).length ≤ 20 := by
  have := decN_len64 hn
  unfold decS
  split
  · simp
  · have h0 := decN_pos_len (n := n.natAbs) (by omega)
    split
    · simp; omega
    · omega
theorem wrapU {n : Int} (a : 0 ≤ n) (b : n < 18446744073709551616) : IntKind.u64.wrap n = n := wrap_unsigned (M := 18446744073709551616) rfl (by decide) a b
theorem wrapU_neg {n : Int} (a : -9223372036854775808 ≤ n) (b : n < 0) : IntKind.u64.wrap n = n + 18446744073709551616 := by
  unfold IntKind.wrap
  have hs : IntKind.u64.signed = false := rfl
  have hM : (2 : Int) ^ IntKind.u64.bits = 18446744073709551616 := by decide
  simp only [hs, hM, Bool.false_and, Bool.false_eq_true, if_false]
  rw [← Int.add_emod_right]
  exact Int.emod_eq_of_lt (by omega) (by omega)
theorem wrapU_sub {n : Int} (a : -9223372036854775808 ≤ n) (b : n < 0) : IntKind.u64.wrap (0 - IntKind.u64.wrap n) = -n := by
  rw [wrapU_neg a b]
  unfold IntKind.wrap
  have hs : IntKind.u64.signed = false := rfl
  have hM : (2 : Int) ^ IntKind.u64.bits = 18446744073709551616 := by decide
  simp only [hs, hM, Bool.false_and, Bool.false_eq_true, if_false]
  have : 0 - (n + 18446744073709551616) = -n - 18446744073709551616 := by omega
  rw [this, ← Int.add_emod_right, Int.sub_add_cancel]
  exact Int.emod_eq_of_lt (by omega) (by omega)

/-- A byte before what there is. -/
theorem push_front {h h' : Heap} {v : Value} {l : List UInt8} {x : Int} {c : UInt8} {K : Value → Heap → Prop} (hp : 0 < h.length) (hl : l.length ≤ 1048576) (hg : Grows h h') (hv : Buf h h' v 1 (bytesV l)) (hx : x = c.toNat)
    (hK : ∀ v' h'', Grows h h'' → Buf h h'' v' 1 (bytesV (c :: l)) → K v' h'') :
    bindW (aBuildSlice 1 1 h' [(0, Value.agg #[U 0]), (1, U x)]) fun y h'' => bindW (aAppend 1 h'' v y) K := by
  subst hx
  have e : aBuildSlice 1 1 h' [(0, Value.agg #[U 0]), (1, U (c.toNat : Int))] = some (sl h'.length 0 1 1, h' ++ [⟨bytesV [c], true⟩]) := by simp [aBuildSlice, bytesV]
  rw [e]
  simp only [bindW_some]
  have hb : Buf h (h' ++ [⟨bytesV [c], true⟩]) (sl h'.length 0 1 1) 1 (bytesV [c]) := .inr ⟨h'.length, 1, rfl, by simp [bytesV], hg.le, by simp⟩
  have hn : newCells 1 (h' ++ [⟨bytesV [c], true⟩]) v = some (bytesV l) := by
    obtain ⟨b, o, n, rfl, hn, hr⟩ := (hv.grow (⟨_, rfl⟩ : Grows h' (h' ++ [⟨bytesV [c], true⟩]))).reads
    by_cases h0 : n = 0
    · subst h0
      have : l = [] := by simp [bytesV] at hn; simpa using hn.symm
      subst this; simp [newCells, bytesV]
    · have := hr.resolve_left h0
      simp only [newCells, h0, if_false]
      exact this
  by_cases h0 : l = []
  · subst h0
    have : aAppend 1 (h' ++ [⟨bytesV [c], true⟩]) v (sl h'.length 0 1 1) = some (sl h'.length 0 1 1, h' ++ [⟨bytesV [c], true⟩]) := by
      simp only [aAppend, hn]
      simp [bytesV]
    rw [this]
    exact hK _ _ (hg.push _) hb
  · refine append_buf hp (hg.push _) hb hn (by omega) (by simpa [bytesV] using h0) (by simp) (by simp [bytesV, maxSize]; omega) ?_
    intro v' h'' g1 b1 _
    exact hK v' h'' g1 (by simpa [bytesV] using b1)

theorem dig_eq {r : Int} (h : I64 r) : (0 ≤ r → IntKind.u8.wrap (IntKind.i64.wrap (48 + r.tmod 10)) = ((UInt8.ofNat (48 + r.natAbs % 10)).toNat : Int)) ∧ (r < 0 → IntKind.u8.wrap (IntKind.i64.wrap (48 + (0 - r.tmod 10))) = ((UInt8.ofNat (48 + r.natAbs % 10)).toNat : Int)) := by
  unfold I64 at h
  have e : ((UInt8.ofNat (48 + r.natAbs % 10)).toNat : Int) = 48 + (r.natAbs : Int) % 10 := by
    rw [UInt8.toNat_ofNat']
    omega
  rw [e]
  constructor
  · intro h0
    rw [tmod_pos h0, wrap64 (by omega) (by omega), wrap8 (by omega) (by omega)]
    omega
  · intro h0
    have : r.tmod 10 = -((r.natAbs : Int) % 10) := by
      have e : r = -(r.natAbs : Int) := by omega
      rw [e, Int.neg_tmod, tmod_pos (by omega)]
      omega
    rw [this, wrap64 (by omega) (by omega), wrap8 (by omega) (by omega)]
    omega
theorem quo_eq {r : Int} : (r.tdiv 10).natAbs = r.natAbs / 10 := by
  rw [Int.natAbs_tdiv]; rfl

theorem dec_next {m : Nat} {l acc : List UInt8} (h : decN m ++ acc = l) (h0 : m ≠ 0) : decN (m / 10) ++ (UInt8.ofNat (48 + m % 10) :: acc) = l := by
  rw [← h, decN_pos h0]; simp
theorem c437 (n : Int) (hn : I64 n) (h : Heap) (hp : 0 < h.length) : ACall Gam 437 [I n] h fun r h' => r = S (decS n) ∧ Grows h h' := by
  have hl := decN_len64 hn
  have hn' := hn
  unfold I64 at hn'
  refine ACall_intro g437 rfl ?_
  unfold fn437
  simp (disch := omega)
  refine awp_loop (fun (r : Int) σ h' => I64 r ∧ Grows h h' ∧ σ 0 = I n ∧ σ 4 = I r ∧ ∃ acc, decN r.natAbs ++ acc = decN n.natAbs ∧ Buf h h' (σ 3) 1 (bytesV acc)) (fun r => r.natAbs) n ?_ ?_
  · exact ⟨hn, Grows.refl _, by simp, by simp, [], by simp, by simpa [bytesV] using Buf.nil⟩
  · rintro r σ h' ⟨hr, hg, p0, p4, acc, he, p3⟩
    have hla : (decN r.natAbs).length + acc.length ≤ 19 := by
      have := congrArg List.length he
      rw [List.length_append] at this; omega
    simp (disch := omega) [p4]
    refine fork_dec (fun h0 => ?_) (fun hne => ?_)
    · subst h0
      simp only [Int.natAbs_zero, decN_zero, List.nil_append] at he
      subst he
      have htb := text_buf p3
      obtain ⟨b, o, k, hk, hkn, hrd⟩ := p3.reads
      have hkn' : k = (decN n.natAbs).length := by simpa [bytesV] using hkn
      simp (disch := omega) [hk, p0]
      refine fork_dec (fun hz => ?_) (fun hz => ?_)
      · have : n = 0 := by
          false_or_by_contra
          have := decN_pos_len (n := n.natAbs) (by omega)
          omega
        subst this
        simp (disch := omega) [decS, hg]
      · have hn0 : n ≠ 0 := by
          intro e; subst e; simp [decN_zero] at hkn'; omega
        simp (disch := omega) [hk, p0]
        rw [hk] at htb
        refine fork_dec (fun hz => ?_) (fun hz => ?_)
        · simp (disch := omega) [hk, p0, htb]
          rw [if_pos (by omega)]
          simp [decS, hn0, hz, hg]
        · simp (disch := omega) [hk, p0, htb, decS, hn0, hz, hg]
    · have hr' := hr
      unfold I64 at hr'
      have hm : r.natAbs ≠ 0 := by omega
      have hnx := dec_next he hm
      have hq := quo_eq (r := r)
      obtain ⟨d1, d2⟩ := dig_eq hr
      have hdec : (r.tdiv 10).natAbs < r.natAbs := by omega
      have hi : I64 (r.tdiv 10) := by unfold I64; omega
      have hw : IntKind.i64.wrap (r.tdiv 10) = r.tdiv 10 := wrap64 (by unfold I64 at hi; omega) (by unfold I64 at hi; omega)
      simp (disch := omega) [p4]
      refine fork_dec (fun hlt => ?_) (fun hge => ?_)
      · simp (disch := omega) [p4]
        have hr0 : r < 0 := by
          false_or_by_contra
          rw [tmod_pos (by omega)] at hlt
          omega
        have ha : (r.tmod 10).natAbs = r.natAbs % 10 := Int.natAbs_tmod r 10
        refine push_front (c := UInt8.ofNat (48 + r.natAbs % 10)) hp (by omega) hg p3 (by rw [← d2 hr0, Int.zero_sub, wrap64 (n := -r.tmod 10) (by omega) (by omega)]) ?_
        intro v' h'' g1 b1
        simp (disch := omega) [p4, hw]
        exact ⟨_, ⟨hi, g1, p0, rfl, _, by rw [hq]; exact hnx, b1⟩, by omega⟩
      · simp (disch := omega) [p4]
        have ha : (r.tmod 10).natAbs = r.natAbs % 10 := Int.natAbs_tmod r 10
        have hd : 0 ≤ r ∨ r.tmod 10 = 0 := by
          by_cases h0 : 0 ≤ r
          · exact .inl h0
          · right
            have e : r = -(r.natAbs : Int) := by omega
            rw [e, Int.neg_tmod, tmod_pos (by omega)] at hge ⊢
            omega
        refine push_front (c := UInt8.ofNat (48 + r.natAbs % 10)) hp (by omega) hg p3 (by
          rcases hd with h0 | h0
          · exact d1 h0
          · by_cases h1 : 0 ≤ r
            · exact d1 h1
            · rw [← d2 (by omega), h0]; rfl) ?_
        intro v' h'' g1 b1
        simp (disch := omega) [p4, hw]
        exact ⟨_, ⟨hi, g1, p0, rfl, _, by rw [hq]; exact hnx, b1⟩, by omega⟩

theorem drop_set (l : List UInt8) (k : Nat) (c : UInt8) (hk : k < l.length) : (l.set k c).drop k = c :: l.drop (k + 1) := by
  rw [List.set_eq_take_append_cons_drop, if_pos hk, List.drop_append_of_le_length (by simp; omega), List.drop_of_length_le (by simp; omega)]
  simp
theorem bytesV_set (l : List UInt8) (k : Nat) (c : UInt8) : (bytesV l).set k (U c.toNat) = bytesV (l.set k c) := by simp [bytesV, List.map_set]
theorem c75 (n : Int) (hn : I64 n) (h : Heap) (hp : 0 < h.length) : ACall Gam 75 [I n] h fun r h' => r = S (decS n) ∧ Grows h h' := by
  have hl := decN_len64 hn
  have hn' := hn
  unfold I64 at hn'
  refine ACall_intro g75 rfl ?_
  unfold fn75
  simp (disch := omega)
  refine fork_dec (fun h0 => ?_) (fun h0 => ?_)
  · subst h0
    simp [decS, Grows.refl]
  have hst : storeAt (h ++ [⟨[U 0, U 0, U 0, U 0, U 0, U 0, U 0, U 0, U 0, U 0, U 0, U 0, U 0, U 0, U 0, U 0, U 0, U 0, U 0, U 0], true⟩]) h.length 0 [U 0, U 0, U 0, U 0, U 0, U 0, U 0, U 0, U 0, U 0, U 0, U 0, U 0, U 0, U 0, U 0, U 0, U 0, U 0, U 0] = some (h ++ [⟨bytesV (List.replicate 20 0), true⟩]) := by
    simp [storeAt, splice, bytesV]
  simp (disch := omega) [hst]
  obtain ⟨h1, e1⟩ : ∃ h1, h1 = h ++ [⟨bytesV (List.replicate 20 0), true⟩] := ⟨_, rfl⟩
  have er : (List.replicate 20 (0 : UInt8)) = [0, 0, 0, 0, 0, 0, 0, 0, 0, 0, 0, 0, 0, 0, 0, 0, 0, 0, 0, 0] := rfl
  rw [er] at e1
  rw [← e1]
  have g1 : Grows h h1 := ⟨_, e1⟩
  have k1 : h1[h.length]? = some ⟨bytesV (List.replicate 20 0), true⟩ := by rw [e1, er]; simp
  generalize hK : seqQ Gam _ (retQ _ _) = K
  have main : ∀ σ, σ 0 = I n → σ 3 = pt h.length 0 → σ 4 = I 20 → σ 5 = .int .u64 n.natAbs → K 0 σ h1 := by
    intro σ p0 p3 p4 p5
    subst hK
    simp only [seqQ_zero]
    simp (disch := omega)
    refine awp_loop (fun (r : Nat) σ h' => Grows h h' ∧ r ≤ 9223372036854775808 ∧ σ 0 = I n ∧ σ 3 = pt h.length 0 ∧ σ 5 = .int .u64 r ∧ ∃ (arr : List UInt8) (a : Nat), σ 4 = I a ∧ arr.length = 20 ∧ h'[h.length]? = some ⟨bytesV arr, true⟩ ∧ decN r ++ arr.drop a = decN n.natAbs ∧ a ≤ 20) (fun r => r) n.natAbs ?_ ?_
    · exact ⟨g1, by omega, p0, p3, p5, _, 20, p4, by simp, k1, by simp, by omega⟩
    · rintro r σ h' ⟨hg, hr, p0, p3, p5, arr, a, p4, ha, hb, he, ha20⟩
      have hla : (decN r).length + (20 - a) ≤ 19 := by
        have := congrArg List.length he
        rw [List.length_append, List.length_drop, ha] at this; omega
      simp (disch := omega) [p5]
      refine fork_dec (fun hgt => ?_) (fun hle => ?_)
      · have hm : r ≠ 0 := by omega
        have := decN_pos_len hm
        have hnx := dec_next he hm
        obtain ⟨a, rfl⟩ : ∃ a', a = a' + 1 := ⟨a - 1, by omega⟩
        have hw : IntKind.u8.wrap (IntKind.u64.wrap (48 + (r : Int) % 10)) = ((UInt8.ofNat (48 + r % 10)).toNat : Int) := by
          rw [wrapU (by omega) (by omega), wrap8 (by omega) (by omega), UInt8.toNat_ofNat']
          omega
        obtain ⟨d, hd⟩ : ∃ d : UInt8, d = UInt8.ofNat (48 + r % 10) := ⟨_, rfl⟩
        rw [← hd] at hw hnx
        have hq : IntKind.u64.wrap ((r : Int) / 10) = ((r / 10 : Nat) : Int) := by
          rw [wrapU (by omega) (by omega)]; omega
        have hs : storeAt h' h.length a [U (d.toNat : Int)] = some (h'.set h.length ⟨bytesV (arr.set a d), true⟩) := by
          rw [store_one hb (by simp [bytesV]; omega), bytesV_set]
        have ea : (a : Int) + 1 - 1 = a := by omega
        have la : (a : Int) < 20 := by omega
        simp (disch := omega) [p3, p4, p5, ea, wrap64, tmod_pos, tdiv_pos, hw, la, hs, hq]
        exact ⟨r / 10, ⟨hg.put (Nat.le_refl _) _, by omega, p0, by omega, arr.set a d, a, rfl, by simpa using ha, by simp [at_lt hb], by rw [drop_set _ _ _ (by omega)]; exact hnx, by omega⟩, by omega⟩
      · have : r = 0 := by omega
        subst this
        rw [decN_zero, List.nil_append] at he
        simp (disch := omega) [p0]
        have fin : ∀ (h' : Heap) (arr : List UInt8) (a : Nat) (σ : Nat → Value), arr.length = 20 → a < 20 → h'[h.length]? = some ⟨bytesV arr, true⟩ → arr.drop a = decS n → aSlice 1020001 h' (pt h.length 0) (some (I a)) none none = some (sl h.length a (20 - a) 1, h') ∧ aConv 21 (sl h.length a (20 - a) 1) h' = some (S (decS n), h') := by
          intro h' arr a σ l1 l2 hb he
          constructor
          · simp [aSlice, bound, arrOk, hb, bytesV, l1, l2, show h.length ≠ 0 by omega]
          · have hc : cellsAt h' h.length a (20 - a) = some (bytesV (decS n)) := by
              rw [cellsAt_of hb (by simp [bytesV]; omega), ← he]
              simp [bytesV, List.map_drop, List.take_of_length_le, l1]
            simp [aConv, hc, asInts_bytes, show ¬ 20 - a = 0 by omega]
        have hdl := decN_pos_len (n := n.natAbs) (by omega)
        refine fork_dec (fun hneg => ?_) (fun hpos => ?_)
        · obtain ⟨a, rfl⟩ : ∃ a', a = a' + 1 := ⟨a - 1, by omega⟩
          have hs : storeAt h' h.length a [U 45] = some (h'.set h.length ⟨bytesV (arr.set a 45), true⟩) := by
            rw [← bytesV_set, ← store_one hb (by simp [bytesV]; omega)]; rfl
          have ea : (a : Int) + 1 - 1 = a := by omega
          have la : a < 20 := by
            have := congrArg List.length he
            rw [List.length_drop, ha] at this; omega
          obtain ⟨f1, f2⟩ := fin (h'.set h.length ⟨bytesV (arr.set a 45), true⟩) (arr.set a 45) a σ (by simpa using ha) la (by simp [at_lt hb]) (by rw [drop_set _ _ _ (by omega), he]; simp [decS, h0, hneg])
          have la' : (a : Int) < 20 := by omega
          simp (disch := omega) [p0, p3, p4, ea, wrap64, la', hs, f1, f2]
          exact hg.put (Nat.le_refl _) _
        · have la : a < 20 := by
            have := congrArg List.length he
            rw [List.length_drop, ha] at this; omega
          obtain ⟨f1, f2⟩ := fin h' arr a σ ha la hb (by rw [he]; simp [decS, h0, hpos])
          simp (disch := omega) [p0, p3, p4, f1, f2]
          exact hg
  refine fork_dec (fun hneg => ?_) (fun hpos => ?_)
  · simp (disch := omega)
    refine main _ (by simp) (by simp) (by simp) ?_
    rw [← Int.zero_sub, wrapU_sub (by omega) (by omega)]
    have : ((n.natAbs : Nat) : Int) = -n := by omega
    simp [this]
  · simp (disch := omega)
    refine main _ (by simp) (by simp) (by simp) ?_
    rw [wrapU (by omega) (by omega)]
    have : ((n.natAbs : Nat) : Int) = n := by omega
    simp [this]
end Am

/- Contracts: AmP12, AmP13, AmP14, AmP16. -/
import Derived.Test.YtpdhmojncndobaaAmK3
/-! AmP12 -/
set_option linter.unusedVariables false
set_option linter.unusedSimpArgs false
set_option maxHeartbeats 4000000
set_option maxRecDepth 4000
namespace Am
open Go

theorem c188 (h : Heap) (x y X Y : Int) (hx : 0 ≤ x ∧ x ≤ 100) (hy : 0 ≤ y ∧ y ≤ 100) (hX : 0 ≤ X ∧ X ≤ 100) (hY : 0 ≤ Y ∧ Y ≤ 100) : ACall Gam 188 [.agg #[I x, I y], I X, I Y] h fun r h' => r = .agg #[I (x + 2 * X), I (y + 2 * Y)] ∧ h' = h := by
  refine ACall_intro g188 rfl ?_
  unfold fn188
  simp (disch := omega) [wrap64, resOf_box, aField]

/-! ### where a part lies -/
def hasPart (P : Pan) (x y w h : Int) : Bool := inR w 1 P.1 && (inR h 1 P.2.1 && (inR x 0 (P.1 - w) && inR y 0 (P.2.1 - h)))
theorem hasPart_iff {P : Pan} {x y w h : Int} : hasPart P x y w h = true ↔ (1 ≤ w ∧ w ≤ P.1) ∧ (1 ≤ h ∧ h ≤ P.2.1) ∧ (0 ≤ x ∧ x ≤ P.1 - w) ∧ 0 ≤ y ∧ y ≤ P.2.1 - h := by
  simp [hasPart, inR_iff]
theorem c549 (hh : Heap) (v : Value) (P : Pan) (x y w h : Int) (hv : PtP hh v P) (ok : OkP P) : ACall Gam 549 [v, I x, I y, I w, I h] hh fun r h' => r = B (hasPart P x y w h) ∧ h' = hh := by
  obtain ⟨W, H, br⟩ := P
  obtain ⟨b, o, s, rfl, h1, h2, _⟩ := hv
  obtain ⟨qW, qH, _, _⟩ := ok
  simp only at h1 h2 qW qH
  refine ACall_intro g549 rfl ?_
  unfold fn549
  simp (disch := omega) [h1, h2]
  refine callW_of (c432 w 1 W hh) ?_
  rintro _ h' ⟨rfl, rfl⟩
  cases q1 : inR w 1 W
  · simp [hasPart, q1]
  simp (disch := omega) [h1, h2]
  refine callW_of (c432 h 1 H h') ?_
  rintro _ h' ⟨rfl, rfl⟩
  cases q2 : inR h 1 H
  · simp [hasPart, q1, q2]
  have i1 := inR_iff.1 q1
  have i2 := inR_iff.1 q2
  simp (disch := omega) [h1, h2, wrap64]
  refine callW_of (c432 x 0 (W - w) h') ?_
  rintro _ h' ⟨rfl, rfl⟩
  cases q3 : inR x 0 (W - w)
  · simp [hasPart, q1, q2, q3]
  simp (disch := omega) [h1, h2, wrap64]
  refine callW_of (c432 y 0 (H - h) h') ?_
  rintro _ h' ⟨rfl, rfl⟩
  simp [hasPart, q1, q2, q3]
theorem c33 (hh : Heap) (v : Value) (P : Pan) (x y w h : Int) (hv : Vr hh shPanel v P) (ok : OkP P) : ACall Gam 33 [v, I x, I y, I w, I h] hh fun r h' => r = B (hasPart P x y w h) ∧ h' = hh := by
  obtain ⟨W, H, br⟩ := P
  obtain ⟨s, rfl, _⟩ := hv.panel
  obtain ⟨qW, qH, _, _⟩ := ok
  simp only at qW qH
  refine ACall_intro g33 rfl ?_
  unfold fn33
  simp (disch := omega)
  refine callW_of (c164 w 1 W hh) ?_
  rintro _ h' ⟨rfl, rfl⟩
  cases q1 : inR w 1 W
  · simp [hasPart, q1]
  simp (disch := omega)
  refine callW_of (c164 h 1 H h') ?_
  rintro _ h' ⟨rfl, rfl⟩
  cases q2 : inR h 1 H
  · simp [hasPart, q1, q2]
  have i1 := inR_iff.1 q1
  have i2 := inR_iff.1 q2
  simp (disch := omega) [wrap64]
  refine callW_of (c164 x 0 (W - w) h') ?_
  rintro _ h' ⟨rfl, rfl⟩
  cases q3 : inR x 0 (W - w)
  · simp [hasPart, q1, q2, q3]
  simp (disch := omega) [wrap64]
  refine callW_of (c164 y 0 (H - h) h') ?_
  rintro _ h' ⟨rfl, rfl⟩
  simp [hasPart, q1, q2, q3]

/-! ### all points, in order -/
def pairV (p : Nat × Nat) : List Value := [I p.1, I p.2]
def pairsV (l : List (Nat × Nat)) : List Value := (l.map pairV).flatten
theorem pairsV_append (a b : List (Nat × Nat)) : pairsV (a ++ b) = pairsV a ++ pairsV b := by simp [pairsV]
theorem pairsV_len : ∀ l : List (Nat × Nat), (pairsV l).length = 2 * l.length
  | [] => rfl
  | a :: l => by
    have := pairsV_len l
    simp only [pairsV, List.map_cons, List.flatten_cons, List.length_append, List.length_cons] at this ⊢
    simp only [pairV, List.length_cons, List.length_nil] at this ⊢
    omega
theorem append_pair {h h' : Heap} {v : Value} {l : List (Nat × Nat)} {x y : Nat} {K : Value → Heap → Prop} (hp : 0 < h.length) (hl : l.length ≤ 1048576) (hg : Grows h h') (hv : Buf h h' v 2 (pairsV l))
    (hK : ∀ v' h'', Grows h h'' → Buf h h'' v' 2 (pairsV (l ++ [(x, y)])) → K v' h'') :
    bindW (aBuildSlice 2 1 h' [(0, .agg #[I 0, I 0]), (2, .agg #[I x, I y])]) fun y h'' => bindW (aAppend 2 h'' y v) K := by
  have e : aBuildSlice 2 1 h' [(0, .agg #[I 0, I 0]), (2, .agg #[I x, I y])] = some (sl h'.length 0 1 2, h' ++ [⟨[I x, I y], true⟩]) := by simp [aBuildSlice]
  rw [e]
  simp only [bindW_some]
  refine append_buf hp (hg.push _) (hv.grow ⟨_, rfl⟩) (new := [I x, I y]) ?_ (by omega) (by simp) (by simp) (by rw [pairsV_len]; simp [maxSize]; omega) ?_
  · simp [newCells]
    rw [cellsAt_of (k := ⟨[I x, I y], true⟩) (by simp) (by simp)]
    simp
  · intro v' h'' g1 b1 k1
    refine hK v' h'' g1 (by rw [pairsV_append]; exact b1)
theorem pairs_get : ∀ (l : List (Nat × Nat)) (k : Nat) (hk : k < l.length), ((pairsV l).drop (k * 2)).take 2 = pairV l[k]
  | a :: l, 0, _ => by simp [pairsV, pairV]
  | a :: l, k + 1, hk => by
    have := pairs_get l k (by simpa using hk)
    simp only [pairsV, List.map_cons, List.flatten_cons] at this ⊢
    rw [List.drop_append, List.drop_eq_nil_of_le (by simp [pairV]; omega)]
    simp only [pairV, List.length_cons, List.length_nil, List.nil_append] at this ⊢
    rw [show (k + 1) * 2 - (0 + 1 + 1) = k * 2 by omega]
    simpa using this

/-- The first m points, in order. -/
def PtsOk (W H : Nat) (l : List (Nat × Nat)) : Prop := ∀ k (hk : k < l.length), IsPt W H k l[k].1 l[k].2
theorem c49 (h : Heap) (W H : Nat) (s : Value) (hp : 0 < h.length) (w1 : 1 ≤ W) (w8 : W < 9) (h1 : 1 ≤ H) (h8 : H < 9) : ACall Gam 49 [.agg #[I W, I H, s]] h fun r h' => Grows h h' ∧ ∃ l, PtsOk W H l ∧ l.length = rowN W (2 * H) ∧ Buf h h' r 2 (pairsV l) := by
  refine ACall_intro g49 rfl ?_
  unfold fn49
  simp (disch := omega)
  refine awp_loop (fun (y : Nat) σ h' => 1 ≤ y ∧ y ≤ 2 * H ∧ Grows h h' ∧ σ 1 = .agg #[I W, I H, s] ∧ σ 4 = I y ∧ ∃ l, PtsOk W H l ∧ l.length = rowN W y ∧ Buf h h' (σ 3) 2 (pairsV l)) (fun y => 2 * H - y) 1 ?_ ?_
  · exact ⟨by omega, by omega, Grows.refl _, by simp, by simp, [], fun k hk => by simp at hk, by simp [rowN], by simp [pairsV]; exact Buf.nil⟩
  · rintro y σ h' ⟨hy1, hy2, hg, q1, q4, l, hl, hll, hb⟩
    simp (disch := omega) [q1, q4, wrap64]
    refine fork_dec (fun hlt => ?_) (fun hge => ?_)
    · have hy : y < 2 * H := by omega
      have hrs := rowN_succ (W := W) hy1
      have hrb := rowN_le w8 (y := y + 1) (by omega)
      simp (disch := omega) [q1, q4, wrap64, tmod_pos]
      refine awp_loop (fun (j : Nat) σ' h'' => j ≤ W - y % 2 ∧ Grows h h'' ∧ σ' 1 = .agg #[I W, I H, s] ∧ σ' 4 = I y ∧ σ' 5 = I ((1 + y % 2 + 2 * j : Nat) : Int) ∧ ∃ l, PtsOk W H l ∧ l.length = rowN W y + j ∧ Buf h h'' (σ' 3) 2 (pairsV l)) (fun j => W - y % 2 - j) 0 ?_ ?_
      · refine ⟨by omega, hg, by simp [q1], by simp [q4], by simp, l, hl, hll, by simpa using hb⟩
      · rintro j σ' h'' ⟨hj, hg', r1, r4, r5, l, hl, hll, hb⟩
        simp (disch := omega) [r1, r5, wrap64]
        refine fork_dec (fun hlt2 => ?_) (fun hge2 => ?_)
        · have hj2 : j < W - y % 2 := by omega
          obtain ⟨x, hx⟩ : ∃ x, x = 1 + y % 2 + 2 * j := ⟨_, rfl⟩
          rw [← hx] at r5
          simp (disch := omega) [r1, r4, r5]
          refine append_pair (x := x) (y := y) hp (by omega) hg' hb fun v' h3 g3 b3 => ?_
          simp (disch := omega) [r1, r4, r5, wrap64]
          refine ⟨j + 1, ⟨by omega, g3, by omega, l ++ [(x, y)], ?_, by simp [hll]; omega, b3⟩, by omega⟩
          intro k hk
          simp at hk
          by_cases e : k < l.length
          · rw [List.getElem_append_left e]; exact hl k e
          · have : k = l.length := by omega
            subst this
            simp
            refine ⟨hy1, hy, by omega, ?_, by omega⟩
            rw [hrs]; omega
        · have : j = W - y % 2 := by omega
          simp (disch := omega) [r1, r4, wrap64]
          exact ⟨y + 1, ⟨by omega, by omega, hg', by omega, l, hl, by omega, hb⟩, by omega⟩
    · have : y = 2 * H := by omega
      subst this
      have hb' := hb
      rcases hb with ⟨e1, e2⟩ | ⟨b, n, e2, _⟩
      · simp (disch := omega) [e2]
        rw [e2] at hb'
        exact ⟨hg, l, hl, hll, hb'⟩
      · simp (disch := omega) [e2]
        rw [e2] at hb'
        exact ⟨hg, l, hl, hll, hb'⟩
end Am
/-! AmP13 -/
set_option linter.unusedVariables false
set_option linter.unusedSimpArgs false
set_option maxHeartbeats 4000000
set_option maxRecDepth 4000
namespace Am
open Go

open Classical in
/-- The inner point with a number. -/
noncomputable def thePt (W H k : Nat) : Nat × Nat := if e : ∃ p : Nat × Nat, IsPt W H k p.1 p.2 then Classical.choose e else (0, 0)
theorem thePt_eq {W H k x y : Nat} (h : IsPt W H k x y) : thePt W H k = (x, y) := by
  have e : ∃ p : Nat × Nat, IsPt W H k p.1 p.2 := ⟨(x, y), h⟩
  unfold thePt
  rw [dif_pos e]
  have := (Classical.choose_spec e).uniq h
  exact Prod.ext this.1 this.2
/-- The break of a part's point, in the panel. -/
noncomputable def prt (br : List Int) (W w h X Y k : Nat) : Int := at0 br (numP W ((thePt w h k).1 + 2 * X) ((thePt w h k).2 + 2 * Y))
noncomputable def partP (P : Pan) (x y w h : Int) : Pan := (w, h, (List.range (rowN w.toNat (2 * h.toNat))).map fun k => prt P.2.2 P.1.toNat w.toNat h.toNat x.toNat y.toNat k)
noncomputable def partAns (P : Pan) (x y w h : Int) : Pan × Int := if okP P then (if hasPart P x y w h then (partP P x y w h, 0) else ((0, 0, []), 2)) else ((0, 0, []), 1)

theorem inner_row {w h : Nat} (w1 : 1 ≤ w) (w8 : w < 9) (h1 : 1 ≤ h) (h8 : h < 9) : (inner (w : Int) (h : Int)).toNat = rowN w (2 * h) := by
  have := rowN_end w8 h8 w1 h1
  unfold inner
  rw [← this]; simp
theorem at0_rng {br : List Int} (hb : ∀ x ∈ br, 0 ≤ x ∧ x ≤ 2) (i : Nat) : 0 ≤ at0 br i ∧ at0 br i ≤ 2 := by
  unfold at0
  rw [List.getD_eq_getElem?_getD]
  by_cases h : i < br.length
  · rw [List.getElem?_eq_getElem h]
    exact hb _ (List.getElem_mem h)
  · rw [List.getElem?_eq_none (by omega)]; simp
theorem part_siz (P : Pan) (x y w h : Int) : siz shPanel (partAns P x y w h).1 ≤ 16777216 := by
  unfold partAns
  split
  · rename_i hok
    split
    · rename_i hp
      have ok := okP_iff.1 hok
      have hq := hasPart_iff.1 hp
      have w8 := ok.w
      have h8 := ok.h
      show siz shPanel (w, h, _) ≤ _
      rw [siz_panel]
      simp only [List.length_map, List.length_range]
      have := rowN_le (W := w.toNat) (by omega) (y := 2 * h.toNat) (by omega)
      omega
    · rw [siz_panel]; simp
  · rw [siz_panel]; simp

/-- What the part's own block holds at the end. -/
theorem part_done {h : Heap} {bb zz n : Nat} {lo : Nat} {f : Nat → Int} (hz : zz = 1 ∨ bb = 0 ∧ n = 0) (hn : n ≤ 128) (hf : ∀ k, 0 ≤ f k ∧ f k ≤ 2) (hb : n = 0 ∨ h[bb]? = some ⟨ints (fillB f (fun j => decide (j < n)) n), true⟩ ∧ lo ≤ bb) :
    Vo h lo h.length shInts (sl bb 0 n zz) ((List.range n).map f) := by
  have hul : ((List.range n).map f).length = n := by simp
  have hfill : fillB f (fun j => decide (j < n)) n = (List.range n).map f := fillB_all _ _ _ fun j hj => by simp [hj]
  have := Vo.of_ints (h := h) (b := bb) (lo := lo) (hi := h.length) (z := zz) (X := (List.range n).map f) (by
    rcases hz with e | ⟨e, e'⟩
    · exact .inl e
    · exact .inr ⟨e, by rw [e']; rfl⟩) (by rw [hul, maxLen_eq]; omega) (by
    intro x hx
    obtain ⟨j, _, rfl⟩ := List.mem_map.1 hx
    have := hf j
    unfold I64; omega) (by
    rcases hb with e | e
    · exact .inl (by rw [e]; rfl)
    · rw [hfill] at e
      by_cases hk0 : n = 0
      · exact .inl (by rw [hk0]; rfl)
      · exact .inr ⟨e.1, e.2, at_lt e.1⟩)
  rw [hul] at this
  exact this
theorem step_fill {k : Nat} : ∀ j, decide (j < k + 1) = (decide (j < k) || j == k) := by
  intro j
  rw [Bool.eq_iff_iff]
  simp only [decide_eq_true_eq, Bool.or_eq_true, beq_iff_eq]
  omega

end Am
/-! AmP14 -/
set_option linter.unusedVariables false
set_option linter.unusedSimpArgs false
set_option maxHeartbeats 4000000
set_option maxRecDepth 4000
namespace Am
open Go

theorem numP_pt {W H x y : Nat} (hx : 1 ≤ x ∧ x < 2 * W) (hy : 1 ≤ y ∧ y < 2 * H) (hp : (x + y) % 2 = 1) : IsPt W H (numP W x y) x y := by
  have := rowN_succ (W := W) hy.1
  refine ⟨hy.1, hy.2, by unfold numP; omega, ?_, by unfold numP; omega⟩
  rw [this]; unfold numP; omega
theorem IsPt.num {W H k x y : Nat} (a : IsPt W H k x y) : numP W x y = k := by
  have h1 := a.x; have h2 := a.lo; have h3 := a.hi; have h4 := a.y1
  unfold numP; omega
theorem IsPt.ex {W H k : Nat} (w1 : 1 ≤ W) (h1 : 1 ≤ H) (hk : k < rowN W (2 * H)) : ∃ x y, IsPt W H k x y := by
  have key : ∀ m, k < rowN W (m + 1) → ∃ y, 1 ≤ y ∧ y ≤ m ∧ rowN W y ≤ k ∧ k < rowN W (y + 1) := by
    intro m
    induction m with
    | zero => intro h; simp [rowN] at h
    | succ m ih =>
      intro h
      by_cases e : k < rowN W (m + 1)
      · obtain ⟨y, a, b, c, d⟩ := ih e
        exact ⟨y, a, by omega, c, d⟩
      · exact ⟨m + 1, by omega, by omega, by omega, h⟩
  obtain ⟨y, a, b, c, d⟩ := key (2 * H - 1) (by rw [show 2 * H - 1 + 1 = 2 * H by omega]; exact hk)
  exact ⟨_, y, ⟨a, by omega, c, d, rfl⟩⟩

/-- The points of a part that have been put in. -/
noncomputable def inPart (W H w h X Y k : Nat) (j : Nat) : Bool := decide (2 * X < (thePt W H j).1 ∧ (thePt W H j).1 < 2 * X + 2 * w ∧ 2 * Y < (thePt W H j).2 ∧ (thePt W H j).2 < 2 * Y + 2 * h ∧ numP w ((thePt W H j).1 - 2 * X) ((thePt W H j).2 - 2 * Y) < k)
theorem inPart_zero {W H w h X Y j : Nat} : inPart W H w h X Y 0 j = false := by
  unfold inPart; rw [decide_eq_false_iff_not]; omega
theorem inPart_step {W H w h X Y k px py j : Nat} (w1 : 1 ≤ W) (h1 : 1 ≤ H) (hXw : X + w ≤ W) (hYh : Y + h ≤ H) (hpt : IsPt w h k px py) (hj : j < rowN W (2 * H)) :
    inPart W H w h X Y (k + 1) j = (inPart W H w h X Y k j || j == numP W (px + 2 * X) (py + 2 * Y)) := by
  obtain ⟨x, y, hP⟩ := IsPt.ex w1 h1 hj
  have e := thePt_eq hP
  unfold inPart
  rw [e, Bool.eq_iff_iff]
  simp only [decide_eq_true_eq, Bool.or_eq_true, beq_iff_eq]
  obtain ⟨d1, d2, d3⟩ := hpt.bd
  have d4 := hpt.y1
  have d5 := hpt.y2
  obtain ⟨q1, q2, q3⟩ := hP.bd
  constructor
  · rintro ⟨a1, a2, a3, a4, a5⟩
    by_cases e2 : numP w (x - 2 * X) (y - 2 * Y) < k
    · exact .inl ⟨a1, a2, a3, a4, e2⟩
    · right
      have e3 : numP w (x - 2 * X) (y - 2 * Y) = k := by omega
      have hQ := numP_pt (W := w) (H := h) (x := x - 2 * X) (y := y - 2 * Y) (by omega) (by omega) (by omega)
      rw [e3] at hQ
      obtain ⟨u1, u2⟩ := hQ.uniq hpt
      rw [← hP.num]
      congr 1 <;> omega
  · rintro (⟨a1, a2, a3, a4, a5⟩ | a)
    · exact ⟨a1, a2, a3, a4, by omega⟩
    · have hN := numP_pt (W := W) (H := H) (x := px + 2 * X) (y := py + 2 * Y) (by omega) (by omega) (by omega)
      rw [← a] at hN
      obtain ⟨u1, u2⟩ := hP.uniq hN
      have : numP w (x - 2 * X) (y - 2 * Y) = k := by
        rw [← hpt.num]; congr 1 <;> omega
      exact ⟨by omega, by omega, by omega, by omega, by omega⟩

/-- What is put in is what is wanted there. -/
def Fits (f : Nat → Int) (W w h X Y : Nat) (br : List Int) : Prop := ∀ k px py, IsPt w h k px py → k < rowN w (2 * h) → at0 br k = f (numP W (px + 2 * X) (py + 2 * Y))

theorem c46 (hh : Heap) (hp : 0 < hh.length) (W H w h X Y bb zz : Nat) (v : Value) (br : List Int) (f : Nat → Int) (P : Nat → Bool) (hB : Heap) (hv : Vr hB shPanel v (w, h, br)) (GB : Grows hB hh) (hle : hB.length ≤ bb) (hbr : br.length = rowN w (2 * h)) (W1 : 1 ≤ W) (W8 : W < 9) (H1 : 1 ≤ H) (H8 : H < 9) (w1 : 1 ≤ w) (h1 : 1 ≤ h) (hXw : X + w ≤ W) (hYh : Y + h ≤ H)
    (hb : hh[bb]? = some ⟨ints (fillB f P (rowN W (2 * H))), true⟩) (hfit : Fits f W w h X Y br) :
    ACall Gam 46 [.agg #[I W, I H, sl bb 0 (rowN W (2 * H)) zz], I X, I Y, v] hh fun r h' => Mod bb (bb + 1) hh h' ∧ h'[bb]? = some ⟨ints (fillB f (fun j => P j || inPart W H w h X Y (rowN w (2 * h)) j) (rowN W (2 * H))), true⟩ := by
  obtain ⟨N, hN⟩ : ∃ N, N = rowN W (2 * H) := ⟨_, rfl⟩
  rw [← hN] at hb ⊢
  obtain ⟨n, hn⟩ : ∃ n, n = rowN w (2 * h) := ⟨_, rfl⟩
  rw [← hn] at hbr ⊢
  have hN128 : N ≤ 128 := by rw [hN]; exact rowN_le W8 (by omega)
  have hn128 : n ≤ 128 := by rw [hn]; exact rowN_le (by omega) (by omega)
  have hv0 := hv
  obtain ⟨s, rfl, v1, v2, r0⟩ := hv.panel
  obtain ⟨b0, o0, z0, rfl, _, hm0, hx0, hc0⟩ := r0.ints
  have hbl := at_lt hb
  refine ACall_intro g46 rfl ?_
  unfold fn46
  simp (disch := omega)
  refine callW_of (c49 hh w h (sl b0 o0 br.length z0) hp (by omega) (by omega) (by omega) (by omega)) ?_
  rintro v h3 ⟨g3, l, hl, hll, hbuf⟩
  rw [← hn] at hll
  obtain ⟨pb, pz, rfl, hpc⟩ : ∃ pb pz, v = sl pb 0 n pz ∧ (n = 0 ∨ cellsAt h3 pb 0 (n * 2) = some (pairsV l) ∧ hh.length ≤ pb ∧ pb < h3.length) := by
    rcases hbuf with ⟨e1, rfl⟩ | ⟨b, m, rfl, e2, e3, e4⟩
    · have : n = 0 := by
        have := congrArg List.length e1
        rw [pairsV_len] at this; simp at this; omega
      exact ⟨0, 2, by rw [this], .inl this⟩
    · rw [pairsV_len] at e2
      have : m = n := by omega
      subst this
      exact ⟨b, 2, rfl, .inr ⟨cellsAt_all e4 (by rw [pairsV_len]; omega), e3, at_lt e4⟩⟩
  simp (disch := omega)
  refine awp_loop (fun (k : Nat) σ h' => k ≤ n ∧ Mod bb (bb + 1) h3 h' ∧ σ 1 = I X ∧ σ 2 = I Y ∧ σ 4 = .agg #[I W, I H, sl bb 0 N zz] ∧ σ 7 = .agg #[I w, I h, sl b0 o0 br.length z0] ∧ σ 11 = sl pb 0 n pz ∧ σ 12 = I n ∧ σ 13 = I k ∧
    h'[bb]? = some ⟨ints (fillB f (fun j => P j || inPart W H w h X Y k j) N), true⟩) (fun k => n - k) 0 ?_ ?_
  · refine ⟨by omega, Mod.refl _ _ _, by simp, by simp, by simp, by simp, by simp, by simp, by simp, ?_⟩
    rw [g3.at hb]
    congr 3
    exact fillB_same fun j _ => by simp [inPart_zero]
  · rintro k σ h' ⟨hk, hmd, q1, q2, q4, q7, q11, q12, q13, hb⟩
    simp (disch := omega) [q12, q13]
    refine fork_dec (fun hlt => ?_) (fun hge => ?_)
    · have k1 : k < n := by omega
      obtain ⟨hpc, hp1, hp2⟩ := hpc.resolve_left (by omega)
      have hpc' : cellsAt h' pb 0 (n * 2) = some (pairsV l) := by
        unfold cellsAt at hpc ⊢
        rw [hmd.2 pb hp2 (by omega)]; exact hpc
      have hcp := cellsAt_in (i := k * 2) (m := 2) hpc' (by omega)
      rw [pairs_get l k (by omega)] at hcp
      have hpt := hl k (by omega)
      obtain ⟨px, hpx⟩ : ∃ px, px = (l[k]'(by omega)).1 := ⟨_, rfl⟩
      obtain ⟨py, hpy⟩ : ∃ py, py = (l[k]'(by omega)).2 := ⟨_, rfl⟩
      rw [← hpx, ← hpy] at hpt
      have hpv : pairV (l[k]'(by omega)) = [I px, I py] := by rw [hpx, hpy]; rfl
      rw [hpv] at hcp
      obtain ⟨d1, d2, d3⟩ := hpt.bd
      have d4 := hpt.y1
      have d5 := hpt.y2
      obtain ⟨X', hX'⟩ : ∃ X', X' = px + 2 * X := ⟨_, rfl⟩
      obtain ⟨Y', hY'⟩ : ∃ Y', Y' = py + 2 * Y := ⟨_, rfl⟩
      have hnum := numP_lt (W := W) (H := H) (x := X') (y := Y') (by omega) (by omega) (by omega)
      rw [← hN] at hnum
      have hkb : k < br.length := by omega
      have hfk : at0 br k = f (numP W X' Y') := by rw [hX', hY']; exact hfit k px py hpt (by omega)
      have gB' : Grows hB h' := hmd.grows (GB.trans g3) hle
      have hcell := ints_cell (hc0.imp id (grows_cellsAt gB')) hkb
      rw [← at0_of hkb, hfk] at hcell
      simp only [Nat.zero_add] at hcp
      simp (disch := omega) [q1, q2, q4, q7, q11, q13, k1, hcp]
      refine callW_of (c188 h' px py X Y (by omega) (by omega) (by omega) (by omega)) ?_
      rintro _ h' ⟨rfl, rfl⟩
      refine ⟨fun _ => Grows.refl _, ?_⟩
      rw [show (px : Int) + 2 * (X : Int) = ((X' : Nat) : Int) by omega, show (py : Int) + 2 * (Y : Int) = ((Y' : Nat) : Int) by omega]
      refine callW_of (c40 h' W H X' Y' _ (by omega) (by omega) (by omega) (by omega) (by omega)) ?_
      rintro _ h' ⟨rfl, rfl⟩
      refine ⟨fun _ => Grows.refl _, ?_⟩
      have hst := store_fill (P' := fun j => P j || inPart W H w h X Y (k + 1) j) hb hnum rfl (fun j hj => by
        rw [inPart_step W1 H1 hXw hYh hpt (by omega), ← hX', ← hY', Bool.or_assoc])
      simp (disch := omega) [q1, q2, q4, q7, q11, q12, q13, hkb, hnum, hcell, hst, wrap64]
      exact ⟨k + 1, ⟨by omega, hmd.put (by omega) _, by omega, by simp [at_lt hb]⟩, by omega⟩
    · have hkn : k = n := by omega
      subst hkn
      simp (disch := omega)
      exact ⟨(g3.mod).trans hmd, hb⟩

theorem c551 (hh : Heap) (hp : 0 < hh.length) (W H w h X Y bb zz bo : Nat) (v : Value) (br : List Int) (f : Nat → Int) (P : Nat → Bool) (hB : Heap) (hv : PtP hB v (w, h, br)) (GB : Grows hB hh) (hle : hB.length ≤ bb) (hbr : br.length = rowN w (2 * h)) (W1 : 1 ≤ W) (W8 : W < 9) (H1 : 1 ≤ H) (H8 : H < 9) (w1 : 1 ≤ w) (h1 : 1 ≤ h) (hXw : X + w ≤ W) (hYh : Y + h ≤ H)
    (hbo : hh[bo]? = some ⟨[I W, I H, sl bb 0 (rowN W (2 * H)) zz], true⟩) (hne : bo ≠ bb) (hz : zz = 1) (hb : hh[bb]? = some ⟨ints (fillB f P (rowN W (2 * H))), true⟩) (hfit : Fits f W w h X Y br) (hfb : ∀ k, I64 (f k)) :
    ACall Gam 551 [pt bo 0, I X, I Y, v] hh fun r h' => Mod bb (bb + 1) hh h' ∧ h'[bb]? = some ⟨ints (fillB f (fun j => P j || inPart W H w h X Y (rowN w (2 * h)) j) (rowN W (2 * H))), true⟩ := by
  obtain ⟨N, hN⟩ : ∃ N, N = rowN W (2 * H) := ⟨_, rfl⟩
  rw [← hN] at hb hbo ⊢
  obtain ⟨n, hn⟩ : ∃ n, n = rowN w (2 * h) := ⟨_, rfl⟩
  rw [← hn] at hbr ⊢
  have hN128 : N ≤ 128 := by rw [hN]; exact rowN_le W8 (by omega)
  have hn128 : n ≤ 128 := by rw [hn]; exact rowN_le (by omega) (by omega)
  have hv0 := hv
  obtain ⟨b, o, s, rfl, y1, y2, y3, r0, v1, v2⟩ := hv
  obtain ⟨b0, o0, z0, rfl, _, hm0, hx0, hc0⟩ := r0.ints
  refine ACall_intro g551 rfl ?_
  unfold fn551
  simp (disch := omega)
  refine awp_loop (fun (k : Nat) σ h' => k ≤ n ∧ Mod bb (bb + 1) hh h' ∧ σ 0 = pt bo 0 ∧ σ 1 = I X ∧ σ 2 = I Y ∧ σ 3 = pt b o ∧ σ 8 = I k ∧
    h'[bb]? = some ⟨ints (fillB f (fun j => P j || inPart W H w h X Y k j) N), true⟩) (fun k => n - k) 0 ?_ ?_
  · refine ⟨by omega, Mod.refl _ _ _, by simp, by simp, by simp, by simp, by simp, ?_⟩
    rw [hb]
    congr 3
    exact fillB_same fun j _ => by simp [inPart_zero]
  · rintro k σ h' ⟨hk, hmd, q0, q1, q2, q3, q8, hb⟩
    have gB' : Grows hB h' := hmd.grows GB hle
    have c3 := gB'.cell y3
    simp (disch := omega) [q3, q8, c3]
    refine fork_dec (fun hlt => ?_) (fun hge => ?_)
    · have k1 : k < n := by omega
      have hpt0 := hv0.grow gB'
      simp (disch := omega) [q3, q8]
      refine callW_of (c454 h' _ _ w h k hpt0 rfl rfl (by omega) (by omega) (by omega) (by omega) (by omega)) ?_
      rintro _ h' ⟨⟨px, py, hpt, rfl⟩, rfl⟩
      obtain ⟨d1, d2, d3⟩ := hpt.bd
      have d4 := hpt.y1
      have d5 := hpt.y2
      obtain ⟨X', hX'⟩ : ∃ X', X' = px + 2 * X := ⟨_, rfl⟩
      obtain ⟨Y', hY'⟩ : ∃ Y', Y' = py + 2 * Y := ⟨_, rfl⟩
      have hnum := numP_lt (W := W) (H := H) (x := X') (y := Y') (by omega) (by omega) (by omega)
      rw [← hN] at hnum
      have hkb : k < br.length := by omega
      have hfk : at0 br k = f (numP W X' Y') := by rw [hX', hY']; exact hfit k px py hpt (by omega)
      have hcell := ints_cell (hc0.imp id (grows_cellsAt gB')) hkb
      rw [← at0_of hkb, hfk] at hcell
      have hbo' : h'[bo]? = some ⟨[I W, I H, sl bb 0 N zz], true⟩ := by rw [hmd.2 bo (at_lt hbo) (by omega)]; exact hbo
      have hvo : Vr h' shInts (sl bb 0 N zz) (fillB f (fun j => P j || inPart W H w h X Y k j) N) := by
        have := Vr.of_ints (h := h') (b := bb) (o := 0) (z := zz) (X := fillB f (fun j => P j || inPart W H w h X Y k j) N) (.inl hz) (by rw [fillB_len, maxLen_eq]; omega) (by
          intro a ha
          obtain ⟨j, _, rfl⟩ := List.mem_map.1 ha
          have := hfb j
          split
          · exact this
          · unfold I64; omega) (.inr (by rw [cellsAt_of hb (by simp [ints, fillB_len])]; simp [ints, fillB_len, List.take_of_length_le]))
        rw [fillB_len] at this
        exact this
      have hpo : PtP h' (pt bo 0) ((W : Int), (H : Int), fillB f (fun j => P j || inPart W H w h X Y k j) N) := PtP.at hbo' hvo (by unfold I64; omega) (by unfold I64; omega)
      have cl : cell h' bo 2 = some (sl bb 0 N zz) := by simp [cell, hbo']
      have ex : (px : Int) + 2 * (X : Int) = ((X' : Nat) : Int) := by omega
      have ey : (py : Int) + 2 * (Y : Int) = ((Y' : Nat) : Int) := by omega
      simp (disch := omega) [q0, q1, q2, q3, q8, cl, wrap64, ex, ey]
      refine callW_of (c451 h' _ _ W X' Y' hpo rfl (by omega) (by omega) (by omega) (by omega)) ?_
      rintro _ h' ⟨rfl, rfl⟩
      refine ⟨fun _ => Grows.refl _, ?_⟩
      have hst := store_fill (P' := fun j => P j || inPart W H w h X Y (k + 1) j) hb hnum rfl (fun j hj => by
        rw [inPart_step W1 H1 hXw hYh hpt (by omega), ← hX', ← hY', Bool.or_assoc])
      simp (disch := omega) [q0, q1, q2, q3, q8, c3, hkb, hnum, hcell, hst, wrap64]
      exact ⟨k + 1, ⟨by omega, hmd.put (by omega) _, by omega, by simp [at_lt hb]⟩, by omega⟩
    · have hkn : k = n := by omega
      subst hkn
      simp (disch := omega)
      exact ⟨hmd, hb⟩
end Am
/-! AmP16 -/
set_option linter.unusedVariables false
set_option linter.unusedSimpArgs false
set_option maxHeartbeats 4000000
set_option maxRecDepth 4000
namespace Am
open Go

/-- Numbers of which some have been replaced. -/
def fillG (g f : Nat → Int) (P : Nat → Bool) (n : Nat) : List Int := (List.range n).map fun j => if P j then f j else g j
theorem fillG_len (g f : Nat → Int) (P : Nat → Bool) (n : Nat) : (fillG g f P n).length = n := by simp [fillG]
theorem fillG_set {g f : Nat → Int} {P P' : Nat → Bool} {n k : Nat} (h : ∀ j, j < n → P' j = (P j || j == k)) : (fillG g f P n).set k (f k) = fillG g f P' n := by
  apply List.ext_getElem
  · simp [fillG]
  · intro i h1 h2
    simp [fillG] at h1 h2 ⊢
    rw [List.getElem_set]
    simp only [List.getElem_map, List.getElem_range]
    have := h i h2
    by_cases e : k = i
    · subst e; simp [this]
    · have e' : ¬ i = k := fun h => e h.symm
      simp [e, this, e']
theorem fillG_same {g f : Nat → Int} {P P' : Nat → Bool} {n : Nat} (h : ∀ j, j < n → P j = P' j) : fillG g f P n = fillG g f P' n := by
  apply List.map_congr_left
  intro i hi
  rw [h i (List.mem_range.1 hi)]
theorem fillG_none {f : Nat → Int} {P : Nat → Bool} {br : List Int} (h : ∀ j, j < br.length → P j = false) : fillG (at0 br) f P br.length = br := by
  apply List.ext_getElem
  · simp [fillG]
  · intro i h1 h2
    simp [fillG] at h1 ⊢
    simp [h i h1, at0_of h1]
theorem store_fillG {h : Heap} {b k n : Nat} {g f : Nat → Int} {P P' : Nat → Bool} {v : Int} (hb : h[b]? = some ⟨ints (fillG g f P n), true⟩) (hk : k < n) (hv : v = f k) (hp : ∀ j, j < n → P' j = (P j || j == k)) :
    storeAt h b k [I v] = some (h.set b ⟨ints (fillG g f P' n), true⟩) := by
  rw [store_one hb (by simp [ints, fillG_len]; exact hk), ← fillG_set hp, hv]
  simp [ints, List.map_set]

theorem c46g (g : Nat → Int) (hh : Heap) (hp : 0 < hh.length) (W H w h X Y bb zz : Nat) (v : Value) (br : List Int) (f : Nat → Int) (P : Nat → Bool) (hB : Heap) (hv : Vr hB shPanel v (w, h, br)) (GB : Grows hB hh) (hle : rowN W (2 * H) = 0 ∨ hB.length ≤ bb) (hbr : br.length = rowN w (2 * h)) (W1 : 1 ≤ W) (W8 : W < 9) (H1 : 1 ≤ H) (H8 : H < 9) (w1 : 1 ≤ w) (h1 : 1 ≤ h) (hXw : X + w ≤ W) (hYh : Y + h ≤ H)
    (hb : rowN W (2 * H) = 0 ∨ hh[bb]? = some ⟨ints (fillG g f P (rowN W (2 * H))), true⟩) (hfit : Fits f W w h X Y br) :
    ACall Gam 46 [.agg #[I W, I H, sl bb 0 (rowN W (2 * H)) zz], I X, I Y, v] hh fun r h' => Mod bb (bb + 1) hh h' ∧ Grows hB h' ∧ (rowN W (2 * H) = 0 ∨ h'[bb]? = some ⟨ints (fillG g f (fun j => P j || inPart W H w h X Y (rowN w (2 * h)) j) (rowN W (2 * H))), true⟩) := by
  obtain ⟨N, hN⟩ : ∃ N, N = rowN W (2 * H) := ⟨_, rfl⟩
  rw [← hN] at hb hle ⊢
  obtain ⟨n, hn⟩ : ∃ n, n = rowN w (2 * h) := ⟨_, rfl⟩
  rw [← hn] at hbr ⊢
  have hN128 : N ≤ 128 := by rw [hN]; exact rowN_le W8 (by omega)
  have hn128 : n ≤ 128 := by rw [hn]; exact rowN_le (by omega) (by omega)
  have hv0 := hv
  obtain ⟨s, rfl, v1, v2, r0⟩ := hv.panel
  obtain ⟨b0, o0, z0, rfl, _, hm0, hx0, hc0⟩ := r0.ints
  have hbl := hb.imp id at_lt
  refine ACall_intro g46 rfl ?_
  unfold fn46
  simp (disch := omega)
  refine callW_of (c49 hh w h (sl b0 o0 br.length z0) hp (by omega) (by omega) (by omega) (by omega)) ?_
  rintro v h3 ⟨g3, l, hl, hll, hbuf⟩
  rw [← hn] at hll
  obtain ⟨pb, pz, rfl, hpc⟩ : ∃ pb pz, v = sl pb 0 n pz ∧ (n = 0 ∨ cellsAt h3 pb 0 (n * 2) = some (pairsV l) ∧ hh.length ≤ pb ∧ pb < h3.length) := by
    rcases hbuf with ⟨e1, rfl⟩ | ⟨b, m, rfl, e2, e3, e4⟩
    · have : n = 0 := by
        have := congrArg List.length e1
        rw [pairsV_len] at this; simp at this; omega
      exact ⟨0, 2, by rw [this], .inl this⟩
    · rw [pairsV_len] at e2
      have : m = n := by omega
      subst this
      exact ⟨b, 2, rfl, .inr ⟨cellsAt_all e4 (by rw [pairsV_len]; omega), e3, at_lt e4⟩⟩
  simp (disch := omega)
  refine awp_loop (fun (k : Nat) σ h' => k ≤ n ∧ Mod bb (bb + 1) h3 h' ∧ Grows hB h' ∧ σ 1 = I X ∧ σ 2 = I Y ∧ σ 4 = .agg #[I W, I H, sl bb 0 N zz] ∧ σ 7 = .agg #[I w, I h, sl b0 o0 br.length z0] ∧ σ 11 = sl pb 0 n pz ∧ σ 12 = I n ∧ σ 13 = I k ∧
    (N = 0 ∨ h'[bb]? = some ⟨ints (fillG g f (fun j => P j || inPart W H w h X Y k j) N), true⟩)) (fun k => n - k) 0 ?_ ?_
  · refine ⟨by omega, Mod.refl _ _ _, GB.trans g3, by simp, by simp, by simp, by simp, by simp, by simp, by simp, ?_⟩
    refine hb.imp id fun hb => ?_
    rw [g3.at hb]
    congr 3
    exact fillG_same fun j _ => by simp [inPart_zero]
  · rintro k σ h' ⟨hk, hmd, gB', q1, q2, q4, q7, q11, q12, q13, hb⟩
    simp (disch := omega) [q12, q13]
    refine fork_dec (fun hlt => ?_) (fun hge => ?_)
    · have k1 : k < n := by omega
      obtain ⟨hpc, hp1, hp2⟩ := hpc.resolve_left (by omega)
      have hpt := hl k (by omega)
      have hN0 : N ≠ 0 := by
        obtain ⟨d1, d2, d3⟩ := hpt.bd
        have d4 := hpt.y1
        have d5 := hpt.y2
        have := numP_lt (W := W) (H := H) (x := (l[k]'(by omega)).1 + 2 * X) (y := (l[k]'(by omega)).2 + 2 * Y) (by omega) (by omega) (by omega)
        omega
      have hb := hb.resolve_left hN0
      have hbl := hbl.resolve_left hN0
      have hle := hle.resolve_left hN0
      have hpc' : cellsAt h' pb 0 (n * 2) = some (pairsV l) := by
        unfold cellsAt at hpc ⊢
        rw [hmd.2 pb hp2 (by omega)]; exact hpc
      have hcp := cellsAt_in (i := k * 2) (m := 2) hpc' (by omega)
      rw [pairs_get l k (by omega)] at hcp
      obtain ⟨px, hpx⟩ : ∃ px, px = (l[k]'(by omega)).1 := ⟨_, rfl⟩
      obtain ⟨py, hpy⟩ : ∃ py, py = (l[k]'(by omega)).2 := ⟨_, rfl⟩
      rw [← hpx, ← hpy] at hpt
      have hpv : pairV (l[k]'(by omega)) = [I px, I py] := by rw [hpx, hpy]; rfl
      rw [hpv] at hcp
      obtain ⟨d1, d2, d3⟩ := hpt.bd
      have d4 := hpt.y1
      have d5 := hpt.y2
      obtain ⟨X', hX'⟩ : ∃ X', X' = px + 2 * X := ⟨_, rfl⟩
      obtain ⟨Y', hY'⟩ : ∃ Y', Y' = py + 2 * Y := ⟨_, rfl⟩
      have hnum := numP_lt (W := W) (H := H) (x := X') (y := Y') (by omega) (by omega) (by omega)
      rw [← hN] at hnum
      have hkb : k < br.length := by omega
      have hfk : at0 br k = f (numP W X' Y') := by rw [hX', hY']; exact hfit k px py hpt (by omega)
      have hcell := ints_cell (hc0.imp id (grows_cellsAt gB')) hkb
      rw [← at0_of hkb, hfk] at hcell
      simp only [Nat.zero_add] at hcp
      simp (disch := omega) [q1, q2, q4, q7, q11, q13, k1, hcp]
      refine callW_of (c188 h' px py X Y (by omega) (by omega) (by omega) (by omega)) ?_
      rintro _ h' ⟨rfl, rfl⟩
      refine ⟨fun _ => Grows.refl _, ?_⟩
      rw [show (px : Int) + 2 * (X : Int) = ((X' : Nat) : Int) by omega, show (py : Int) + 2 * (Y : Int) = ((Y' : Nat) : Int) by omega]
      refine callW_of (c40 h' W H X' Y' _ (by omega) (by omega) (by omega) (by omega) (by omega)) ?_
      rintro _ h' ⟨rfl, rfl⟩
      refine ⟨fun _ => Grows.refl _, ?_⟩
      have hst := store_fillG (P' := fun j => P j || inPart W H w h X Y (k + 1) j) hb hnum rfl (fun j hj => by
        rw [inPart_step W1 H1 hXw hYh hpt (by omega), ← hX', ← hY', Bool.or_assoc])
      simp (disch := omega) [q1, q2, q4, q7, q11, q12, q13, hkb, hnum, hcell, hst, wrap64]
      exact ⟨k + 1, ⟨by omega, hmd.put (by omega) _, gB'.put (by omega) _, by omega, .inr (by simp [at_lt hb])⟩, by omega⟩
    · have hkn : k = n := by omega
      subst hkn
      simp (disch := omega)
      exact ⟨(g3.mod).trans hmd, gB', hb⟩

theorem c551g (g : Nat → Int) (hgb : ∀ k, I64 (g k)) (hh : Heap) (hp : 0 < hh.length) (W H w h X Y bb zz bo : Nat) (v : Value) (br : List Int) (f : Nat → Int) (P : Nat → Bool) (hB : Heap) (hv : PtP hB v (w, h, br)) (GB : Grows hB hh) (hle : rowN W (2 * H) = 0 ∨ hB.length ≤ bb) (hbr : br.length = rowN w (2 * h)) (W1 : 1 ≤ W) (W8 : W < 9) (H1 : 1 ≤ H) (H8 : H < 9) (w1 : 1 ≤ w) (h1 : 1 ≤ h) (hXw : X + w ≤ W) (hYh : Y + h ≤ H)
    (hbo : hh[bo]? = some ⟨[I W, I H, sl bb 0 (rowN W (2 * H)) zz], true⟩) (hne : rowN W (2 * H) = 0 ∨ bo ≠ bb) (hz : zz = 1 ∨ rowN W (2 * H) = 0) (hb : rowN W (2 * H) = 0 ∨ hh[bb]? = some ⟨ints (fillG g f P (rowN W (2 * H))), true⟩) (hfit : Fits f W w h X Y br) (hfb : ∀ k, I64 (f k)) :
    ACall Gam 551 [pt bo 0, I X, I Y, v] hh fun r h' => Mod bb (bb + 1) hh h' ∧ Grows hB h' ∧ h'[bo]? = some ⟨[I W, I H, sl bb 0 (rowN W (2 * H)) zz], true⟩ ∧ (rowN W (2 * H) = 0 ∨ h'[bb]? = some ⟨ints (fillG g f (fun j => P j || inPart W H w h X Y (rowN w (2 * h)) j) (rowN W (2 * H))), true⟩) := by
  obtain ⟨N, hN⟩ : ∃ N, N = rowN W (2 * H) := ⟨_, rfl⟩
  rw [← hN] at hb hbo hz hle hne ⊢
  obtain ⟨n, hn⟩ : ∃ n, n = rowN w (2 * h) := ⟨_, rfl⟩
  rw [← hn] at hbr ⊢
  have hN128 : N ≤ 128 := by rw [hN]; exact rowN_le W8 (by omega)
  have hn128 : n ≤ 128 := by rw [hn]; exact rowN_le (by omega) (by omega)
  have hv0 := hv
  obtain ⟨b, o, s, rfl, y1, y2, y3, r0, v1, v2⟩ := hv
  obtain ⟨b0, o0, z0, rfl, _, hm0, hx0, hc0⟩ := r0.ints
  refine ACall_intro g551 rfl ?_
  unfold fn551
  simp (disch := omega)
  refine awp_loop (fun (k : Nat) σ h' => k ≤ n ∧ Mod bb (bb + 1) hh h' ∧ Grows hB h' ∧ h'[bo]? = some ⟨[I W, I H, sl bb 0 N zz], true⟩ ∧ σ 0 = pt bo 0 ∧ σ 1 = I X ∧ σ 2 = I Y ∧ σ 3 = pt b o ∧ σ 8 = I k ∧
    (N = 0 ∨ h'[bb]? = some ⟨ints (fillG g f (fun j => P j || inPart W H w h X Y k j) N), true⟩)) (fun k => n - k) 0 ?_ ?_
  · refine ⟨by omega, Mod.refl _ _ _, GB, hbo, by simp, by simp, by simp, by simp, by simp, ?_⟩
    refine hb.imp id fun hb => ?_
    rw [hb]
    congr 3
    exact fillG_same fun j _ => by simp [inPart_zero]
  · rintro k σ h' ⟨hk, hmd, gB', hbo', q0, q1, q2, q3, q8, hb⟩
    have c3 := gB'.cell y3
    simp (disch := omega) [q3, q8, c3]
    refine fork_dec (fun hlt => ?_) (fun hge => ?_)
    · have k1 : k < n := by omega
      have hpt0 := hv0.grow gB'
      simp (disch := omega) [q3, q8]
      refine callW_of (c454 h' _ _ w h k hpt0 rfl rfl (by omega) (by omega) (by omega) (by omega) (by omega)) ?_
      rintro _ h' ⟨⟨px, py, hpt, rfl⟩, rfl⟩
      obtain ⟨d1, d2, d3⟩ := hpt.bd
      have d4 := hpt.y1
      have d5 := hpt.y2
      obtain ⟨X', hX'⟩ : ∃ X', X' = px + 2 * X := ⟨_, rfl⟩
      obtain ⟨Y', hY'⟩ : ∃ Y', Y' = py + 2 * Y := ⟨_, rfl⟩
      have hnum := numP_lt (W := W) (H := H) (x := X') (y := Y') (by omega) (by omega) (by omega)
      rw [← hN] at hnum
      have hb := hb.resolve_left (by omega)
      have hz := hz.resolve_right (by omega)
      have hle := hle.resolve_left (by omega)
      have hne := hne.resolve_left (by omega)
      have hkb : k < br.length := by omega
      have hfk : at0 br k = f (numP W X' Y') := by rw [hX', hY']; exact hfit k px py hpt (by omega)
      have hcell := ints_cell (hc0.imp id (grows_cellsAt gB')) hkb
      rw [← at0_of hkb, hfk] at hcell
      have hvo : Vr h' shInts (sl bb 0 N zz) (fillG g f (fun j => P j || inPart W H w h X Y k j) N) := by
        have := Vr.of_ints (h := h') (b := bb) (o := 0) (z := zz) (X := fillG g f (fun j => P j || inPart W H w h X Y k j) N) (.inl hz) (by rw [fillG_len, maxLen_eq]; omega) (by
          intro a ha
          obtain ⟨j, _, rfl⟩ := List.mem_map.1 ha
          have := hfb j
          split
          · exact this
          · exact hgb j) (.inr (by rw [cellsAt_of hb (by simp [ints, fillG_len])]; simp [ints, fillG_len, List.take_of_length_le]))
        rw [fillG_len] at this
        exact this
      have hpo : PtP h' (pt bo 0) ((W : Int), (H : Int), fillG g f (fun j => P j || inPart W H w h X Y k j) N) := PtP.at hbo' hvo (by unfold I64; omega) (by unfold I64; omega)
      have cl : cell h' bo 2 = some (sl bb 0 N zz) := by simp [cell, hbo']
      have ex : (px : Int) + 2 * (X : Int) = ((X' : Nat) : Int) := by omega
      have ey : (py : Int) + 2 * (Y : Int) = ((Y' : Nat) : Int) := by omega
      simp (disch := omega) [q0, q1, q2, q3, q8, cl, wrap64, ex, ey]
      refine callW_of (c451 h' _ _ W X' Y' hpo rfl (by omega) (by omega) (by omega) (by omega)) ?_
      rintro _ h' ⟨rfl, rfl⟩
      refine ⟨fun _ => Grows.refl _, ?_⟩
      have hst := store_fillG (P' := fun j => P j || inPart W H w h X Y (k + 1) j) hb hnum rfl (fun j hj => by
        rw [inPart_step W1 H1 hXw hYh hpt (by omega), ← hX', ← hY', Bool.or_assoc])
      simp (disch := omega) [q0, q1, q2, q3, q8, c3, hkb, hnum, hcell, hst, wrap64]
      exact ⟨k + 1, ⟨by omega, hmd.put (by omega) _, gB'.put (by omega) _, by first | exact hbo' | (rw [List.getElem?_set_ne (fun e => hne e.symm)]; exact hbo'), by omega, .inr (by simp [at_lt hb])⟩, by omega⟩
    · have hkn : k = n := by omega
      subst hkn
      simp (disch := omega)
      exact ⟨hmd, gB', hbo', hb⟩

/-! ### the law's two sides -/
noncomputable def pasteF (W H w X Y : Nat) (br : List Int) (i : Nat) : Int := at0 br (numP w ((thePt W H i).1 - 2 * X) ((thePt W H i).2 - 2 * Y))
noncomputable def pasteP (P Q : Pan) (x y : Int) : Pan := (P.1, P.2.1, fillG (at0 P.2.2) (pasteF P.1.toNat P.2.1.toNat Q.1.toNat x.toNat y.toNat Q.2.2) (inPart P.1.toNat P.2.1.toNat Q.1.toNat Q.2.1.toNat x.toNat y.toNat (rowN Q.1.toNat (2 * Q.2.1.toNat))) (rowN P.1.toNat (2 * P.2.1.toNat)))
noncomputable def pasteAns (P : Pan) (x y : Int) (Q : Pan) : Pan × Int := if okP P && okP Q then (if hasPart P x y Q.1 Q.2.1 then (pasteP P Q x y, 0) else ((0, 0, []), 2)) else ((0, 0, []), 1)
theorem paste_siz (P : Pan) (x y : Int) (Q : Pan) : siz shPanel (pasteAns P x y Q).1 ≤ 16777216 := by
  unfold pasteAns
  split
  · rename_i hok
    simp only [Bool.and_eq_true] at hok
    have o1 := okP_iff.1 hok.1
    have a1 := o1.w; have a2 := o1.h
    split
    · show siz shPanel (_, _, _) ≤ _
      rw [siz_panel]
      simp only [fillG_len]
      have := rowN_le (W := P.1.toNat) (by omega) (y := 2 * P.2.1.toNat) (by omega)
      omega
    · rw [siz_panel]; simp
  · rw [siz_panel]; simp
theorem paste_fits {W H w h X Y : Nat} {br : List Int} (w1 : 1 ≤ w) (h1 : 1 ≤ h) (hXw : X + w ≤ W) (hYh : Y + h ≤ H) : Fits (pasteF W H w X Y br) W w h X Y br := by
  intro k px py hpt hk
  obtain ⟨d1, d2, d3⟩ := hpt.bd
  have d4 := hpt.y1
  have d5 := hpt.y2
  have hN := numP_pt (W := W) (H := H) (x := px + 2 * X) (y := py + 2 * Y) (by omega) (by omega) (by omega)
  unfold pasteF
  rw [thePt_eq hN]
  simp only
  rw [Nat.add_sub_cancel, Nat.add_sub_cancel, hpt.num]
theorem paste_done {h : Heap} {bb zz n lo : Nat} {g f : Nat → Int} {P : Nat → Bool} (hz : zz = 1 ∨ bb = 0 ∧ n = 0) (hn : n ≤ 128) (hg : ∀ k, I64 (g k)) (hf : ∀ k, I64 (f k)) (hb : n = 0 ∨ h[bb]? = some ⟨ints (fillG g f P n), true⟩) (hlo : n = 0 ∨ lo ≤ bb) :
    Vo h lo h.length shInts (sl bb 0 n zz) (fillG g f P n) := by
  have hul : (fillG g f P n).length = n := fillG_len _ _ _ _
  have := Vo.of_ints (h := h) (b := bb) (lo := lo) (hi := h.length) (z := zz) (X := fillG g f P n) (by
    rcases hz with e | ⟨e, e'⟩
    · exact .inl e
    · exact .inr ⟨e, by rw [e']; rfl⟩) (by rw [hul, maxLen_eq]; omega) (by
    intro x hx
    obtain ⟨j, _, rfl⟩ := List.mem_map.1 hx
    split
    · exact hf j
    · exact hg j) (by
    by_cases hk0 : n = 0
    · exact .inl (by rw [hk0]; rfl)
    · exact .inr ⟨hb.resolve_left hk0, hlo.resolve_left hk0, at_lt (hb.resolve_left hk0)⟩)
  rw [hul] at this
  exact this
theorem rng_64 {x : Int} (h : 0 ≤ x ∧ x ≤ 2) : I64 x := by unfold I64; omega

theorem c114 (hh : Heap) (hp : 0 < hh.length) (v0 : Value) (X0 : Pan) (hv0 : Vr hh shPanel v0 X0) (hs0 : siz shPanel X0 ≤ 1048576) (x : Int) (wx : I64 x) (y : Int) (wy : I64 y) (v1 : Value) (X1 : Pan) (hv1 : Vr hh shPanel v1 X1) (hs1 : siz shPanel X1 ≤ 1048576) :
    ACall Gam 114 [v0, I x, I y, v1] hh fun r h' => Grows hh h' ∧ ∃ r0, r = .tuple #[r0, I (pasteAns X0 x y X1).2] ∧ Vo h' hh.length h'.length shPanel r0 (pasteAns X0 x y X1).1 ∧ siz shPanel (pasteAns X0 x y X1).1 ≤ 16777216 := by
  have hsz := paste_siz X0 x y X1
  obtain ⟨W0, H0, a⟩ := X0
  obtain ⟨W1, H1, b⟩ := X1
  have hv0' := hv0
  have hv1' := hv1
  obtain ⟨s0, rfl, w0, x0, r0⟩ := hv0.panel
  obtain ⟨s1, rfl, w1, x1, r1⟩ := hv1.panel
  refine ACall_intro g114 rfl ?_
  unfold fn114
  simp (disch := omega)
  refine callW_of (c140 _ _ hh hv0') ?_
  rintro _ h1 ⟨rfl, rfl⟩
  cases q0 : okP (W0, H0, a)
  · have e : pasteAns (W0, H0, a) x y (W1, H1, b) = ((0, 0, []), 1) := by simp [pasteAns, q0]
    rw [e] at hsz ⊢
    simp (disch := omega) [resOf, resAll, resOne, aField]
    exact ⟨Grows.refl _, Vo.zero_panel, hsz⟩
  simp (disch := omega)
  refine callW_of (c140 _ _ h1 hv1') ?_
  rintro _ h1 ⟨rfl, rfl⟩
  cases q1 : okP (W1, H1, b)
  · have e : pasteAns (W0, H0, a) x y (W1, H1, b) = ((0, 0, []), 1) := by simp [pasteAns, q1]
    rw [e] at hsz ⊢
    simp (disch := omega) [resOf, resAll, resOne, aField]
    exact ⟨Grows.refl _, Vo.zero_panel, hsz⟩
  have ok0 := okP_iff.1 q0
  have ok1 := okP_iff.1 q1
  simp (disch := omega)
  refine callW_of (c33 h1 _ _ x y W1 H1 hv0' ok0) ?_
  rintro _ h1 ⟨rfl, rfl⟩
  cases qp : hasPart (W0, H0, a) x y W1 H1
  · have e : pasteAns (W0, H0, a) x y (W1, H1, b) = ((0, 0, []), 2) := by simp [pasteAns, q0, q1, qp]
    rw [e] at hsz ⊢
    simp (disch := omega) [resOf, resAll, resOne, aField]
    exact ⟨Grows.refl _, Vo.zero_panel, hsz⟩
  have e : pasteAns (W0, H0, a) x y (W1, H1, b) = (pasteP (W0, H0, a) (W1, H1, b) x y, 0) := by simp [pasteAns, q0, q1, qp]
  rw [e] at hsz ⊢
  have hq := hasPart_iff.1 qp
  obtain ⟨okW, okH, okn, okb⟩ := ok0
  obtain ⟨okW1, okH1, okn1, okb1⟩ := ok1
  simp only at okW okH okn okb okW1 okH1 okn1 okb1 hq
  obtain ⟨W, rfl⟩ := Int.eq_ofNat_of_zero_le (show 0 ≤ W0 by omega)
  obtain ⟨H, rfl⟩ := Int.eq_ofNat_of_zero_le (show 0 ≤ H0 by omega)
  obtain ⟨w, rfl⟩ := Int.eq_ofNat_of_zero_le (show 0 ≤ W1 by omega)
  obtain ⟨h, rfl⟩ := Int.eq_ofNat_of_zero_le (show 0 ≤ H1 by omega)
  obtain ⟨X, rfl⟩ := Int.eq_ofNat_of_zero_le (show 0 ≤ x by omega)
  obtain ⟨Y, rfl⟩ := Int.eq_ofNat_of_zero_le (show 0 ≤ y by omega)
  have hal : a.length = rowN W (2 * H) := by
    have := inner_row (w := W) (h := H) (by omega) (by omega) (by omega) (by omega)
    omega
  have hbl : b.length = rowN w (2 * h) := by
    have := inner_row (w := w) (h := h) (by omega) (by omega) (by omega) (by omega)
    omega
  have hN128 := rowN_le (W := W) (by omega) (y := 2 * H) (by omega)
  obtain ⟨f, hf⟩ : ∃ f, f = pasteF W H w X Y b := ⟨_, rfl⟩
  have hpe : pasteP ((W : Int), (H : Int), a) ((w : Int), (h : Int), b) X Y = ((W : Int), (H : Int), fillG (at0 a) f (inPart W H w h X Y (rowN w (2 * h))) (rowN W (2 * H))) := by
    simp [pasteP, hf]
  rw [hpe] at hsz ⊢
  simp (disch := omega)
  refine callW_of (c150 h1 _ _ hp hv0' (by rw [siz_panel] at hs0; exact hs0)) ?_
  rintro _ h2 ⟨g2, o2⟩
  obtain ⟨so, rfl, v1, v2, o2⟩ := o2.panel
  obtain ⟨bb, zz, rfl, hz, hm, hx, hc⟩ := o2.ints
  have hz1 : zz = 1 ∨ bb = 0 ∧ rowN W (2 * H) = 0 := hz.imp id fun e => ⟨e.1, by rw [← hal, e.2]; rfl⟩
  have hc1 : rowN W (2 * H) = 0 ∨ h2[bb]? = some ⟨ints (fillG (at0 a) f (fun _ => false) (rowN W (2 * H))), true⟩ := by
    rw [← hal, fillG_none fun _ _ => rfl]
    exact hc.imp (fun e => by rw [e]; rfl) fun e => e.1
  have hlo : rowN W (2 * H) = 0 ∨ h1.length ≤ bb := by
    rw [← hal]
    exact hc.imp (fun e => by rw [e]; rfl) fun e => e.2.1
  rw [hal]
  simp (disch := omega)
  refine callW_of (c46g (at0 a) h2 (pos_of hp g2) W H w h X Y bb zz _ b f (fun _ => false) h1 hv1' g2 hlo hbl (by omega) (by omega) (by omega) (by omega) (by omega) (by omega) (by omega) (by omega) hc1 (by rw [hf]; exact paste_fits (by omega) (by omega) (by omega) (by omega))) ?_
  rintro _ h3 ⟨md3, G3, hb3⟩
  have ho := paste_done (h := h3) (lo := h1.length) hz1 hN128 (fun k => rng_64 (at0_rng okb k)) (fun k => rng_64 (by rw [hf]; exact at0_rng okb1 _)) hb3 hlo
  simp (disch := omega) [resOf, resAll, resOne, aField]
  simp only [Bool.false_or] at ho
  exact ⟨G3, Vo.of_panel v1 v2 ho, hsz⟩
theorem c406 (hh : Heap) (hp : 0 < hh.length) (v0 : Value) (X0 : Pan) (hv0 : Vr hh shPanel v0 X0) (hs0 : siz shPanel X0 ≤ 1048576) (x : Int) (wx : I64 x) (y : Int) (wy : I64 y) (v1 : Value) (X1 : Pan) (hv1 : Vr hh shPanel v1 X1) (hs1 : siz shPanel X1 ≤ 1048576) :
    ACall Gam 406 [v0, I x, I y, v1] hh fun r h' => Grows hh h' ∧ ∃ r0, r = .tuple #[r0, I (pasteAns X0 x y X1).2] ∧ Vo h' hh.length h'.length shPanel r0 (pasteAns X0 x y X1).1 ∧ siz shPanel (pasteAns X0 x y X1).1 ≤ 16777216 := by
  have hsz := paste_siz X0 x y X1
  obtain ⟨W0, H0, a⟩ := X0
  obtain ⟨W1, H1, b⟩ := X1
  obtain ⟨s0, rfl, w0, x0, r0⟩ := hv0.panel
  obtain ⟨s1, rfl, w1, x1, r1⟩ := hv1.panel
  refine ACall_intro g406 rfl ?_
  unfold fn406
  simp (disch := omega)
  obtain ⟨ha, eha⟩ : ∃ ha, ha = hh ++ [⟨[I W0, I H0, s0], true⟩] ++ [⟨[I W1, I H1, s1], true⟩] := ⟨_, rfl⟩
  have ga : Grows hh ha := ⟨[⟨[I W0, I H0, s0], true⟩, ⟨[I W1, I H1, s1], true⟩], by rw [eha]; simp⟩
  have ka : ha[hh.length]? = some ⟨[I W0, I H0, s0], true⟩ := by rw [eha]; simp
  have kb : ha[hh.length + 1]? = some ⟨[I W1, I H1, s1], true⟩ := by rw [eha]; simp
  have la : ha.length = hh.length + 2 := by rw [eha]; simp
  simp only [List.append_assoc, List.cons_append, List.nil_append] at eha
  try rw [← eha]
  have hpt0 : PtP ha (pt hh.length 0) (W0, H0, a) := PtP.at ka (r0.grow ga) w0 x0
  have hpt1 : PtP ha (pt (hh.length + 1) 0) (W1, H1, b) := PtP.at kb (r1.grow ga) w1 x1
  have cb0 : cell ha (hh.length + 1) 0 = some (I W1) := by simp [cell, kb]
  have cb1 : cell ha (hh.length + 1) 1 = some (I H1) := by simp [cell, kb]
  refine callW_of (c452 _ _ _ hpt0) ?_
  rintro _ h1 ⟨rfl, rfl⟩
  cases q0 : okP (W0, H0, a)
  · have e : pasteAns (W0, H0, a) x y (W1, H1, b) = ((0, 0, []), 1) := by simp [pasteAns, q0]
    rw [e] at hsz ⊢
    simp (disch := omega) [resOf, resAll, resOne, aField]
    exact ⟨ga, Vo.zero_panel, hsz⟩
  simp (disch := omega)
  refine callW_of (c452 _ _ _ hpt1) ?_
  rintro _ h1 ⟨rfl, rfl⟩
  cases q1 : okP (W1, H1, b)
  · have e : pasteAns (W0, H0, a) x y (W1, H1, b) = ((0, 0, []), 1) := by simp [pasteAns, q1]
    rw [e] at hsz ⊢
    simp (disch := omega) [resOf, resAll, resOne, aField]
    exact ⟨ga, Vo.zero_panel, hsz⟩
  have ok0 := okP_iff.1 q0
  have ok1 := okP_iff.1 q1
  simp (disch := omega) [cb0, cb1]
  refine callW_of (c549 h1 _ _ x y W1 H1 hpt0 ok0) ?_
  rintro _ h1 ⟨rfl, rfl⟩
  cases qp : hasPart (W0, H0, a) x y W1 H1
  · have e : pasteAns (W0, H0, a) x y (W1, H1, b) = ((0, 0, []), 2) := by simp [pasteAns, q0, q1, qp]
    rw [e] at hsz ⊢
    simp (disch := omega) [resOf, resAll, resOne, aField]
    exact ⟨ga, Vo.zero_panel, hsz⟩
  have e : pasteAns (W0, H0, a) x y (W1, H1, b) = (pasteP (W0, H0, a) (W1, H1, b) x y, 0) := by simp [pasteAns, q0, q1, qp]
  rw [e] at hsz ⊢
  have hq := hasPart_iff.1 qp
  obtain ⟨okW, okH, okn, okb⟩ := ok0
  obtain ⟨okW1, okH1, okn1, okb1⟩ := ok1
  simp only at okW okH okn okb okW1 okH1 okn1 okb1 hq
  obtain ⟨W, rfl⟩ := Int.eq_ofNat_of_zero_le (show 0 ≤ W0 by omega)
  obtain ⟨H, rfl⟩ := Int.eq_ofNat_of_zero_le (show 0 ≤ H0 by omega)
  obtain ⟨w, rfl⟩ := Int.eq_ofNat_of_zero_le (show 0 ≤ W1 by omega)
  obtain ⟨h, rfl⟩ := Int.eq_ofNat_of_zero_le (show 0 ≤ H1 by omega)
  obtain ⟨X, rfl⟩ := Int.eq_ofNat_of_zero_le (show 0 ≤ x by omega)
  obtain ⟨Y, rfl⟩ := Int.eq_ofNat_of_zero_le (show 0 ≤ y by omega)
  have hal : a.length = rowN W (2 * H) := by
    have := inner_row (w := W) (h := H) (by omega) (by omega) (by omega) (by omega)
    omega
  have hbl : b.length = rowN w (2 * h) := by
    have := inner_row (w := w) (h := h) (by omega) (by omega) (by omega) (by omega)
    omega
  have hN128 := rowN_le (W := W) (by omega) (y := 2 * H) (by omega)
  obtain ⟨f, hf⟩ : ∃ f, f = pasteF W H w X Y b := ⟨_, rfl⟩
  have hpe : pasteP ((W : Int), (H : Int), a) ((w : Int), (h : Int), b) X Y = ((W : Int), (H : Int), fillG (at0 a) f (inPart W H w h X Y (rowN w (2 * h))) (rowN W (2 * H))) := by
    simp [pasteP, hf]
  rw [hpe] at hsz ⊢
  simp (disch := omega)
  refine callW_of (c453 h1 _ _ (pos_of hp ga) hpt0 (by rw [siz_panel] at hs0; exact hs0)) ?_
  rintro _ h2 ⟨g2, o2⟩
  obtain ⟨so, rfl, v1, v2, o2⟩ := o2.panel
  obtain ⟨bb, zz, rfl, hz, hm, hx, hc⟩ := o2.ints
  have hz1 : zz = 1 ∨ bb = 0 ∧ rowN W (2 * H) = 0 := hz.imp id fun e => ⟨e.1, by rw [← hal, e.2]; rfl⟩
  rw [hal]
  have hsb : storeAt (h2 ++ [⟨[I 0, I 0, sl 0 0 0 0], true⟩]) h2.length 0 [I W, I H, sl bb 0 (rowN W (2 * H)) zz] = some (h2 ++ [⟨[I W, I H, sl bb 0 (rowN W (2 * H)) zz], true⟩]) := store_box rfl
  simp (disch := omega) [hsb]
  obtain ⟨h3, e3⟩ : ∃ h3, h3 = h2 ++ [⟨[I W, I H, sl bb 0 (rowN W (2 * H)) zz], true⟩] := ⟨_, rfl⟩
  rw [← e3]
  have g3 : Grows h2 h3 := ⟨_, e3⟩
  have l3 : h3.length = h2.length + 1 := by rw [e3]; simp
  have k3 : h3[h2.length]? = some ⟨[I W, I H, sl bb 0 (rowN W (2 * H)) zz], true⟩ := by rw [e3]; simp
  have hf64 : ∀ k, I64 (f k) := fun k => rng_64 (by rw [hf]; exact at0_rng okb1 _)
  have hc1 : rowN W (2 * H) = 0 ∨ h3[bb]? = some ⟨ints (fillG (at0 a) f (fun _ => false) (rowN W (2 * H))), true⟩ := by
    rw [← hal, fillG_none fun _ _ => rfl]
    exact hc.imp (fun e => by rw [e]; rfl) fun e => g3.at e.1
  have hlo : rowN W (2 * H) = 0 ∨ h1.length ≤ bb := by
    rw [← hal]
    exact hc.imp (fun e => by rw [e]; rfl) fun e => e.2.1
  have hne : rowN W (2 * H) = 0 ∨ h2.length ≠ bb := by
    rw [← hal]
    exact hc.imp (fun e => by rw [e]; rfl) fun e => by omega
  have G3 := g2.trans g3
  refine callW_of (c551g (at0 a) (fun k => rng_64 (at0_rng okb k)) h3 (pos_of hp (ga.trans G3)) W H w h X Y bb zz h2.length _ b f (fun _ => false) h1 hpt1 G3 hlo hbl (by omega) (by omega) (by omega) (by omega) (by omega) (by omega) (by omega) (by omega) k3 hne (hz1.imp id fun e => e.2) hc1 (by rw [hf]; exact paste_fits (by omega) (by omega) (by omega) (by omega)) hf64) ?_
  rintro _ h4 ⟨md4, G4, k4, hb4⟩
  have ho := paste_done (h := h4) (lo := hh.length) hz1 hN128 (fun k => rng_64 (at0_rng okb k)) hf64 hb4 (hlo.imp id fun e => by omega)
  have cw : cellsAt h4 h2.length 0 3 = some [I W, I H, sl bb 0 (rowN W (2 * H)) zz] := by rw [cellsAt_of k4 (by simp)]; simp
  simp (disch := omega) [cw, resOf, resAll, resOne, aField]
  simp only [Bool.false_or] at ho
  exact ⟨ga.trans G4, Vo.of_panel v1 v2 ho, hsz⟩
end Am

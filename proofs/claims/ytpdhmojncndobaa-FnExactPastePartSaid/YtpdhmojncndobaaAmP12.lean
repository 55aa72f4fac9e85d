/- Contracts: parts of panels. -/
import Derived.Test.YtpdhmojncndobaaAmP11
import Derived.Test.YtpdhmojncndobaaAmP10
set_option linter.unusedVariables false
set_option linter.unusedSimpArgs false
set_option maxHeartbeats 4000000
set_option maxRecDepth 4000
namespace Am
open Go

theorem c188 (h : Heap) (x y X Y : Int) (hx : 0 ≤ x ∧ x ≤ 100) (hy : 0 ≤ y ∧ y ≤ 100) (hX : 0 ≤ X ∧ X ≤ 100) (hY : 0 ≤ Y ∧ Y ≤ 100) : ACall Gam 188 [.agg #[I x, I y], I X, I Y] h fun r h' => r = .agg #[I (x + 2 * X), I (y + 2 * Y)] ∧ h' = h := by
  refine ACall_intro g188 rfl ?_
  unfold fn188
  simp (disch := omega) [wrap64, resOf_box, aField]

/-! ### where a part lies -/
def hasPart (P : Pan) (x y w h : Int) : Bool := inR w 1 P.1 && (inR h 1 P.2.1 && (inR x 0 (P.1 - w) && inR y 0 (P.2.1 - h)))
theorem hasPart_iff {P : Pan} {x y w h : Int} : hasPart P x y w h = true ↔ (1 ≤ w ∧ w ≤ P.1) ∧ (1 ≤ h ∧ h ≤ P.2.1) ∧ (0 ≤ x ∧ x ≤ P.1 - w) ∧ 0 ≤ y ∧ y ≤ P.2.1 - h := by
  simp [hasPart, inR_iff]
theorem c549 (hh : Heap) (v : Value) (P : Pan) (x y w h : Int) (hv : PtP hh v P) (ok : OkP P) : ACall Gam 549 [v, I x, I y, I w, I h] hh fun r h' => r = B (hasPart P x y w h) ∧ h' = hh := by
  obtain ⟨W, H, br⟩ := P
  obtain ⟨b, o, s, rfl, h1, h2, _⟩ := hv
  obtain ⟨qW, qH, _, _⟩ := ok
  simp only at h1 h2 qW qH
  refine ACall_intro g549 rfl ?_
  unfold fn549
  simp (disch := omega) [h1, h2]
  refine callW_of (c432 w 1 W hh) ?_
  rintro _ h' ⟨rfl, rfl⟩
  cases q1 : inR w 1 W
  · simp [hasPart, q1]
  simp (disch := omega) [h1, h2]
  refine callW_of (c432 h 1 H h') ?_
  rintro _ h' ⟨rfl, rfl⟩
  cases q2 : inR h 1 H
  · simp [hasPart, q1, q2]
  have i1 := inR_iff.1 q1
  have i2 := inR_iff.1 q2
  simp (disch := omega) [h1, h2, wrap64]
  refine callW_of (c432 x 0 (W - w) h') ?_
  rintro _ h' ⟨rfl, rfl⟩
  cases q3 : inR x 0 (W - w)
  · simp [hasPart, q1, q2, q3]
  simp (disch := omega) [h1, h2, wrap64]
  refine callW_of (c432 y 0 (H - h) h') ?_
  rintro _ h' ⟨rfl, rfl⟩
  simp [hasPart, q1, q2, q3]
theorem c33 (hh : Heap) (v : Value) (P : Pan) (x y w h : Int) (hv : Vr hh shPanel v P) (ok : OkP P) : ACall Gam 33 [v, I x, I y, I w, I h] hh fun r h' => r = B (hasPart P x y w h) ∧ h' = hh := by
  obtain ⟨W, H, br⟩ := P
  obtain ⟨s, rfl, _⟩ := hv.panel
  obtain ⟨qW, qH, _, _⟩ := ok
  simp only at qW qH
  refine ACall_intro g33 rfl ?_
  unfold fn33
  simp (disch := omega)
  refine callW_of (c164 w 1 W hh) ?_
  rintro _ h' ⟨rfl, rfl⟩
  cases q1 : inR w 1 W
  · simp [hasPart, q1]
  simp (disch := omega)
  refine callW_of (c164 h 1 H h') ?_
  rintro _ h' ⟨rfl, rfl⟩
  cases q2 : inR h 1 H
  · simp [hasPart, q1, q2]
  have i1 := inR_iff.1 q1
  have i2 := inR_iff.1 q2
  simp (disch := omega) [wrap64]
  refine callW_of (c164 x 0 (W - w) h') ?_
  rintro _ h' ⟨rfl, rfl⟩
  cases q3 : inR x 0 (W - w)
  · simp [hasPart, q1, q2, q3]
  simp (disch := omega) [wrap64]
  refine callW_of (c164 y 0 (H - h) h') ?_
  rintro _ h' ⟨rfl, rfl⟩
  simp [hasPart, q1, q2, q3]

/-! ### all points, in order -/
def pairV (p : Nat × Nat) : List Value := [I p.1, I p.2]
def pairsV (l : List (Nat × Nat)) : List Value := (l.map pairV).flatten
theorem pairsV_append (a b : List (Nat × Nat)) : pairsV (a ++ b) = pairsV a ++ pairsV b := by simp [pairsV]
theorem pairsV_len : ∀ l : List (Nat × Nat), (pairsV l).length = 2 * l.length
  | [] => rfl
  | a :: l => by
    have := pairsV_len l
    simp only [pairsV, List.map_cons, List.flatten_cons, List.length_append, List.length_cons] at this ⊢
    simp only [pairV, List.length_cons, List.length_nil] at this ⊢
    omega
theorem append_pair {h h' : Heap} {v : Value} {l : List (Nat × Nat)} {x y : Nat} {K : Value → Heap → Prop} (hp : 0 < h.length) (hl : l.length ≤ 1048576) (hg : Grows h h') (hv : Buf h h' v 2 (pairsV l))
    (hK : ∀ v' h'', Grows h h'' → Buf h h'' v' 2 (pairsV (l ++ [(x, y)])) → K v' h'') :
    bindW (aBuildSlice 2 1 h' [(0, .agg #[I 0, I 0]), (2, .agg #[I x, I y])]) fun y h'' => bindW (aAppend 2 h'' y v) K := by
  have e : aBuildSlice 2 1 h' [(0, .agg #[I 0, I 0]), (2, .agg #[I x, I y])] = some (sl h'.length 0 1 2, h' ++ [⟨[I x, I y], true⟩]) := by simp [aBuildSlice]
  rw [e]
  simp only [bindW_some]
  refine append_buf hp (hg.push _) (hv.grow ⟨_, rfl⟩) (new := [I x, I y]) ?_ (by omega) (by simp) (by simp) (by rw [pairsV_len]; simp [maxSize]; omega) ?_
  · simp [newCells]
    rw [cellsAt_of (k := ⟨[I x, I y], true⟩) (by simp) (by simp)]
    simp
  · intro v' h'' g1 b1 k1
    refine hK v' h'' g1 (by rw [pairsV_append]; exact b1)
theorem pairs_get : ∀ (l : List (Nat × Nat)) (k : Nat) (hk : k < l.length), ((pairsV l).drop (k * 2)).take 2 = pairV l[k]
  | a :: l, 0, _ => by simp [pairsV, pairV]
  | a :: l, k + 1, hk => by
    have := pairs_get l k (by simpa using hk)
    simp only [pairsV, List.map_cons, List.flatten_cons] at this ⊢
    rw [List.drop_append, List.drop_eq_nil_of_le (by simp [pairV]; omega)]
    simp only [pairV, List.length_cons, List.length_nil, List.nil_append] at this ⊢
    rw [show (k + 1) * 2 - (0 + 1 + 1) = k * 2 by omega]
    simpa using this

/-- The first m points, in order. -/
def PtsOk (W H : Nat) (l : List (Nat × Nat)) : Prop := ∀ k (hk : k < l.length), IsPt W H k l[k].1 l[k].2
theorem c49 (h : Heap) (W H : Nat) (s : Value) (hp : 0 < h.length) (w1 : 1 ≤ W) (w8 : W < 9) (h1 : 1 ≤ H) (h8 : H < 9) : ACall Gam 49 [.agg #[I W, I H, s]] h fun r h' => Grows h h' ∧ ∃ l, PtsOk W H l ∧ l.length = rowN W (2 * H) ∧ Buf h h' r 2 (pairsV l) := by
  refine ACall_intro g49 rfl ?_
  unfold fn49
  simp (disch := omega)
  refine awp_loop (fun (y : Nat) σ h' => 1 ≤ y ∧ y ≤ 2 * H ∧ Grows h h' ∧ σ 1 = .agg #[I W, I H, s] ∧ σ 4 = I y ∧ ∃ l, PtsOk W H l ∧ l.length = rowN W y ∧ Buf h h' (σ 3) 2 (pairsV l)) (fun y => 2 * H - y) 1 ?_ ?_
  · exact ⟨by omega, by omega, Grows.refl _, by simp, by simp, [], fun k hk => by simp at hk, by simp [rowN], by simp [pairsV]; exact Buf.nil⟩
  · rintro y σ h' ⟨hy1, hy2, hg, q1, q4, l, hl, hll, hb⟩
    simp (disch := omega) [q1, q4, wrap64]
    refine fork_dec (fun hlt => ?_) (fun hge => ?_)
    · have hy : y < 2 * H := by omega
      have hrs := rowN_succ (W := W) hy1
      have hrb := rowN_le w8 (y := y + 1) (by omega)
      simp (disch := omega) [q1, q4, wrap64, tmod_pos]
      refine awp_loop (fun (j : Nat) σ' h'' => j ≤ W - y % 2 ∧ Grows h h'' ∧ σ' 1 = .agg #[I W, I H, s] ∧ σ' 4 = I y ∧ σ' 5 = I ((1 + y % 2 + 2 * j : Nat) : Int) ∧ ∃ l, PtsOk W H l ∧ l.length = rowN W y + j ∧ Buf h h'' (σ' 3) 2 (pairsV l)) (fun j => W - y % 2 - j) 0 ?_ ?_
      · refine ⟨by omega, hg, by simp [q1], by simp [q4], by simp, l, hl, hll, by simpa using hb⟩
      · rintro j σ' h'' ⟨hj, hg', r1, r4, r5, l, hl, hll, hb⟩
        simp (disch := omega) [r1, r5, wrap64]
        refine fork_dec (fun hlt2 => ?_) (fun hge2 => ?_)
        · have hj2 : j < W - y % 2 := by omega
          obtain ⟨x, hx⟩ : ∃ x, x = 1 + y % 2 + 2 * j := ⟨_, rfl⟩
          rw [← hx] at r5
          simp (disch := omega) [r1, r4, r5]
          refine append_pair (x := x) (y := y) hp (by omega) hg' hb fun v' h3 g3 b3 => ?_
          simp (disch := omega) [r1, r4, r5, wrap64]
          refine ⟨j + 1, ⟨by omega, g3, by omega, l ++ [(x, y)], ?_, by simp [hll]; omega, b3⟩, by omega⟩
          intro k hk
          simp at hk
          by_cases e : k < l.length
          · rw [List.getElem_append_left e]; exact hl k e
          · have : k = l.length := by omega
            subst this
            simp
            refine ⟨hy1, hy, by omega, ?_, by omega⟩
            rw [hrs]; omega
        · have : j = W - y % 2 := by omega
          simp (disch := omega) [r1, r4, wrap64]
          exact ⟨y + 1, ⟨by omega, by omega, hg', by omega, l, hl, by omega, hb⟩, by omega⟩
    · have : y = 2 * H := by omega
      subst this
      have hb' := hb
      rcases hb with ⟨e1, e2⟩ | ⟨b, n, e2, _⟩
      · simp (disch := omega) [e2]
        rw [e2] at hb'
        exact ⟨hg, l, hl, hll, hb'⟩
      · simp (disch := omega) [e2]
        rw [e2] at hb'
        exact ⟨hg, l, hl, hll, hb'⟩
end Am

/- Contracts: JoinBeside. -/
import Derived.Test.YtljclhpcpjkihaaAmP14
set_option linter.unusedVariables false
set_option linter.unusedSimpArgs false
set_option linter.unusedSectionVars false
set_option maxHeartbeats 4000000
set_option maxRecDepth 4000
namespace Am
open Go

noncomputable def joinF (aW bW H : Nat) (a b : List Int) (i : Nat) : Int :=
  if (thePt (aW + bW) H i).1 = 2 * aW then 1 else if (thePt (aW + bW) H i).1 < 2 * aW then at0 a (numP aW (thePt (aW + bW) H i).1 (thePt (aW + bW) H i).2) else at0 b (numP bW ((thePt (aW + bW) H i).1 - 2 * aW) (thePt (aW + bW) H i).2)
noncomputable def joinP (X Y : Pan) : Pan := (X.1 + Y.1, X.2.1, (List.range (rowN (X.1.toNat + Y.1.toNat) (2 * X.2.1.toNat))).map (joinF X.1.toNat Y.1.toNat X.2.1.toNat X.2.2 Y.2.2))
noncomputable def joinAns (X Y : Pan) : Pan × Int := if okP X && okP Y then (if X.2.1 = Y.2.1 then (if X.1 + Y.1 ≤ 8 then (joinP X Y, 0) else ((0, 0, []), 5)) else ((0, 0, []), 6)) else ((0, 0, []), 1)
theorem join_siz (X Y : Pan) : siz shPanel (joinAns X Y).1 ≤ 16777216 := by
  unfold joinAns
  split
  · rename_i hok
    simp only [Bool.and_eq_true] at hok
    have o1 := okP_iff.1 hok.1
    have o2 := okP_iff.1 hok.2
    have a1 := o1.w; have a2 := o1.h; have a3 := o2.w
    split
    · split
      · rename_i hle
        show siz shPanel (_, _, _) ≤ _
        rw [siz_panel]
        simp only [List.length_map, List.length_range]
        have := rowN_le (W := X.1.toNat + Y.1.toNat) (by omega) (y := 2 * X.2.1.toNat) (by omega)
        omega
      · rw [siz_panel]; simp
    · rw [siz_panel]; simp
  · rw [siz_panel]; simp

/-- The uprights that have been put in. -/
noncomputable def upP (W H c m : Nat) (j : Nat) : Bool := decide ((thePt W H j).1 = 2 * c ∧ (thePt W H j).2 < 2 * m + 1)
theorem upP_zero {W H c j : Nat} (w1 : 1 ≤ W) (h1 : 1 ≤ H) (hj : j < rowN W (2 * H)) : upP W H c 0 j = false := by
  obtain ⟨x, y, hP⟩ := IsPt.ex w1 h1 hj
  unfold upP
  rw [thePt_eq hP, decide_eq_false_iff_not]
  have := hP.y1
  simp only; omega
theorem upP_step {W H c m j : Nat} (w1 : 1 ≤ W) (h1 : 1 ≤ H) (hc : 1 ≤ c ∧ c < W) (hm : 2 * m + 1 < 2 * H) (hj : j < rowN W (2 * H)) : upP W H c (m + 1) j = (upP W H c m j || j == numP W (2 * c) (2 * m + 1)) := by
  obtain ⟨x, y, hP⟩ := IsPt.ex w1 h1 hj
  unfold upP
  rw [thePt_eq hP, Bool.eq_iff_iff]
  simp only [decide_eq_true_eq, Bool.or_eq_true, beq_iff_eq]
  obtain ⟨q1, q2, q3⟩ := hP.bd
  constructor
  · rintro ⟨a1, a2⟩
    by_cases e : y < 2 * m + 1
    · exact .inl ⟨a1, e⟩
    · right
      rw [← hP.num]
      congr 1; omega
  · rintro (⟨a1, a2⟩ | a)
    · exact ⟨a1, by omega⟩
    · have hN := numP_pt (W := W) (H := H) (x := 2 * c) (y := 2 * m + 1) (by omega) (by omega) (by omega)
      rw [← a] at hN
      obtain ⟨u1, u2⟩ := hP.uniq hN
      omega
section
variable {aW bW H : Nat} {a b : List Int} (w1 : 1 ≤ aW) (w2 : 1 ≤ bW) (h1 : 1 ≤ H)
include w1 w2 h1
theorem join_up {m : Nat} (hm : 2 * m + 1 < 2 * H) : joinF aW bW H a b (numP (aW + bW) (2 * aW) (2 * m + 1)) = 1 := by
  have hN := numP_pt (W := aW + bW) (H := H) (x := 2 * aW) (y := 2 * m + 1) (by omega) (by omega) (by omega)
  unfold joinF
  rw [thePt_eq hN, if_pos rfl]
theorem join_a : Fits (joinF aW bW H a b) (aW + bW) aW H 0 0 a := by
  intro k px py hpt hk
  obtain ⟨d1, d2, d3⟩ := hpt.bd
  have d4 := hpt.y1
  have d5 := hpt.y2
  have hN := numP_pt (W := aW + bW) (H := H) (x := px + 2 * 0) (y := py + 2 * 0) (by omega) (by omega) (by omega)
  unfold joinF
  rw [thePt_eq hN]
  simp only [Nat.mul_zero, Nat.add_zero]
  rw [if_neg (by omega), if_pos (by omega), hpt.num]
theorem join_b : Fits (joinF aW bW H a b) (aW + bW) bW H aW 0 b := by
  intro k px py hpt hk
  obtain ⟨d1, d2, d3⟩ := hpt.bd
  have d4 := hpt.y1
  have d5 := hpt.y2
  have hN := numP_pt (W := aW + bW) (H := H) (x := px + 2 * aW) (y := py + 2 * 0) (by omega) (by omega) (by omega)
  unfold joinF
  rw [thePt_eq hN]
  simp only [Nat.mul_zero, Nat.add_zero]
  rw [if_neg (by omega), if_neg (by omega), Nat.add_sub_cancel, hpt.num]
theorem join_cover {j : Nat} (hj : j < rowN (aW + bW) (2 * H)) : (upP (aW + bW) H aW H j || (inPart (aW + bW) H aW H 0 0 (rowN aW (2 * H)) j || inPart (aW + bW) H bW H aW 0 (rowN bW (2 * H)) j)) = true := by
  obtain ⟨x, y, hP⟩ := IsPt.ex (W := aW + bW) (by omega) h1 hj
  obtain ⟨q1, q2, q3⟩ := hP.bd
  have q4 := hP.y1
  have q5 := hP.y2
  unfold upP inPart
  rw [thePt_eq hP]
  simp only [Bool.or_eq_true, decide_eq_true_eq]
  by_cases e1 : x = 2 * aW
  · exact .inl ⟨e1, by omega⟩
  · right
    by_cases e2 : x < 2 * aW
    · left
      have := numP_lt (W := aW) (H := H) (x := x) (y := y) (by omega) (by omega) (by omega)
      exact ⟨by omega, by omega, by omega, by omega, by simpa using this⟩
    · right
      have := numP_lt (W := bW) (H := H) (x := x - 2 * aW) (y := y) (by omega) (by omega) (by omega)
      exact ⟨by omega, by omega, by omega, by omega, by simpa using this⟩
end
theorem joinF_rng {aW bW H : Nat} {a b : List Int} (ha : ∀ x ∈ a, 0 ≤ x ∧ x ≤ 2) (hb : ∀ x ∈ b, 0 ≤ x ∧ x ≤ 2) (k : Nat) : 0 ≤ joinF aW bW H a b k ∧ joinF aW bW H a b k ≤ 2 := by
  unfold joinF
  split
  · omega
  · split
    · exact at0_rng ha _
    · exact at0_rng hb _
theorem rowN_pos {W H : Nat} (w2 : 2 ≤ W) (h1 : 1 ≤ H) : 0 < rowN W (2 * H) := by
  have h := rowN_mono (W := W) (show 2 ≤ 2 * H by omega)
  have e : rowN W 2 = W - 1 := by
    show rowN W (1 + 1) = _
    rw [rowN_succ (Nat.le_refl 1)]; simp [rowN]
  omega

theorem c92 (hh : Heap) (hp : 0 < hh.length) (v0 : Value) (X0 : Pan) (hv0 : Vr hh shPanel v0 X0) (hs0 : siz shPanel X0 ≤ 1048576) (v1 : Value) (X1 : Pan) (hv1 : Vr hh shPanel v1 X1) (hs1 : siz shPanel X1 ≤ 1048576) :
    ACall Gam 92 [v0, v1] hh fun r h' => Grows hh h' ∧ ∃ r0, r = .tuple #[r0, I (joinAns X0 X1).2] ∧ Vo h' hh.length h'.length shPanel r0 (joinAns X0 X1).1 ∧ siz shPanel (joinAns X0 X1).1 ≤ 16777216 := by
  have hsz := join_siz X0 X1
  obtain ⟨W0, H0, a⟩ := X0
  obtain ⟨W1, H1, b⟩ := X1
  have hv0' := hv0
  have hv1' := hv1
  obtain ⟨s0, rfl, w0, x0, r0⟩ := hv0.panel
  obtain ⟨s1, rfl, w1, x1, r1⟩ := hv1.panel
  refine ACall_intro g92 rfl ?_
  unfold fn92
  simp (disch := omega)
  refine callW_of (c140 _ _ hh hv0') ?_
  rintro _ h1 ⟨rfl, rfl⟩
  cases q0 : okP (W0, H0, a)
  · have e : joinAns (W0, H0, a) (W1, H1, b) = ((0, 0, []), 1) := by simp [joinAns, q0]
    rw [e] at hsz ⊢
    simp (disch := omega) [resOf, resAll, resOne, aField]
    exact ⟨Grows.refl _, Vo.zero_panel, hsz⟩
  simp (disch := omega)
  refine callW_of (c140 _ _ h1 hv1') ?_
  rintro _ h1 ⟨rfl, rfl⟩
  cases q1 : okP (W1, H1, b)
  · have e : joinAns (W0, H0, a) (W1, H1, b) = ((0, 0, []), 1) := by simp [joinAns, q1]
    rw [e] at hsz ⊢
    simp (disch := omega) [resOf, resAll, resOne, aField]
    exact ⟨Grows.refl _, Vo.zero_panel, hsz⟩
  have ok0 := okP_iff.1 q0
  have ok1 := okP_iff.1 q1
  obtain ⟨okW, okH, okn, okb⟩ := ok0
  obtain ⟨okW1, okH1, okn1, okb1⟩ := ok1
  simp only at okW okH okn okb okW1 okH1 okn1 okb1
  simp (disch := omega)
  refine fork_dec (fun hH => ?_) (fun hH => ?_)
  rotate_left
  · have e : joinAns (W0, H0, a) (W1, H1, b) = ((0, 0, []), 6) := by simp [joinAns, q0, q1, hH]
    rw [e] at hsz ⊢
    simp (disch := omega) [resOf, resAll, resOne, aField]
    exact ⟨Grows.refl _, Vo.zero_panel, hsz⟩
  simp (disch := omega) [wrap64]
  subst hH
  refine fork_dec (fun hS => ?_) (fun hS => ?_)
  · have e : joinAns (W0, H0, a) (W1, H0, b) = ((0, 0, []), 5) := by
      have : ¬ W0 + W1 ≤ 8 := by omega
      simp [joinAns, q0, q1, this]
    rw [e] at hsz ⊢
    simp (disch := omega) [resOf, resAll, resOne, aField]
    exact ⟨Grows.refl _, Vo.zero_panel, hsz⟩
  have e : joinAns (W0, H0, a) (W1, H0, b) = (joinP (W0, H0, a) (W1, H0, b), 0) := by
    have : W0 + W1 ≤ 8 := by omega
    simp [joinAns, q0, q1, this]
  rw [e] at hsz ⊢
  obtain ⟨aW, rfl⟩ := Int.eq_ofNat_of_zero_le (show 0 ≤ W0 by omega)
  obtain ⟨H, rfl⟩ := Int.eq_ofNat_of_zero_le (show 0 ≤ H0 by omega)
  obtain ⟨bW, rfl⟩ := Int.eq_ofNat_of_zero_le (show 0 ≤ W1 by omega)
  have hal : a.length = rowN aW (2 * H) := by
    have := inner_row (w := aW) (h := H) (by omega) (by omega) (by omega) (by omega)
    omega
  have hbl : b.length = rowN bW (2 * H) := by
    have := inner_row (w := bW) (h := H) (by omega) (by omega) (by omega) (by omega)
    omega
  obtain ⟨Wo, hWo⟩ : ∃ Wo, Wo = aW + bW := ⟨_, rfl⟩
  have eWo : (aW : Int) + (bW : Int) = (Wo : Int) := by omega
  have hin := inner_row (w := Wo) (h := H) (by omega) (by omega) (by omega) (by omega)
  have hN0 := rowN_pos (W := Wo) (H := H) (by omega) (by omega)
  have hN128 := rowN_le (W := Wo) (by omega) (y := 2 * H) (by omega)
  obtain ⟨f, hf⟩ : ∃ f, f = joinF aW bW H a b := ⟨_, rfl⟩
  have hpe : joinP ((aW : Int), (H : Int), a) ((bW : Int), (H : Int), b) = ((Wo : Int), (H : Int), (List.range (rowN Wo (2 * H))).map f) := by
    simp only [joinP, Int.toNat_natCast]
    rw [eWo, ← hWo, ← hf]
  rw [hpe] at hsz ⊢
  simp (disch := omega) [wrap64, eWo]
  refine callW_of (c177 h1 Wo H (by omega) (by omega) hp) ?_
  rintro _ h2 ⟨g2, o2⟩
  obtain ⟨so, rfl, v1, v2, o2⟩ := o2.panel
  obtain ⟨bb, zz, rfl, hz, hm, hx, hc⟩ := o2.ints
  rw [hin] at hz hc ⊢
  simp only [List.length_replicate] at hc ⊢
  have hrne : List.replicate (rowN Wo (2 * H)) (0 : Int) ≠ [] := by
    intro e; have := congrArg List.length e; simp at this; omega
  have hc1 := hc.resolve_left hrne
  clear hc
  have hc := hc1
  have hz1 : zz = 1 := hz.resolve_right (fun e => hrne e.2)
  simp (disch := omega)
  refine awp_loop (fun (m : Nat) σ h' => m ≤ H ∧ Mod bb (bb + 1) h2 h' ∧ σ 2 = .agg #[I aW, I H, s0] ∧ σ 3 = .agg #[I bW, I H, s1] ∧ σ 4 = .agg #[I 0, I 0, sl 0 0 0 0] ∧ σ 6 = .agg #[I Wo, I H, sl bb 0 (rowN Wo (2 * H)) zz] ∧ σ 7 = I ((2 * m + 1 : Nat) : Int) ∧
    h'[bb]? = some ⟨ints (fillB f (upP Wo H aW m) (rowN Wo (2 * H))), true⟩) (fun m => H - m) 0 ?_ ?_
  · refine ⟨by omega, Mod.refl _ _ _, by simp, by simp, by simp, by simp, by simp, ?_⟩
    rw [fillB_none _ _ _ (fun j hj => upP_zero (by omega) (by omega) hj)]
    exact hc.1
  · rintro m σ h' ⟨hm', hmd, p2, p3, p4, p6, p7, hb⟩
    simp (disch := omega) [p2, p7, wrap64]
    refine fork_dec (fun hlt => ?_) (fun hge => ?_)
    · have hlt' : 2 * m + 1 < 2 * H := by omega
      have hnum := numP_lt (W := Wo) (H := H) (x := 2 * aW) (y := 2 * m + 1) (by omega) (by omega) (by omega)
      have hfk : (1 : Int) = f (numP Wo (2 * aW) (2 * m + 1)) := by rw [hf, hWo]; exact (join_up (by omega) (by omega) (by omega) hlt').symm
      have hst := store_fill (P' := upP Wo H aW (m + 1)) hb hnum hfk (fun j hj => upP_step (by omega) (by omega) (by omega) hlt' hj)
      have ex : 2 * (aW : Int) = ((2 * aW : Nat) : Int) := by omega
      have ey : 2 * (m : Int) + 1 = ((2 * m + 1 : Nat) : Int) := by omega
      have hcall := c40 h' Wo H (2 * aW) (2 * m + 1) (sl bb 0 (rowN Wo (2 * H)) zz) (by omega) (by omega) (by omega) (by omega) (by omega)
      simp only [Int.natCast_mul, Int.natCast_add, Int.natCast_one, Int.cast_ofNat_Int] at hcall
      simp (disch := omega) [p2, p6, p7, wrap64]
      refine callW_of hcall ?_
      rintro _ h' ⟨rfl, rfl⟩
      simp (disch := omega) [p2, p3, p4, p6, p7, hnum, hst, wrap64]
      exact ⟨m + 1, ⟨by omega, hmd.put (by omega) _, by omega, by simp [at_lt hb]⟩, by omega⟩
    · have : m = H := by omega
      subst this
      have G' := hmd.grows g2 hc.2.1
      simp (disch := omega) [p2, p3, p4, p6, p7]
      refine callW_of (c46 h' (pos_of hp G') Wo m aW m 0 0 bb zz _ a f (upP Wo m aW m) h1 hv0' G' hc.2.1 hal (by omega) (by omega) (by omega) (by omega) (by omega) (by omega) (by omega) (by omega) hb (by rw [hf, hWo]; exact join_a (by omega) (by omega) (by omega))) ?_
      rintro _ h3 ⟨md3, hb3⟩
      refine ⟨fun e => (by cases e), ?_⟩
      have G3 := md3.grows G' hc.2.1
      try simp (disch := omega) [p2, p3, p4, p6, p7]
      refine callW_of (c46 h3 (pos_of hp G3) Wo m bW m aW 0 bb zz _ b f _ h1 hv1' G3 hc.2.1 hbl (by omega) (by omega) (by omega) (by omega) (by omega) (by omega) (by omega) (by omega) hb3 (by rw [hf, hWo]; exact join_b (by omega) (by omega) (by omega))) ?_
      rintro _ h4 ⟨md4, hb4⟩
      refine ⟨fun e => (by cases e), ?_⟩
      have G4 := md4.grows G3 hc.2.1
      have hfin : fillB f (fun j => decide (j < rowN Wo (2 * m))) (rowN Wo (2 * m)) = fillB f (fun j => (upP Wo m aW m j || inPart Wo m aW m 0 0 (rowN aW (2 * m)) j) || inPart Wo m bW m aW 0 (rowN bW (2 * m)) j) (rowN Wo (2 * m)) := fillB_same fun j hj => by
        have := join_cover (aW := aW) (bW := bW) (H := m) (by omega) (by omega) (by omega) (j := j) (by rw [← hWo]; exact hj)
        rw [← hWo, ← Bool.or_assoc] at this
        rw [this]; simp [hj]
      have ho := part_done (h := h4) (bb := bb) (zz := zz) (lo := h1.length) (n := rowN Wo (2 * m)) (f := f) (.inl hz1) hN128 (fun k => by rw [hf]; exact joinF_rng okb okb1 k) (.inr ⟨by rw [hfin]; exact hb4, hc.2.1⟩)
      simp (disch := omega) [p2, p3, p4, p6, p7, resOf, resAll, resOne, aField]
      exact ⟨G4, Vo.of_panel v1 v2 ho, hsz⟩

theorem c384 (hh : Heap) (hp : 0 < hh.length) (v0 : Value) (X0 : Pan) (hv0 : Vr hh shPanel v0 X0) (hs0 : siz shPanel X0 ≤ 1048576) (v1 : Value) (X1 : Pan) (hv1 : Vr hh shPanel v1 X1) (hs1 : siz shPanel X1 ≤ 1048576) :
    ACall Gam 384 [v0, v1] hh fun r h' => Grows hh h' ∧ ∃ r0, r = .tuple #[r0, I (joinAns X0 X1).2] ∧ Vo h' hh.length h'.length shPanel r0 (joinAns X0 X1).1 ∧ siz shPanel (joinAns X0 X1).1 ≤ 16777216 := by
  have hsz := join_siz X0 X1
  obtain ⟨W0, H0, a⟩ := X0
  obtain ⟨W1, H1, b⟩ := X1
  obtain ⟨s0, rfl, w0, x0, r0⟩ := hv0.panel
  obtain ⟨s1, rfl, w1, x1, r1⟩ := hv1.panel
  refine ACall_intro g384 rfl ?_
  unfold fn384
  simp (disch := omega)
  obtain ⟨ha, eha⟩ : ∃ ha, ha = hh ++ [⟨[I W0, I H0, s0], true⟩] ++ [⟨[I W1, I H1, s1], true⟩] := ⟨_, rfl⟩
  have ga : Grows hh ha := ⟨[⟨[I W0, I H0, s0], true⟩, ⟨[I W1, I H1, s1], true⟩], by rw [eha]; simp⟩
  have ka : ha[hh.length]? = some ⟨[I W0, I H0, s0], true⟩ := by rw [eha]; simp
  have kb : ha[hh.length + 1]? = some ⟨[I W1, I H1, s1], true⟩ := by rw [eha]; simp
  have la : ha.length = hh.length + 2 := by rw [eha]; simp
  simp only [List.append_assoc, List.cons_append, List.nil_append] at eha
  try rw [← eha]
  have hpt0 : PtP ha (pt hh.length 0) (W0, H0, a) := PtP.at ka (r0.grow ga) w0 x0
  have hpt1 : PtP ha (pt (hh.length + 1) 0) (W1, H1, b) := PtP.at kb (r1.grow ga) w1 x1
  have ca0 : cell ha hh.length 0 = some (I W0) := by simp [cell, ka]
  have ca1 : cell ha hh.length 1 = some (I H0) := by simp [cell, ka]
  have cb0 : cell ha (hh.length + 1) 0 = some (I W1) := by simp [cell, kb]
  have cb1 : cell ha (hh.length + 1) 1 = some (I H1) := by simp [cell, kb]
  refine callW_of (c452 _ _ _ hpt0) ?_
  rintro _ h1 ⟨rfl, rfl⟩
  cases q0 : okP (W0, H0, a)
  · have e : joinAns (W0, H0, a) (W1, H1, b) = ((0, 0, []), 1) := by simp [joinAns, q0]
    rw [e] at hsz ⊢
    simp (disch := omega) [resOf, resAll, resOne, aField]
    exact ⟨ga, Vo.zero_panel, hsz⟩
  simp (disch := omega)
  refine callW_of (c452 _ _ _ hpt1) ?_
  rintro _ h1 ⟨rfl, rfl⟩
  cases q1 : okP (W1, H1, b)
  · have e : joinAns (W0, H0, a) (W1, H1, b) = ((0, 0, []), 1) := by simp [joinAns, q1]
    rw [e] at hsz ⊢
    simp (disch := omega) [resOf, resAll, resOne, aField]
    exact ⟨ga, Vo.zero_panel, hsz⟩
  have ok0 := okP_iff.1 q0
  have ok1 := okP_iff.1 q1
  obtain ⟨okW, okH, okn, okb⟩ := ok0
  obtain ⟨okW1, okH1, okn1, okb1⟩ := ok1
  simp only at okW okH okn okb okW1 okH1 okn1 okb1
  simp (disch := omega) [ca0, ca1, cb0, cb1]
  refine fork_dec (fun hH => ?_) (fun hH => ?_)
  rotate_left
  · have e : joinAns (W0, H0, a) (W1, H1, b) = ((0, 0, []), 6) := by simp [joinAns, q0, q1, hH]
    rw [e] at hsz ⊢
    simp (disch := omega) [resOf, resAll, resOne, aField]
    exact ⟨ga, Vo.zero_panel, hsz⟩
  subst hH
  simp (disch := omega) [ca0, ca1, cb0, cb1, wrap64]
  refine callW_of (c457 _ _) ?_
  rintro _ h1 ⟨rfl, rfl⟩
  cases hS : inR (W0 + W1) 1 8
  · have e : joinAns (W0, H0, a) (W1, H0, b) = ((0, 0, []), 5) := by
      have : ¬ W0 + W1 ≤ 8 := by simp [inR] at hS; omega
      simp [joinAns, q0, q1, this]
    rw [e] at hsz ⊢
    simp (disch := omega) [resOf, resAll, resOne, aField]
    exact ⟨ga, Vo.zero_panel, hsz⟩
  have hS' : W0 + W1 ≤ 8 := by simp [inR] at hS; omega
  have e : joinAns (W0, H0, a) (W1, H0, b) = (joinP (W0, H0, a) (W1, H0, b), 0) := by
    simp [joinAns, q0, q1, hS']
  rw [e] at hsz ⊢
  obtain ⟨aW, rfl⟩ := Int.eq_ofNat_of_zero_le (show 0 ≤ W0 by omega)
  obtain ⟨H, rfl⟩ := Int.eq_ofNat_of_zero_le (show 0 ≤ H0 by omega)
  obtain ⟨bW, rfl⟩ := Int.eq_ofNat_of_zero_le (show 0 ≤ W1 by omega)
  have hal : a.length = rowN aW (2 * H) := by
    have := inner_row (w := aW) (h := H) (by omega) (by omega) (by omega) (by omega)
    omega
  have hbl : b.length = rowN bW (2 * H) := by
    have := inner_row (w := bW) (h := H) (by omega) (by omega) (by omega) (by omega)
    omega
  obtain ⟨Wo, hWo⟩ : ∃ Wo, Wo = aW + bW := ⟨_, rfl⟩
  have eWo : (aW : Int) + (bW : Int) = (Wo : Int) := by omega
  have hin := inner_row (w := Wo) (h := H) (by omega) (by omega) (by omega) (by omega)
  have hN0 := rowN_pos (W := Wo) (H := H) (by omega) (by omega)
  have hN128 := rowN_le (W := Wo) (by omega) (y := 2 * H) (by omega)
  obtain ⟨f, hf⟩ : ∃ f, f = joinF aW bW H a b := ⟨_, rfl⟩
  have hfb : ∀ k, 0 ≤ f k ∧ f k ≤ 2 := fun k => by rw [hf]; exact joinF_rng okb okb1 k
  have hpe : joinP ((aW : Int), (H : Int), a) ((bW : Int), (H : Int), b) = ((Wo : Int), (H : Int), (List.range (rowN Wo (2 * H))).map f) := by
    simp only [joinP, Int.toNat_natCast]
    rw [eWo, ← hWo, ← hf]
  rw [hpe] at hsz ⊢
  simp (disch := omega) [ca0, ca1, cb0, cb1, wrap64, eWo]
  refine callW_of (c450 h1 Wo H (by omega) (by omega) (pos_of hp ga)) ?_
  rintro _ h2 ⟨g2, o2⟩
  obtain ⟨so, rfl, v1, v2, o2⟩ := o2.panel
  obtain ⟨bb, zz, rfl, hz, hm, hx, hc⟩ := o2.ints
  rw [hin] at hz hc ⊢
  simp only [List.length_replicate] at hc ⊢
  have hrne : List.replicate (rowN Wo (2 * H)) (0 : Int) ≠ [] := by
    intro e; have := congrArg List.length e; simp at this; omega
  have hc1 := hc.resolve_left hrne
  clear hc
  have hz1 : zz = 1 := hz.resolve_right (fun e => hrne e.2)
  clear hz
  have hsb : storeAt (h2 ++ [⟨[I 0, I 0, sl 0 0 0 0], true⟩]) h2.length 0 [I Wo, I H, sl bb 0 (rowN Wo (2 * H)) zz] = some (h2 ++ [⟨[I Wo, I H, sl bb 0 (rowN Wo (2 * H)) zz], true⟩]) := store_box rfl
  simp (disch := omega) [hsb]
  obtain ⟨h3, e3⟩ : ∃ h3, h3 = h2 ++ [⟨[I Wo, I H, sl bb 0 (rowN Wo (2 * H)) zz], true⟩] := ⟨_, rfl⟩
  rw [← e3]
  have g3 : Grows h2 h3 := ⟨_, e3⟩
  have l3 : h3.length = h2.length + 1 := by rw [e3]; simp
  have k3 : h3[h2.length]? = some ⟨[I Wo, I H, sl bb 0 (rowN Wo (2 * H)) zz], true⟩ := by rw [e3]; simp
  have hf64 : ∀ k, I64 (f k) := fun k => by have := hfb k; unfold I64; omega
  have hb3 : h3[bb]? = some ⟨ints (fillB f (fun _ => false) (rowN Wo (2 * H))), true⟩ := by
    rw [fillB_none _ _ _ (fun j hj => rfl)]; exact g3.at hc1.1
  have G3 := g2.trans g3
  refine callW_of (c551 h3 (pos_of hp (ga.trans G3)) Wo H aW H 0 0 bb zz h2.length _ a f _ h1 hpt0 G3 hc1.2.1 hal (by omega) (by omega) (by omega) (by omega) (by omega) (by omega) (by omega) (by omega) k3 (by omega) hz1 hb3 (by rw [hf, hWo]; exact join_a (by omega) (by omega) (by omega)) hf64) ?_
  rintro _ h4 ⟨md4, hb4⟩
  refine ⟨fun e => (by cases e), ?_⟩
  have G4 := md4.grows G3 hc1.2.1
  have k4 := (md4.2 h2.length (by omega) (by omega)).trans k3
  have cc0 := G4.cell ca0
  simp (disch := omega) [cc0]
  refine callW_of (c551 h4 (pos_of hp (ga.trans G4)) Wo H bW H aW 0 bb zz h2.length _ b f _ h1 hpt1 G4 hc1.2.1 hbl (by omega) (by omega) (by omega) (by omega) (by omega) (by omega) (by omega) (by omega) k4 (by omega) hz1 hb4 (by rw [hf, hWo]; exact join_b (by omega) (by omega) (by omega)) hf64) ?_
  rintro _ h5 ⟨md5, hb5⟩
  refine ⟨fun e => (by cases e), ?_⟩
  have G5 := md5.grows G4 hc1.2.1
  have k5 := (md5.2 h2.length (by have := md4.1; omega) (by omega)).trans k4
  obtain ⟨P, hP⟩ : ∃ P : Nat → Bool, P = fun j => (false || inPart Wo H aW H 0 0 (rowN aW (2 * H)) j) || inPart Wo H bW H aW 0 (rowN bW (2 * H)) j := ⟨_, rfl⟩
  rw [← hP] at hb5
  try simp (disch := omega)
  refine awp_loop (fun (m : Nat) σ h' => m ≤ H ∧ Grows h1 h' ∧ h3.length ≤ h'.length ∧ h'[h2.length]? = some ⟨[I Wo, I H, sl bb 0 (rowN Wo (2 * H)) zz], true⟩ ∧ σ 2 = pt hh.length 0 ∧ σ 4 = .agg #[I 0, I 0, sl 0 0 0 0] ∧ σ 6 = pt h2.length 0 ∧ σ 7 = I ((2 * m + 1 : Nat) : Int) ∧
    h'[bb]? = some ⟨ints (fillB f (fun j => P j || upP Wo H aW m j) (rowN Wo (2 * H))), true⟩) (fun m => H - m) 0 ?_ ?_
  · refine ⟨by omega, G5, by have := md4.1; have := md5.1; omega, k5, by simp, by simp, by simp, by simp, ?_⟩
    rw [hb5]
    congr 3
    exact fillB_same fun j hj => by rw [upP_zero (by omega) (by omega) hj, Bool.or_false]
  · rintro m σ h' ⟨hm', hg, hlen, hkb, p2, p4, p6, p7, hb⟩
    have cl := hg.cell ca0
    have cl1 := hg.cell ca1
    have cl2 : cell h' h2.length 2 = some (sl bb 0 (rowN Wo (2 * H)) zz) := by simp [cell, hkb]
    simp (disch := omega) [p2, p7, cl, cl1, cl2, wrap64]
    refine fork_dec (fun hlt => ?_) (fun hge => ?_)
    · have hlt' : 2 * m + 1 < 2 * H := by omega
      have hnum := numP_lt (W := Wo) (H := H) (x := 2 * aW) (y := 2 * m + 1) (by omega) (by omega) (by omega)
      have hfk : (1 : Int) = f (numP Wo (2 * aW) (2 * m + 1)) := by rw [hf, hWo]; exact (join_up (by omega) (by omega) (by omega) hlt').symm
      have hst := store_fill (P' := fun j => P j || upP Wo H aW (m + 1) j) hb hnum hfk (fun j hj => by rw [upP_step (by omega) (by omega) (by omega) hlt' hj, Bool.or_assoc])
      have hvo : Vr h' shInts (sl bb 0 (rowN Wo (2 * H)) zz) (fillB f (fun j => P j || upP Wo H aW m j) (rowN Wo (2 * H))) := by
        have := Vr.of_ints (h := h') (b := bb) (o := 0) (z := zz) (X := fillB f (fun j => P j || upP Wo H aW m j) (rowN Wo (2 * H))) (.inl hz1) (by rw [fillB_len, maxLen_eq]; omega) (by
          intro a ha
          obtain ⟨j, _, rfl⟩ := List.mem_map.1 ha
          have := hfb j
          split <;> (unfold I64; omega)) (.inr (by rw [cellsAt_of hb (by simp [ints, fillB_len])]; simp [ints, fillB_len, List.take_of_length_le]))
        rw [fillB_len] at this
        exact this
      have hpo : PtP h' (pt h2.length 0) ((Wo : Int), (H : Int), fillB f (fun j => P j || upP Wo H aW m j) (rowN Wo (2 * H))) := PtP.at hkb hvo v1 v2
      have hcall := c451 h' _ _ Wo (2 * aW) (2 * m + 1) hpo rfl (by omega) (by omega) (by omega) (by omega)
      simp only [Int.natCast_mul, Int.natCast_add, Int.natCast_one, Int.cast_ofNat_Int] at hcall
      simp (disch := omega) [p2, p6, p7, cl, cl1, cl2, wrap64]
      refine callW_of hcall ?_
      rintro _ h' ⟨rfl, rfl⟩
      refine ⟨fun _ => Grows.refl _, ?_⟩
      simp (disch := omega) [p2, p4, p6, p7, hnum, hst, cl, cl1, cl2, wrap64]
      refine ⟨m + 1, ⟨by omega, hg.put hc1.2.1 _, hlen, ?_, by omega, by simp [at_lt hb]⟩, by omega⟩
      first
        | exact (List.getElem?_eq_some_iff.1 hkb).2
        | (rw [List.getElem?_set_ne (by omega)]; exact hkb)
    · have : m = H := by omega
      subst this
      have hfin : fillB f (fun j => decide (j < rowN Wo (2 * m))) (rowN Wo (2 * m)) = fillB f (fun j => P j || upP Wo m aW m j) (rowN Wo (2 * m)) := fillB_same fun j hj => by
        have := join_cover (aW := aW) (bW := bW) (H := m) (by omega) (by omega) (by omega) (j := j) (by rw [← hWo]; exact hj)
        rw [← hWo, Bool.or_comm] at this
        rw [hP]; simp only [Bool.false_or]
        rw [this]; simp [hj]
      have ho := part_done (h := h') (bb := bb) (zz := zz) (lo := hh.length) (n := rowN Wo (2 * m)) (f := f) (.inl hz1) hN128 hfb (.inr ⟨by rw [hfin]; exact hb, by omega⟩)
      have cw : cellsAt h' h2.length 0 3 = some [I Wo, I m, sl bb 0 (rowN Wo (2 * m)) zz] := by rw [cellsAt_of hkb (by simp)]; simp
      simp (disch := omega) [p4, p6, cw, resOf, resAll, resOne, aField]
      exact ⟨ga.trans hg, Vo.of_panel v1 v2 ho, hsz⟩
end Am

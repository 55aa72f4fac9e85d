/- Contracts: AmP10, AmP11, AmP12, AmP13, AmP14, AmP16, AmD1, AmD2, AmD3, AmJ1. -/
import Derived.Test.YtikhbjdcomgemaaAmK2
import Derived.Test.YtikhbjdcomgemaaAmK1
/-! AmP10 -/
set_option linter.unusedVariables false
set_option linter.unusedSimpArgs false
set_option maxHeartbeats 4000000
set_option maxRecDepth 4000
namespace Am
open Go

theorem aSlice_hi {h : Heap} {l : List UInt8} {k : IntKind} {n : Int} (h0 : 0 ≤ n) (h1 : n.toNat ≤ l.length) : aSlice 0 h (S l) none (some (.int k n)) none = some (S (l.take n.toNat), h) := by
  simp [aSlice, bound, h0, ByteArray.size, h1]
theorem store_box {h : Heap} {cs xs : List Value} (hl : xs.length = cs.length) : storeAt (h ++ [⟨cs, true⟩]) h.length 0 xs = some (h ++ [⟨xs, true⟩]) := by
  unfold storeAt
  simp [hl]
theorem PtP.at {h : Heap} {b : Nat} {W H : Int} {s : Value} {br : List Int} {r : Bool} (hb : h[b]? = some ⟨[I W, I H, s], r⟩) (hs : Vr h shInts s br) (hW : I64 W) (hH : I64 H) : PtP h (pt b 0) (W, H, br) :=
  ⟨b, 0, s, rfl, by simp [Am.cell, hb], by simp [Am.cell, hb], by simp [Am.cell, hb], hs, hW, hH⟩
theorem c566 (h : Heap) (s : List UInt8) (h2 : 2 ≤ s.length) (hs : s.length ≤ 1048576) : ACall Gam 566 [S s] h fun r h' => r = B (sumOk s) ∧ h' = h := by
  have l1 : s.length - 2 < s.length := by omega
  have l2 : s.length - 1 < s.length := by omega
  obtain ⟨a1, a2⟩ := bn_at l1
  obtain ⟨b1, b2⟩ := bn_at l2
  have t1 := bn_lt s (s.length - 2)
  have t2 := bn_lt s (s.length - 1)
  have e1 : ((s.length : Int) - 2).toNat = s.length - 2 := by omega
  have e2 : ((s.length : Int) - 1).toNat = s.length - 1 := by omega
  have e3 : ¬ (s.length : Int) < 2 := by omega
  have i1 : (s.length : Int) - 2 < s.length := by omega
  have i2 : (s.length : Int) - 1 < s.length := by omega
  have j1 : (0 : Int) ≤ (s.length : Int) - 2 := by omega
  have j2 : (0 : Int) ≤ (s.length : Int) - 1 := by omega
  have k1 : (2 : Int) ≤ s.length := by omega
  have k2 : (1 : Int) ≤ s.length := by omega
  have sl := aSlice_hi (h := h) (l := s) (k := .i64) j1 (by omega)
  rw [e1] at sl
  refine ACall_intro g566 rfl ?_
  unfold fn566
  simp (disch := omega) [e3, wrap64, sl]
  refine callW_of (c573 (s.take (s.length - 2)) (by simp; omega) h) ?_
  rintro _ h' ⟨rfl, rfl⟩
  simp (disch := omega) [e1, e2, i1, i2, j1, j2, k1, k2, a1, b1, a2, b2, wrap64]
  simp [sumOk]

theorem c574 (h : Heap) (hp : 0 < h.length) (s : List UInt8) (hs : s.length ≤ 1048576) : ACall Gam 574 [S s] h fun r h' => Grows h h' ∧ ∃ r0, r = .tuple #[r0, I (fault s)] ∧ Vo h' h.length h'.length shPanel r0 (if fault s = 0 then unP s else (0, 0, [])) := by
  have bad : ∀ c : Int, fault s = c → c ≠ 0 → (if fault s = 0 then unP s else ((0, 0, []) : Pan)) = (0, 0, []) := fun c hc hn => by rw [hc, if_neg hn]
  refine ACall_intro g574 rfl ?_
  unfold fn574
  simp (disch := omega)
  refine fork_dec (fun h5 => ?_) (fun h5 => ?_)
  · have e : fault s = 1 := by unfold fault; rw [if_pos (.inl (by omega))]
    rw [bad 1 e (by decide), e]
    simp (disch := omega) [h5, resOf, resAll, resOne, aField]
    exact ⟨Grows.refl _, Vo.zero_panel⟩
  have l0 : 0 < s.length := by omega
  have l1 : 1 < s.length := by omega
  have l2 : 2 < s.length := by omega
  obtain ⟨z1, z2⟩ := bn_at l0
  obtain ⟨a1, a2⟩ := bn_at l1
  obtain ⟨b1, b2⟩ := bn_at l2
  have t0 := bn_lt s 0
  have t1 := bn_lt s 1
  have t2 := bn_lt s 2
  have i0 : (0 : Int) < s.length := by omega
  have i1 : (1 : Int) < s.length := by omega
  have i2 : (2 : Int) < s.length := by omega
  simp (disch := omega) [h5, l0, i1, i2, z1, z2, a1, b1, a2, b2, wrap64]
  refine fork_dec (fun hM => ?_) (fun hM => ?_)
  rotate_left
  · have e : fault s = 1 := by unfold fault; rw [if_pos (.inr (.inl (by omega)))]
    rw [bad 1 e (by decide), e]
    simp (disch := omega) [h5, hM, resOf, resAll, resOne, aField]
    exact ⟨Grows.refl _, Vo.zero_panel⟩
  simp (disch := omega) [h5, hM, l0, i1, i2, z1, z2, a1, b1, a2, b2, wrap64]
  refine callW_of (c457 (bn s 1) h) ?_
  rintro _ h' ⟨rfl, rfl⟩
  cases q1 : inR (bn s 1) 1 8
  · have e : fault s = 1 := by unfold fault; rw [if_pos (.inr (.inr (by simp [okSz, q1])))]
    rw [bad 1 e (by decide), e]
    simp (disch := omega) [resOf, resAll, resOne, aField]
    exact ⟨Grows.refl _, Vo.zero_panel⟩
  simp (disch := omega) [l0, i1, i2, z1, z2, a1, b1, a2, b2, wrap64]
  refine callW_of (c457 (bn s 2) h') ?_
  rintro _ h' ⟨rfl, rfl⟩
  cases q2 : inR (bn s 2) 1 8
  · have e : fault s = 1 := by unfold fault; rw [if_pos (.inr (.inr (by simp [okSz, q2])))]
    rw [bad 1 e (by decide), e]
    simp (disch := omega) [resOf, resAll, resOne, aField]
    exact ⟨Grows.refl _, Vo.zero_panel⟩
  have qW := inR_iff.1 q1
  have qH := inR_iff.1 q2
  have q : okSz (bn s 1) (bn s 2) = true := by simp [okSz, q1, q2]
  have hi := inner_bd qW qH
  have n1 : ¬ (s.length < 5 ∨ bn s 0 ≠ 77 ∨ okSz (bn s 1) (bn s 2) = false) := by simp [q]; omega
  simp (disch := omega) [l0, i1, i2, z1, z2, a1, b1, a2, b2, wrap64]
  refine callW_of (c572 (bn s 1) (bn s 2) qW qH h') ?_
  rintro _ h' ⟨rfl, rfl⟩
  simp (disch := omega)
  refine fork_dec (fun hl => ?_) (fun hl => ?_)
  rotate_left
  · have e : fault s = 2 := by unfold fault; rw [if_neg n1, if_pos hl]
    rw [bad 2 e (by decide), e]
    simp (disch := omega) [resOf, resAll, resOne, aField]
    exact ⟨Grows.refl _, Vo.zero_panel⟩
  simp (disch := omega)
  refine callW_of (c566 h' s (by omega) hs) ?_
  rintro _ h' ⟨rfl, rfl⟩
  cases q3 : sumOk s
  · have e : fault s = 3 := by unfold fault; rw [if_neg n1, if_neg (by simpa using hl), if_pos q3]
    rw [bad 3 e (by decide), e]
    simp (disch := omega) [resOf, resAll, resOne, aField]
    exact ⟨Grows.refl _, Vo.zero_panel⟩
  simp (disch := omega)
  refine callW_of (c450 h' (bn s 1) (bn s 2) qW qH hp) ?_
  rintro _ h1 ⟨g1, o1⟩
  obtain ⟨so, rfl, w1, w2, o1⟩ := o1.panel
  obtain ⟨bb, zz, rfl, hz, hm, hx, hc⟩ := o1.ints
  obtain ⟨n, hn⟩ : ∃ n, n = (inner (bn s 1) (bn s 2)).toNat := ⟨_, rfl⟩
  rw [← hn] at hz hc ⊢
  simp only [List.length_replicate] at hc ⊢
  have hps : (s.length : Int) = 5 + (inner (bn s 1) (bn s 2) + 4) / 5 := hl
  have hlen : s.length = 5 + (n + 4) / 5 := by omega
  have hn112 : n ≤ 112 := by omega
  have hsb : storeAt (h1 ++ [⟨[I 0, I 0, sl 0 0 0 0], true⟩]) h1.length 0 [I (bn s 1), I (bn s 2), sl bb 0 n zz] = some (h1 ++ [⟨[I (bn s 1), I (bn s 2), sl bb 0 n zz], true⟩]) := store_box rfl
  simp (disch := omega) [hsb]
  obtain ⟨hB, ehB⟩ : ∃ hB, hB = h1 ++ [⟨[I (bn s 1), I (bn s 2), sl bb 0 n zz], true⟩] := ⟨_, rfl⟩
  rw [← ehB]
  have gB : Grows h1 hB := ⟨_, ehB⟩
  have lB : hB.length = h1.length + 1 := by rw [ehB]; simp
  have kB : hB[h1.length]? = some ⟨[I (bn s 1), I (bn s 2), sl bb 0 n zz], true⟩ := by rw [ehB]; simp
  refine awp_loop (fun (q : Nat) σ hh => 5 * q ≤ n + 4 ∧ Grows h' hh ∧ σ 0 = S s ∧ σ 2 = .agg #[I 0, I 0, sl 0 0 0 0] ∧ σ 6 = pt h1.length 0 ∧ σ 7 = I ((3 + q : Nat) : Int) ∧ hh[h1.length]? = some ⟨[I (bn s 1), I (bn s 2), sl bb 0 n zz], true⟩ ∧
    (n = 0 ∨ hh[bb]? = some ⟨ints (fillB (fun j => (brk s j : Nat)) (fun j => decide (j < 5 * q)) n), true⟩)) (fun q => n + 4 - 5 * q) 0 ?_ ?_
  · refine ⟨by omega, g1.trans gB, by simp, by simp, by simp, by simp, kB, ?_⟩
    rcases hc with hc | hc
    · left; simpa using hc
    · right; rw [fillB_none _ _ _ (by simp)]; exact gB.at hc.1
  · rintro k σ hh ⟨hk, hg, p0, p2, p6, p7, kb, hb⟩
    simp (disch := omega) [p0, p7, wrap64]
    refine fork_dec (fun hlt => ?_) (fun hge => ?_)
    · have hnz : n ≠ 0 := by omega
      have hb := hb.resolve_left hnz
      have hbb : h'.length ≤ bb ∧ bb < h1.length := by
        rcases hc with hc | hc
        · simp at hc; omega
        · exact hc.2
      have lk : 3 + k < s.length := by omega
      obtain ⟨d1, d2⟩ := bn_at lk
      have t3 := bn_lt s (3 + k)
      have ei : (3 + (k : Int)).toNat = 3 + k := by omega
      have ec : 3 + (k : Int) < s.length := by omega
      have ec0 : (0 : Int) ≤ 3 + (k : Int) := by omega
      simp (disch := omega) [p0, p7, ei, ec, ec0, d1, d2, wrap64]
      refine awp_loop (fun (m : Nat) σ' h'' => m ≤ 5 ∧ Grows h' h'' ∧ σ' 0 = S s ∧ σ' 2 = .agg #[I 0, I 0, sl 0 0 0 0] ∧ σ' 6 = pt h1.length 0 ∧ σ' 7 = I ((3 + k : Nat) : Int) ∧ σ' 9 = I ((m : Int) - 1) ∧ σ' 8 = I ((dv (bn s (3 + k)) (5 - m) : Nat) : Int) ∧ h''[h1.length]? = some ⟨[I (bn s 1), I (bn s 2), sl bb 0 n zz], true⟩ ∧
        h''[bb]? = some ⟨ints (fillB (fun j => (brk s j : Nat)) (fun j => decide (j < 5 * k ∨ 5 * k + m ≤ j ∧ j < 5 * k + 5)) n), true⟩) (fun m => m) 5 ?_ ?_
      · refine ⟨by omega, hg, by simp [p0], by simp [p2], by simp [p6], by simp [p7], by simp, by simp [dv_zero], kb, ?_⟩
        rw [hb]
        congr 3
        exact fillB_same fun j _ => by
          by_cases h1 : j < 5 * k
          · simp [h1]
          · simp [h1]
      · rintro m σ' h'' ⟨hm5, hg', r0, r2, r6, r7, r9, r8, kb', hb'⟩
        simp (disch := omega) [r9]
        refine fork_dec (fun hm0 => ?_) (fun hm0 => ?_)
        · obtain ⟨m, rfl⟩ : ∃ m', m = m' + 1 := ⟨m - 1, by omega⟩
          have ex : 5 - (m + 1) = 4 - m := by omega
          rw [ex] at r8
          obtain ⟨x, hx⟩ : ∃ x, x = dv (bn s (3 + k)) (4 - m) := ⟨_, rfl⟩
          have hxl : x < 256 := by rw [hx]; exact Nat.lt_of_le_of_lt (dv_le _ _) t3
          rw [← hx] at r8
          have hx2 : dv (bn s (3 + k)) (5 - m) = x / 3 := by
            have : 5 - m = 4 - m + 1 := by omega
            rw [this, dv_succ, ← hx]
          have em : ((m : Int) + 1 - 1) = m := by omega
          have e5 : 5 * (3 + (k : Int) - 3) + m = ((5 * k + m : Nat) : Int) := by omega
          have cl : cell h'' h1.length 2 = some (sl bb 0 n zz) := by simp [cell, kb']
          simp (disch := omega) [r6, r7, r9, em, cl, wrap64]
          have e6 : 5 * (3 + (k : Int) - 3) + (m : Int) = 5 * k + m := by omega
          rw [e6]
          refine fork_dec (fun hat => ?_) (fun hat => ?_)
          · have hat' : 5 * k + m < n := by omega
            have hv : (x : Int) % 3 = ((brk s (5 * k + m) : Nat) : Int) := by
              have a : (5 * k + m) / 5 = k := by omega
              have b : (5 * k + m) % 5 = m := by omega
              unfold brk
              rw [a, b, ← hx]; simp
            have hst := store_fill (P' := fun j => decide (j < 5 * k ∨ 5 * k + m ≤ j ∧ j < 5 * k + 5)) (v := (x : Int) % 3) hb' hat' hv (by
              intro j _
              rw [Bool.eq_iff_iff]
              simp only [decide_eq_true_eq, Bool.or_eq_true, beq_iff_eq]
              omega)
            have et : (5 * (k : Int) + m).toNat = 5 * k + m := by omega
            have c0 : (0 : Int) ≤ 5 * k + m := by omega
            have c1 : 5 * (k : Int) + m < n := by omega
            simp (disch := omega) [r0, r2, r6, r7, r8, r9, em, cl, tmod_pos, et, c0, c1, hst, wrap64, e6, tdiv_pos]
            refine ⟨m, ⟨by omega, hg'.put hbb.1 _, rfl, by rw [hx2]; omega, ?_⟩, by omega⟩
            first
              | exact kb'
              | exact ⟨kb', by simp [at_lt hb']⟩
              | exact ⟨by rw [List.getElem?_set_ne (by omega)]; exact kb', by simp [at_lt hb']⟩
          · simp (disch := omega) [r0, r2, r6, r7, r8, r9, em, cl, tdiv_pos, wrap64]
            refine ⟨m, ⟨by omega, hg', rfl, by rw [hx2]; omega, kb', ?_⟩, by omega⟩
            rw [hb']
            congr 3
            exact fillB_same fun j hj => by
              rw [Bool.eq_iff_iff]
              simp only [decide_eq_true_eq, Bool.or_eq_true, Bool.and_eq_true]
              omega
        · have : m = 0 := by omega
          subst this
          simp (disch := omega) [r0, r2, r6, r7, wrap64]
          refine ⟨k + 1, ⟨by omega, hg', by omega, kb', .inr ?_⟩, by omega⟩
          rw [hb']
          congr 3
          exact fillB_same fun j hj => by
            rw [Bool.eq_iff_iff]
            simp only [decide_eq_true_eq, Bool.or_eq_true, Bool.and_eq_true]
            omega
    · have hend : n ≤ 5 * k := by omega
      have hu : unP s = (((bn s 1 : Nat) : Int), ((bn s 2 : Nat) : Int), unB s n) := by rw [hn]; rfl
      have hul : (unB s n).length = n := by simp [unB]
      have hfill : fillB (fun j => ((brk s j : Nat) : Int)) (fun j => decide (j < 5 * k)) n = unB s n := fillB_all _ _ _ fun j hj => by
        rw [decide_eq_true_eq]; omega
      have ho : Vo hh h'.length hh.length shInts (sl bb 0 n zz) (unB s n) := by
        have := Vo.of_ints (h := hh) (b := bb) (lo := h'.length) (hi := hh.length) (z := zz) (X := unB s n) (by
          rcases hz with e | ⟨e, e'⟩
          · exact .inl e
          · have : n = 0 := by simpa using e'
            exact .inr ⟨e, by rw [this]; rfl⟩) (by rw [hul, maxLen_eq]; omega) (by
          intro x hx
          obtain ⟨j, _, rfl⟩ := List.mem_map.1 hx
          have : brk s j < 3 := Nat.mod_lt _ (by decide)
          unfold I64; omega) (by
          rcases hb with e | e
          · exact .inl (by rw [e]; rfl)
          · rw [hfill] at e
            by_cases hk0 : n = 0
            · exact .inl (by rw [hk0]; rfl)
            · refine .inr ⟨e, ?_, at_lt e⟩
              rcases hc with hc | hc
              · simp at hc; omega
              · exact hc.2.1)
        rw [hul] at this
        exact this
      have hov := Vo.of_panel w1 w2 ho
      rw [← hu] at hov
      have hpt : PtP hh (pt h1.length 0) (unP s) := by
        rw [hu]; exact PtP.at kb ho.vr w1 w2
      simp (disch := omega) [p0, p2, p6]
      refine callW_of (c571 _ (unP s) hh (pos_of hp hg) hpt (unP_ok q)) ?_
      rintro _ h2 ⟨rfl, g2⟩
      refine ⟨fun _ => g2, ?_⟩
      simp (disch := omega) [p0, p2, p6]
      refine fork_dec (fun hpk => ?_) (fun hpk => ?_)
      · have e : fault s = 0 := by unfold fault; rw [if_neg n1, if_neg (by simpa using hl), if_neg (by simp [q3]), if_neg (by simpa using hpk)]
        have hov2 := (hov.grow g2).wide (Nat.le_refl _) g2.le
        have kb2 : cellsAt h2 h1.length 0 3 = some [I (bn s 1), I (bn s 2), sl bb 0 n zz] := by rw [cellsAt_of (g2.at kb) (by simp)]; simp
        rw [e, if_pos rfl]
        simp (disch := omega) [p0, p2, p6, kb2, resOf, resAll, resOne, aField]
        exact ⟨hg.trans g2, hov2⟩
      · have e : fault s = 4 := by unfold fault; rw [if_neg n1, if_neg (by simpa using hl), if_neg (by simp [q3]), if_pos hpk]
        rw [bad 4 e (by decide), e]
        simp (disch := omega) [p0, p2, p6, resOf, resAll, resOne, aField]
        exact ⟨hg.trans g2, Vo.zero_panel⟩

end Am
/-! AmP11 -/
set_option linter.unusedVariables false
set_option linter.unusedSimpArgs false
set_option maxHeartbeats 4000000
set_option maxRecDepth 4000
namespace Am
open Go

/-- How many inner points lie above row y. -/
def rowN (W : Nat) : Nat → Nat
  | 0 => 0
  | y + 1 => rowN W y + if y = 0 then 0 else W - y % 2
theorem rowN_succ {W y : Nat} (h : 1 ≤ y) : rowN W (y + 1) = rowN W y + (W - y % 2) := by
  simp only [rowN]; rw [if_neg (by omega)]
theorem rowN_mono {W : Nat} : ∀ {y z : Nat}, y ≤ z → rowN W y ≤ rowN W z := by
  intro y z h
  induction z with
  | zero => have : y = 0 := by omega
            subst this; exact Nat.le_refl _
  | succ z ih =>
    by_cases e : y = z + 1
    · subst e; exact Nat.le_refl _
    · have := ih (by omega)
      simp only [rowN]; omega
theorem rowN_le : ∀ {W : Nat}, W < 9 → ∀ {y : Nat}, y < 17 → rowN W y ≤ 128 := by decide +kernel
theorem rowN_end : ∀ {W : Nat}, W < 9 → ∀ {H : Nat}, H < 9 → 1 ≤ W → 1 ≤ H → (rowN W (2 * H) : Int) = (W : Int) * (H - 1) + H * (W - 1) := by decide +kernel
theorem rowN_form : ∀ {W : Nat}, W < 9 → ∀ {y : Nat}, y < 17 → 1 ≤ W → 1 ≤ y → ((y / 2 : Nat) : Int) * ((W : Int) - 1) + ((y - 1) / 2 : Nat) * (W : Int) = rowN W y := by decide +kernel

/-- The number of a point. -/
def numP (W x y : Nat) : Nat := rowN W y + (x - 1) / 2
structure IsPt (W H k x y : Nat) : Prop where
  y1 : 1 ≤ y
  y2 : y < 2 * H
  lo : rowN W y ≤ k
  hi : k < rowN W (y + 1)
  x : x = 2 * (k - rowN W y) + 1 + y % 2
theorem IsPt.uniq {W H k x y x' y' : Nat} (a : IsPt W H k x y) (b : IsPt W H k x' y') : x = x' ∧ y = y' := by
  have e : y = y' := by
    rcases Nat.lt_trichotomy y y' with h | h | h
    · have := rowN_mono (W := W) (show y + 1 ≤ y' by omega)
      have := a.hi; have := b.lo; omega
    · exact h
    · have := rowN_mono (W := W) (show y' + 1 ≤ y by omega)
      have := b.hi; have := a.lo; omega
  subst e
  exact ⟨by rw [a.x, b.x], rfl⟩
theorem IsPt.bd {W H k x y : Nat} (a : IsPt W H k x y) : 1 ≤ x ∧ x < 2 * W ∧ (x + y) % 2 = 1 := by
  have h1 := a.x; have h2 := a.lo; have h3 := a.hi; have h4 := a.y1
  rw [rowN_succ h4] at h3
  omega
theorem numP_lt {W H x y : Nat} (hx : 1 ≤ x ∧ x < 2 * W) (hy : 1 ≤ y ∧ y < 2 * H) (hp : (x + y) % 2 = 1) : numP W x y < rowN W (2 * H) := by
  have h1 := rowN_mono (W := W) (show y + 1 ≤ 2 * H by omega)
  rw [rowN_succ hy.1] at h1
  unfold numP; omega

theorem c455 (h : Heap) (v : Value) (X : Pan) (W y : Nat) (hv : PtP h v X) (hW : X.1 = W) (w1 : 1 ≤ W) (w8 : W < 9) (hy1 : 1 ≤ y) (hy : y < 17) : ACall Gam 455 [v, I y] h fun r h' => r = I (rowN W y) ∧ h' = h := by
  obtain ⟨b, o, s, rfl, h1, _⟩ := hv
  rw [hW] at h1
  refine ACall_intro g455 rfl ?_
  unfold fn455
  simp (disch := omega)
  refine awp_loop (fun (k : Nat) σ h' => h' = h ∧ 1 ≤ k ∧ k ≤ y ∧ σ 0 = pt b o ∧ σ 1 = I y ∧ σ 5 = I (rowN W k) ∧ σ 6 = I k) (fun k => y - k) 1 ?_ ?_
  · refine ⟨rfl, Nat.le_refl _, hy1, by simp, by simp, by simp [rowN], by simp⟩
  · rintro k σ h' ⟨rfl, hk1, hk, q0, q1, q5, q6⟩
    simp (disch := omega) [q1, q6]
    refine fork_dec (fun hlt => ?_) (fun hge => ?_)
    · have hb := rowN_le w8 (y := k) (by omega)
      have hs := rowN_succ (W := W) hk1
      simp (disch := omega) [q0, q5, q6, h1, wrap64, tmod_pos]
      refine fork_dec (fun ho => ?_) (fun ho => ?_)
      · simp (disch := omega) [q0, q1, q5, q6, wrap64]
        exact ⟨k + 1, ⟨by omega, by omega, by omega, by omega⟩, by omega⟩
      · simp (disch := omega) [q0, q1, q5, q6, wrap64]
        exact ⟨k + 1, ⟨by omega, by omega, by omega, by omega⟩, by omega⟩
    · have : k = y := by omega
      subst this
      simp (disch := omega) [q5]

theorem c451 (h : Heap) (v : Value) (X : Pan) (W x y : Nat) (hv : PtP h v X) (hW : X.1 = W) (w1 : 1 ≤ W) (w8 : W < 9) (hx : 1 ≤ x ∧ x < 17) (hy : 1 ≤ y ∧ y < 17) : ACall Gam 451 [v, .agg #[I x, I y]] h fun r h' => r = I (numP W x y) ∧ h' = h := by
  refine ACall_intro g451 rfl ?_
  unfold fn451
  have hb := rowN_le w8 (y := y) (by omega)
  simp (disch := omega)
  refine callW_of (c455 h v X W y hv hW w1 w8 hy.1 hy.2) ?_
  rintro _ h' ⟨rfl, rfl⟩
  simp (disch := omega) [wrap64, tdiv_pos]
  simp [numP]; omega

theorem c454 (h : Heap) (v : Value) (X : Pan) (W H k : Nat) (hv : PtP h v X) (hW : X.1 = W) (hH : X.2.1 = H) (w1 : 1 ≤ W) (w8 : W < 9) (h1 : 1 ≤ H) (h8 : H < 9) (hk : k < rowN W (2 * H)) : ACall Gam 454 [v, I k] h fun r h' => (∃ x y, IsPt W H k x y ∧ r = .agg #[I x, I y]) ∧ h' = h := by
  have hv0 := hv
  obtain ⟨b, o, s, rfl, _, h2, _⟩ := hv
  rw [hH] at h2
  have hk128 : k < 128 := by have := rowN_le w8 (y := 2 * H) (by omega); omega
  refine ACall_intro g454 rfl ?_
  unfold fn454
  simp (disch := omega)
  refine awp_loop (fun (y : Nat) σ h' => h' = h ∧ 1 ≤ y ∧ y < 2 * H ∧ rowN W y ≤ k ∧ σ 0 = pt b o ∧ σ 1 = I k ∧ σ 4 = .agg #[I 0, I 0] ∧ σ 5 = I y) (fun y => 2 * H - y) 1 ?_ ?_
  · refine ⟨rfl, by omega, by omega, by simp [rowN], by simp, by simp, by simp, by simp⟩
  · rintro y σ h' ⟨rfl, hy1, hy2, hlo, q0, q1, q4, q5⟩
    have fin : k < rowN W (y + 1) → ACall Gam 455 [pt b o, I y] h' (fun r h'' => r = I (rowN W y) ∧ h'' = h') ∧ IsPt W H k (2 * (k - rowN W y) + 1 + y % 2) y := fun hhi =>
      ⟨c455 h' _ X W y hv0 hW w1 w8 hy1 (by omega), ⟨hy1, hy2, hlo, hhi, rfl⟩⟩
    simp (disch := omega) [q0, q5, h2, wrap64]
    refine fork_dec (fun hlt => ?_) (fun hge => ?_)
    · have hlt' : y + 1 < 2 * H := by omega
      simp (disch := omega) [q0, q1, q5, h2, hlt, wrap64]
      have hc := c455 h' _ X W (y + 1) hv0 hW w1 w8 (by omega) (by omega)
      rw [show ((y + 1 : Nat) : Int) = (y : Int) + 1 by omega] at hc
      refine callW_of hc ?_
      rintro _ h' ⟨rfl, rfl⟩
      simp (disch := omega) [q1, hlt]
      refine fork_dec (fun hle => ?_) (fun hle => ?_)
      · simp (disch := omega) [q0, q1, q4, q5, wrap64]
        exact ⟨y + 1, ⟨by omega, by omega, by omega, by omega⟩, by omega⟩
      · obtain ⟨f1, f2⟩ := fin (by omega)
        simp (disch := omega) [q0, q1, q4, q5]
        refine callW_of f1 ?_
        rintro _ h' ⟨rfl, rfl⟩
        simp (disch := omega) [q0, q1, q4, q5, wrap64, tmod_pos, resOf_box, aField]
        refine ⟨_, y, f2, ?_, rfl⟩
        omega
    · have hye : y + 1 = 2 * H := by omega
      obtain ⟨f1, f2⟩ := fin (by rw [hye]; exact hk)
      simp (disch := omega) [q0, q1, q4, q5, hge]
      refine callW_of f1 ?_
      rintro _ h' ⟨rfl, rfl⟩
      simp (disch := omega) [q0, q1, q4, q5, wrap64, tmod_pos, resOf_box, aField]
      refine ⟨_, y, f2, ?_, rfl⟩
      omega

theorem c40v (h : Heap) (W H x y a W1 p y1 b q r c d e : Int) (s : Value) (h1 : IntKind.i64.wrap (y.tdiv 2) = a) (h2 : IntKind.i64.wrap (W - 1) = W1) (h3 : IntKind.i64.wrap (a * W1) = p) (h4 : IntKind.i64.wrap (y - 1) = y1) (h5 : IntKind.i64.wrap (y1.tdiv 2) = b) (h6 : IntKind.i64.wrap (b * W) = q)
    (h7 : IntKind.i64.wrap (p + q) = r) (h8 : IntKind.i64.wrap (x.tdiv 2) = c) (h9 : IntKind.i64.wrap (r + c) = d) (h10 : IntKind.i64.wrap (d - 1) = e) : ACall Gam 40 [.agg #[I W, I H, s], .agg #[I x, I y]] h fun v h' => v = I (if y.tmod 2 = 1 then e else d) ∧ h' = h := by
  refine ACall_intro g40 rfl ?_
  unfold fn40
  simp only []
  rw [awp_seq, awp_reg]
  generalize hK : seqQ Gam _ _ 0 = K
  simp
  subst hK
  simp only [seqQ_zero]
  rw [awp_seq, awp_reg]
  generalize hK : seqQ Gam _ _ 0 = K
  simp [h1, h2, h3, h4, h5, h6, h7]
  subst hK
  simp
  refine fork_dec (fun ho => ?_) (fun ho => ?_)
  · simp [h8, h9, h10, ho]
  · simp [h8, h9, h10, ho]
theorem c40 (h : Heap) (W H x y : Nat) (s : Value) (w1 : 1 ≤ W) (w8 : W < 9) (hx : 1 ≤ x ∧ x < 17) (hy : 1 ≤ y ∧ y < 17) (hp : (x + y) % 2 = 1) : ACall Gam 40 [.agg #[I W, I H, s], .agg #[I x, I y]] h fun r h' => r = I (numP W x y) ∧ h' = h := by
  have hb := rowN_le w8 (y := y) (by omega)
  have hf := rowN_form w8 (y := y) (by omega) w1 hy.1
  have e1 : (y : Int) / 2 = ((y / 2 : Nat) : Int) := by omega
  have e2 : ((y : Int) - 1) / 2 = (((y - 1) / 2 : Nat) : Int) := by omega
  have hf' : (y : Int) / 2 * ((W : Int) - 1) + ((y : Int) - 1) / 2 * (W : Int) = rowN W y := by rw [e1, e2]; exact hf
  have b1 : 0 ≤ (y : Int) / 2 * ((W : Int) - 1) := Int.mul_nonneg (by omega) (by omega)
  have b2 : 0 ≤ ((y : Int) - 1) / 2 * (W : Int) := Int.mul_nonneg (by omega) (by omega)
  have hrow : (rowN W y : Int) ≤ 128 := by omega
  have u0 : IntKind.i64.wrap ((W : Int) - 1) = (W : Int) - 1 := wrap64 (by omega) (by omega)
  have u1 : IntKind.i64.wrap ((y : Int) - 1) = (y : Int) - 1 := wrap64 (by omega) (by omega)
  have u2 : IntKind.i64.wrap ((y : Int) / 2) = (y : Int) / 2 := wrap64 (by omega) (by omega)
  have u3 : IntKind.i64.wrap (((y : Int) - 1) / 2) = ((y : Int) - 1) / 2 := wrap64 (by omega) (by omega)
  have u4 : IntKind.i64.wrap ((x : Int) / 2) = (x : Int) / 2 := wrap64 (by omega) (by omega)
  have u5 : IntKind.i64.wrap (IntKind.i64.wrap ((y : Int) / 2 * ((W : Int) - 1)) + IntKind.i64.wrap (((y : Int) - 1) / 2 * (W : Int))) = rowN W y := by
    rw [wrap64 (n := (y : Int) / 2 * ((W : Int) - 1)) (by omega) (by omega), wrap64 (n := ((y : Int) - 1) / 2 * (W : Int)) (by omega) (by omega), hf', wrap64 (by omega) (by omega)]
  have t1 : (y : Int).tdiv 2 = (y : Int) / 2 := tdiv_pos (by omega)
  have t2 : ((y : Int) - 1).tdiv 2 = ((y : Int) - 1) / 2 := tdiv_pos (by omega)
  have t3 : (x : Int).tdiv 2 = (x : Int) / 2 := tdiv_pos (by omega)
  have t4 : (y : Int).tmod 2 = (y : Int) % 2 := tmod_pos (by omega)
  refine (c40v h W H x y _ _ _ _ _ _ _ _ _ _ s rfl rfl rfl rfl rfl rfl rfl rfl rfl rfl).mono ?_
  rintro r h' ⟨rfl, rfl⟩
  rw [t1, t3, t4, u2, u0, u1, t2, u3, u5, u4]
  refine ⟨?_, rfl⟩
  split
  · rw [wrap64 (n := (rowN W y : Int) + (x : Int) / 2) (by omega) (by omega), wrap64 (by omega) (by omega)]
    simp [numP]; omega
  · rw [wrap64 (by omega) (by omega)]
    simp [numP]; omega
end Am
/-! AmP12 -/
set_option linter.unusedVariables false
set_option linter.unusedSimpArgs false
set_option maxHeartbeats 4000000
set_option maxRecDepth 4000
namespace Am
open Go

/-! ### where a part lies -/
def hasPart (P : Pan) (x y w h : Int) : Bool := inR w 1 P.1 && (inR h 1 P.2.1 && (inR x 0 (P.1 - w) && inR y 0 (P.2.1 - h)))
/-! ### all points, in order -/
def pairV (p : Nat × Nat) : List Value := [I p.1, I p.2]
def pairsV (l : List (Nat × Nat)) : List Value := (l.map pairV).flatten
theorem pairsV_append (a b : List (Nat × Nat)) : pairsV (a ++ b) = pairsV a ++ pairsV b := by simp [pairsV]
theorem pairsV_len : ∀ l : List (Nat × Nat), (pairsV l).length = 2 * l.length
  | [] => rfl
  | a :: l => by
    have := pairsV_len l
    simp only [pairsV, List.map_cons, List.flatten_cons, List.length_append, List.length_cons] at this ⊢
    simp only [pairV, List.length_cons, List.length_nil] at this ⊢
    omega
theorem append_pair {h h' : Heap} {v : Value} {l : List (Nat × Nat)} {x y : Nat} {K : Value → Heap → Prop} (hp : 0 < h.length) (hl : l.length ≤ 1048576) (hg : Grows h h') (hv : Buf h h' v 2 (pairsV l))
    (hK : ∀ v' h'', Grows h h'' → Buf h h'' v' 2 (pairsV (l ++ [(x, y)])) → K v' h'') :
    bindW (aBuildSlice 2 1 h' [(0, .agg #[I 0, I 0]), (2, .agg #[I x, I y])]) fun y h'' => bindW (aAppend 2 h'' y v) K := by
  have e : aBuildSlice 2 1 h' [(0, .agg #[I 0, I 0]), (2, .agg #[I x, I y])] = some (sl h'.length 0 1 2, h' ++ [⟨[I x, I y], true⟩]) := by simp [aBuildSlice]
  rw [e]
  simp only [bindW_some]
  refine append_buf hp (hg.push _) (hv.grow ⟨_, rfl⟩) (new := [I x, I y]) ?_ (by omega) (by simp) (by simp) (by rw [pairsV_len]; simp [maxSize]; omega) ?_
  · simp [newCells]
    rw [cellsAt_of (k := ⟨[I x, I y], true⟩) (by simp) (by simp)]
    simp
  · intro v' h'' g1 b1 k1
    refine hK v' h'' g1 (by rw [pairsV_append]; exact b1)
theorem pairs_get : ∀ (l : List (Nat × Nat)) (k : Nat) (hk : k < l.length), ((pairsV l).drop (k * 2)).take 2 = pairV l[k]
  | a :: l, 0, _ => by simp [pairsV, pairV]
  | a :: l, k + 1, hk => by
    have := pairs_get l k (by simpa using hk)
    simp only [pairsV, List.map_cons, List.flatten_cons] at this ⊢
    rw [List.drop_append, List.drop_eq_nil_of_le (by simp [pairV]; omega)]
    simp only [pairV, List.length_cons, List.length_nil, List.nil_append] at this ⊢
    rw [show (k + 1) * 2 - (0 + 1 + 1) = k * 2 by omega]
    simpa using this

/-- The first m points, in order. -/
def PtsOk (W H : Nat) (l : List (Nat × Nat)) : Prop := ∀ k (hk : k < l.length), IsPt W H k l[k].1 l[k].2
theorem c49 (h : Heap) (W H : Nat) (s : Value) (hp : 0 < h.length) (w1 : 1 ≤ W) (w8 : W < 9) (h1 : 1 ≤ H) (h8 : H < 9) : ACall Gam 49 [.agg #[I W, I H, s]] h fun r h' => Grows h h' ∧ ∃ l, PtsOk W H l ∧ l.length = rowN W (2 * H) ∧ Buf h h' r 2 (pairsV l) := by
  refine ACall_intro g49 rfl ?_
  unfold fn49
  simp (disch := omega)
  refine awp_loop (fun (y : Nat) σ h' => 1 ≤ y ∧ y ≤ 2 * H ∧ Grows h h' ∧ σ 1 = .agg #[I W, I H, s] ∧ σ 4 = I y ∧ ∃ l, PtsOk W H l ∧ l.length = rowN W y ∧ Buf h h' (σ 3) 2 (pairsV l)) (fun y => 2 * H - y) 1 ?_ ?_
  · exact ⟨by omega, by omega, Grows.refl _, by simp, by simp, [], fun k hk => by simp at hk, by simp [rowN], by simp [pairsV]; exact Buf.nil⟩
  · rintro y σ h' ⟨hy1, hy2, hg, q1, q4, l, hl, hll, hb⟩
    simp (disch := omega) [q1, q4, wrap64]
    refine fork_dec (fun hlt => ?_) (fun hge => ?_)
    · have hy : y < 2 * H := by omega
      have hrs := rowN_succ (W := W) hy1
      have hrb := rowN_le w8 (y := y + 1) (by omega)
      simp (disch := omega) [q1, q4, wrap64, tmod_pos]
      refine awp_loop (fun (j : Nat) σ' h'' => j ≤ W - y % 2 ∧ Grows h h'' ∧ σ' 1 = .agg #[I W, I H, s] ∧ σ' 4 = I y ∧ σ' 5 = I ((1 + y % 2 + 2 * j : Nat) : Int) ∧ ∃ l, PtsOk W H l ∧ l.length = rowN W y + j ∧ Buf h h'' (σ' 3) 2 (pairsV l)) (fun j => W - y % 2 - j) 0 ?_ ?_
      · refine ⟨by omega, hg, by simp [q1], by simp [q4], by simp, l, hl, hll, by simpa using hb⟩
      · rintro j σ' h'' ⟨hj, hg', r1, r4, r5, l, hl, hll, hb⟩
        simp (disch := omega) [r1, r5, wrap64]
        refine fork_dec (fun hlt2 => ?_) (fun hge2 => ?_)
        · have hj2 : j < W - y % 2 := by omega
          obtain ⟨x, hx⟩ : ∃ x, x = 1 + y % 2 + 2 * j := ⟨_, rfl⟩
          rw [← hx] at r5
          simp (disch := omega) [r1, r4, r5]
          refine append_pair (x := x) (y := y) hp (by omega) hg' hb fun v' h3 g3 b3 => ?_
          simp (disch := omega) [r1, r4, r5, wrap64]
          refine ⟨j + 1, ⟨by omega, g3, by omega, l ++ [(x, y)], ?_, by simp [hll]; omega, b3⟩, by omega⟩
          intro k hk
          simp at hk
          by_cases e : k < l.length
          · rw [List.getElem_append_left e]; exact hl k e
          · have : k = l.length := by omega
            subst this
            simp
            refine ⟨hy1, hy, by omega, ?_, by omega⟩
            rw [hrs]; omega
        · have : j = W - y % 2 := by omega
          simp (disch := omega) [r1, r4, wrap64]
          exact ⟨y + 1, ⟨by omega, by omega, hg', by omega, l, hl, by omega, hb⟩, by omega⟩
    · have : y = 2 * H := by omega
      subst this
      have hb' := hb
      rcases hb with ⟨e1, e2⟩ | ⟨b, n, e2, _⟩
      · simp (disch := omega) [e2]
        rw [e2] at hb'
        exact ⟨hg, l, hl, hll, hb'⟩
      · simp (disch := omega) [e2]
        rw [e2] at hb'
        exact ⟨hg, l, hl, hll, hb'⟩
end Am
/-! AmP13 -/
set_option linter.unusedVariables false
set_option linter.unusedSimpArgs false
set_option maxHeartbeats 4000000
set_option maxRecDepth 4000
namespace Am
open Go

open Classical in
/-- The inner point with a number. -/
noncomputable def thePt (W H k : Nat) : Nat × Nat := if e : ∃ p : Nat × Nat, IsPt W H k p.1 p.2 then Classical.choose e else (0, 0)
theorem thePt_eq {W H k x y : Nat} (h : IsPt W H k x y) : thePt W H k = (x, y) := by
  have e : ∃ p : Nat × Nat, IsPt W H k p.1 p.2 := ⟨(x, y), h⟩
  unfold thePt
  rw [dif_pos e]
  have := (Classical.choose_spec e).uniq h
  exact Prod.ext this.1 this.2
/-- The break of a part's point, in the panel. -/
noncomputable def prt (br : List Int) (W w h X Y k : Nat) : Int := at0 br (numP W ((thePt w h k).1 + 2 * X) ((thePt w h k).2 + 2 * Y))
noncomputable def partP (P : Pan) (x y w h : Int) : Pan := (w, h, (List.range (rowN w.toNat (2 * h.toNat))).map fun k => prt P.2.2 P.1.toNat w.toNat h.toNat x.toNat y.toNat k)
noncomputable def partAns (P : Pan) (x y w h : Int) : Pan × Int := if okP P then (if hasPart P x y w h then (partP P x y w h, 0) else ((0, 0, []), 2)) else ((0, 0, []), 1)

theorem inner_row {w h : Nat} (w1 : 1 ≤ w) (w8 : w < 9) (h1 : 1 ≤ h) (h8 : h < 9) : (inner (w : Int) (h : Int)).toNat = rowN w (2 * h) := by
  have := rowN_end w8 h8 w1 h1
  unfold inner
  rw [← this]; simp
theorem at0_rng {br : List Int} (hb : ∀ x ∈ br, 0 ≤ x ∧ x ≤ 2) (i : Nat) : 0 ≤ at0 br i ∧ at0 br i ≤ 2 := by
  unfold at0
  rw [List.getD_eq_getElem?_getD]
  by_cases h : i < br.length
  · rw [List.getElem?_eq_getElem h]
    exact hb _ (List.getElem_mem h)
  · rw [List.getElem?_eq_none (by omega)]; simp
end Am
/-! AmP14 -/
set_option linter.unusedVariables false
set_option linter.unusedSimpArgs false
set_option maxHeartbeats 4000000
set_option maxRecDepth 4000
namespace Am
open Go

theorem IsPt.num {W H k x y : Nat} (a : IsPt W H k x y) : numP W x y = k := by
  have h1 := a.x; have h2 := a.lo; have h3 := a.hi; have h4 := a.y1
  unfold numP; omega
theorem IsPt.ex {W H k : Nat} (w1 : 1 ≤ W) (h1 : 1 ≤ H) (hk : k < rowN W (2 * H)) : ∃ x y, IsPt W H k x y := by
  have key : ∀ m, k < rowN W (m + 1) → ∃ y, 1 ≤ y ∧ y ≤ m ∧ rowN W y ≤ k ∧ k < rowN W (y + 1) := by
    intro m
    induction m with
    | zero => intro h; simp [rowN] at h
    | succ m ih =>
      intro h
      by_cases e : k < rowN W (m + 1)
      · obtain ⟨y, a, b, c, d⟩ := ih e
        exact ⟨y, a, by omega, c, d⟩
      · exact ⟨m + 1, by omega, by omega, by omega, h⟩
  obtain ⟨y, a, b, c, d⟩ := key (2 * H - 1) (by rw [show 2 * H - 1 + 1 = 2 * H by omega]; exact hk)
  exact ⟨_, y, ⟨a, by omega, c, d, rfl⟩⟩

/-- The points of a part that have been put in. -/
noncomputable def inPart (W H w h X Y k : Nat) (j : Nat) : Bool := decide (2 * X < (thePt W H j).1 ∧ (thePt W H j).1 < 2 * X + 2 * w ∧ 2 * Y < (thePt W H j).2 ∧ (thePt W H j).2 < 2 * Y + 2 * h ∧ numP w ((thePt W H j).1 - 2 * X) ((thePt W H j).2 - 2 * Y) < k)
/-- What is put in is what is wanted there. -/
def Fits (f : Nat → Int) (W w h X Y : Nat) (br : List Int) : Prop := ∀ k px py, IsPt w h k px py → k < rowN w (2 * h) → at0 br k = f (numP W (px + 2 * X) (py + 2 * Y))

end Am
/-! AmP16 -/
set_option linter.unusedVariables false
set_option linter.unusedSimpArgs false
set_option maxHeartbeats 4000000
set_option maxRecDepth 4000
namespace Am
open Go

/-- Numbers of which some have been replaced. -/
def fillG (g f : Nat → Int) (P : Nat → Bool) (n : Nat) : List Int := (List.range n).map fun j => if P j then f j else g j
/-! ### the law's two sides -/
noncomputable def pasteF (W H w X Y : Nat) (br : List Int) (i : Nat) : Int := at0 br (numP w ((thePt W H i).1 - 2 * X) ((thePt W H i).2 - 2 * Y))
noncomputable def pasteP (P Q : Pan) (x y : Int) : Pan := (P.1, P.2.1, fillG (at0 P.2.2) (pasteF P.1.toNat P.2.1.toNat Q.1.toNat x.toNat y.toNat Q.2.2) (inPart P.1.toNat P.2.1.toNat Q.1.toNat Q.2.1.toNat x.toNat y.toNat (rowN Q.1.toNat (2 * Q.2.1.toNat))) (rowN P.1.toNat (2 * P.2.1.toNat)))
noncomputable def pasteAns (P : Pan) (x y : Int) (Q : Pan) : Pan × Int := if okP P && okP Q then (if hasPart P x y Q.1 Q.2.1 then (pasteP P Q x y, 0) else ((0, 0, []), 2)) else ((0, 0, []), 1)
end Am
/-! AmD1 -/
set_option linter.unusedVariables false
set_option linter.unusedSimpArgs false
set_option maxHeartbeats 4000000
set_option maxRecDepth 20000
namespace Am
open Go

/-- The digits of a number; none for 0. -/
def decN (n : Nat) : List UInt8 := if h : n = 0 then [] else decN (n / 10) ++ [UInt8.ofNat (48 + n % 10)]
termination_by n
decreasing_by omega
theorem decN_zero : decN 0 = [] := by unfold decN; simp
theorem decN_pos {n : Nat} (h : n ≠ 0) : decN n = decN (n / 10) ++ [UInt8.ofNat (48 + n % 10)] := by
  rw [decN]; rw [dif_neg h]
theorem decN_len (k : Nat) : ∀ n, n < 10 ^ k → (decN n).length ≤ k := by
  induction k with
  | zero => intro n hn; have : n = 0 := by simpa using hn
            subst this; simp [decN_zero]
  | succ k ih =>
    intro n hn
    by_cases h0 : n = 0
    · subst h0; simp [decN_zero]
    · rw [decN_pos h0]
      have := ih (n / 10) (by rw [Nat.pow_succ] at hn; omega)
      simp; omega
theorem decN_pos_len {n : Nat} (h : n ≠ 0) : 0 < (decN n).length := by rw [decN_pos h]; simp
def decS (n : Int) : List UInt8 := if n = 0 then [48] else if n < 0 then 45 :: decN n.natAbs else decN n.natAbs
theorem decN_len64 {n : Int} (hn : I64 n) : (decN n.natAbs).length ≤ 19 := by
  unfold I64 at hn
  have e : 10 ^ 19 = 10000000000000000000 := by decide
  exact decN_len 19 _ (by omega)
/-- A byte before what there is. -/
theorem push_front {h h' : Heap} {v : Value} {l : List UInt8} {x : Int} {c : UInt8} {K : Value → Heap → Prop} (hp : 0 < h.length) (hl : l.length ≤ 1048576) (hg : Grows h h') (hv : Buf h h' v 1 (bytesV l)) (hx : x = c.toNat)
    (hK : ∀ v' h'', Grows h h'' → Buf h h'' v' 1 (bytesV (c :: l)) → K v' h'') :
    bindW (aBuildSlice 1 1 h' [(0, Value.agg #[U 0]), (1, U x)]) fun y h'' => bindW (aAppend 1 h'' v y) K := by
  subst hx
  have e : aBuildSlice 1 1 h' [(0, Value.agg #[U 0]), (1, U (c.toNat : Int))] = some (sl h'.length 0 1 1, h' ++ [⟨bytesV [c], true⟩]) := by simp [aBuildSlice, bytesV]
  rw [e]
  simp only [bindW_some]
  have hb : Buf h (h' ++ [⟨bytesV [c], true⟩]) (sl h'.length 0 1 1) 1 (bytesV [c]) := .inr ⟨h'.length, 1, rfl, by simp [bytesV], hg.le, by simp⟩
  have hn : newCells 1 (h' ++ [⟨bytesV [c], true⟩]) v = some (bytesV l) := by
    obtain ⟨b, o, n, rfl, hn, hr⟩ := (hv.grow (⟨_, rfl⟩ : Grows h' (h' ++ [⟨bytesV [c], true⟩]))).reads
    by_cases h0 : n = 0
    · subst h0
      have : l = [] := by simp [bytesV] at hn; simpa using hn.symm
      subst this; simp [newCells, bytesV]
    · have := hr.resolve_left h0
      simp only [newCells, h0, if_false]
      exact this
  by_cases h0 : l = []
  · subst h0
    have : aAppend 1 (h' ++ [⟨bytesV [c], true⟩]) v (sl h'.length 0 1 1) = some (sl h'.length 0 1 1, h' ++ [⟨bytesV [c], true⟩]) := by
      simp only [aAppend, hn]
      simp [bytesV]
    rw [this]
    exact hK _ _ (hg.push _) hb
  · refine append_buf hp (hg.push _) hb hn (by omega) (by simpa [bytesV] using h0) (by simp) (by simp [bytesV, maxSize]; omega) ?_
    intro v' h'' g1 b1 _
    exact hK v' h'' g1 (by simpa [bytesV] using b1)

theorem dig_eq {r : Int} (h : I64 r) : (0 ≤ r → IntKind.u8.wrap (IntKind.i64.wrap (48 + r.tmod 10)) = ((UInt8.ofNat (48 + r.natAbs % 10)).toNat : Int)) ∧ (r < 0 → IntKind.u8.wrap (IntKind.i64.wrap (48 + (0 - r.tmod 10))) = ((UInt8.ofNat (48 + r.natAbs % 10)).toNat : Int)) := by
  unfold I64 at h
  have e : ((UInt8.ofNat (48 + r.natAbs % 10)).toNat : Int) = 48 + (r.natAbs : Int) % 10 := by
    rw [UInt8.toNat_ofNat']
    omega
  rw [e]
  constructor
  · intro h0
    rw [tmod_pos h0, wrap64 (by omega) (by omega), wrap8 (by omega) (by omega)]
    omega
  · intro h0
    have : r.tmod 10 = -((r.natAbs : Int) % 10) := by
      have e : r = -(r.natAbs : Int) := by omega
      rw [e, Int.neg_tmod, tmod_pos (by omega)]
      omega
    rw [this, wrap64 (by omega) (by omega), wrap8 (by omega) (by omega)]
    omega
theorem quo_eq {r : Int} : (r.tdiv 10).natAbs = r.natAbs / 10 := by
  rw [Int.natAbs_tdiv]; rfl

theorem dec_next {m : Nat} {l acc : List UInt8} (h : decN m ++ acc = l) (h0 : m ≠ 0) : decN (m / 10) ++ (UInt8.ofNat (48 + m % 10) :: acc) = l := by
  rw [← h, decN_pos h0]; simp
theorem c437 (n : Int) (hn : I64 n) (h : Heap) (hp : 0 < h.length) : ACall Gam 437 [I n] h fun r h' => r = S (decS n) ∧ Grows h h' := by
  have hl := decN_len64 hn
  have hn' := hn
  unfold I64 at hn'
  refine ACall_intro g437 rfl ?_
  unfold fn437
  simp (disch := omega)
  refine awp_loop (fun (r : Int) σ h' => I64 r ∧ Grows h h' ∧ σ 0 = I n ∧ σ 4 = I r ∧ ∃ acc, decN r.natAbs ++ acc = decN n.natAbs ∧ Buf h h' (σ 3) 1 (bytesV acc)) (fun r => r.natAbs) n ?_ ?_
  · exact ⟨hn, Grows.refl _, by simp, by simp, [], by simp, by simpa [bytesV] using Buf.nil⟩
  · rintro r σ h' ⟨hr, hg, p0, p4, acc, he, p3⟩
    have hla : (decN r.natAbs).length + acc.length ≤ 19 := by
      have := congrArg List.length he
      rw [List.length_append] at this; omega
    simp (disch := omega) [p4]
    refine fork_dec (fun h0 => ?_) (fun hne => ?_)
    · subst h0
      simp only [Int.natAbs_zero, decN_zero, List.nil_append] at he
      subst he
      have htb := text_buf p3
      obtain ⟨b, o, k, hk, hkn, hrd⟩ := p3.reads
      have hkn' : k = (decN n.natAbs).length := by simpa [bytesV] using hkn
      simp (disch := omega) [hk, p0]
      refine fork_dec (fun hz => ?_) (fun hz => ?_)
      · have : n = 0 := by
          false_or_by_contra
          have := decN_pos_len (n := n.natAbs) (by omega)
          omega
        subst this
        simp (disch := omega) [decS, hg]
      · have hn0 : n ≠ 0 := by
          intro e; subst e; simp [decN_zero] at hkn'; omega
        simp (disch := omega) [hk, p0]
        rw [hk] at htb
        refine fork_dec (fun hz => ?_) (fun hz => ?_)
        · simp (disch := omega) [hk, p0, htb]
          rw [if_pos (by omega)]
          simp [decS, hn0, hz, hg]
        · simp (disch := omega) [hk, p0, htb, decS, hn0, hz, hg]
    · have hr' := hr
      unfold I64 at hr'
      have hm : r.natAbs ≠ 0 := by omega
      have hnx := dec_next he hm
      have hq := quo_eq (r := r)
      obtain ⟨d1, d2⟩ := dig_eq hr
      have hdec : (r.tdiv 10).natAbs < r.natAbs := by omega
      have hi : I64 (r.tdiv 10) := by unfold I64; omega
      have hw : IntKind.i64.wrap (r.tdiv 10) = r.tdiv 10 := wrap64 (by unfold I64 at hi; omega) (by unfold I64 at hi; omega)
      simp (disch := omega) [p4]
      refine fork_dec (fun hlt => ?_) (fun hge => ?_)
      · simp (disch := omega) [p4]
        have hr0 : r < 0 := by
          false_or_by_contra
          rw [tmod_pos (by omega)] at hlt
          omega
        have ha : (r.tmod 10).natAbs = r.natAbs % 10 := Int.natAbs_tmod r 10
        refine push_front (c := UInt8.ofNat (48 + r.natAbs % 10)) hp (by omega) hg p3 (by rw [← d2 hr0, Int.zero_sub, wrap64 (n := -r.tmod 10) (by omega) (by omega)]) ?_
        intro v' h'' g1 b1
        simp (disch := omega) [p4, hw]
        exact ⟨_, ⟨hi, g1, p0, rfl, _, by rw [hq]; exact hnx, b1⟩, by omega⟩
      · simp (disch := omega) [p4]
        have ha : (r.tmod 10).natAbs = r.natAbs % 10 := Int.natAbs_tmod r 10
        have hd : 0 ≤ r ∨ r.tmod 10 = 0 := by
          by_cases h0 : 0 ≤ r
          · exact .inl h0
          · right
            have e : r = -(r.natAbs : Int) := by omega
            rw [e, Int.neg_tmod, tmod_pos (by omega)] at hge ⊢
            omega
        refine push_front (c := UInt8.ofNat (48 + r.natAbs % 10)) hp (by omega) hg p3 (by
          rcases hd with h0 | h0
          · exact d1 h0
          · by_cases h1 : 0 ≤ r
            · exact d1 h1
            · rw [← d2 (by omega), h0]; rfl) ?_
        intro v' h'' g1 b1
        simp (disch := omega) [p4, hw]
        exact ⟨_, ⟨hi, g1, p0, rfl, _, by rw [hq]; exact hnx, b1⟩, by omega⟩

end Am
/-! AmD2 -/
set_option linter.unusedVariables false
set_option linter.unusedSimpArgs false
set_option maxHeartbeats 4000000
set_option maxRecDepth 4000
namespace Am
open Go

/-- Texts with a text between them. -/
def joinS (sep : List UInt8) : List (List UInt8) → List UInt8
  | [] => []
  | a :: r => a ++ r.flatMap fun x => sep ++ x
def okT (t : Trip) : Bool := inR t.1 0 111 && (okBr t.2.1 && okBr t.2.2)
def okD (X : List Trip) : Bool := X.all okT && decide (X.length ≤ 112)
def signB (b : Int) : UInt8 := if b = 1 then 124 else if b = 2 then 45 else 43
def wordT (t : Trip) : List UInt8 := decS t.1 ++ [signB t.2.1, signB t.2.2]
def diffT (X : List Trip) : List UInt8 := joinS [32] (X.map wordT)
def diffText (X : List Trip) : List UInt8 := if okD X then diffT X else []

end Am
/-! AmD3 -/
set_option linter.unusedVariables false
set_option linter.unusedSimpArgs false
set_option maxHeartbeats 4000000
set_option maxRecDepth 4000
namespace Am
open Go

/-- A text is appended to texts. -/
theorem append_word {h h' : Heap} {v : Value} {l : List (List UInt8)} {x : List UInt8} {K : Value → Heap → Prop} (hp : 0 < h.length) (hl : l.length ≤ 1048576) (hg : Grows h h') (hv : Buf h h' v 1 (texts l))
    (hK : ∀ v' h'', Grows h h'' → Buf h h'' v' 1 (texts (l ++ [x])) → K v' h'') :
    bindW (aBuildSlice 1 1 h' [(0, .agg #[S []]), (1, S x)]) fun y h'' => bindW (aAppend 1 h'' y v) K := by
  have e : aBuildSlice 1 1 h' [(0, .agg #[S []]), (1, S x)] = some (sl h'.length 0 1 1, h' ++ [⟨[S x], true⟩]) := by simp [aBuildSlice]
  rw [e]
  simp only [bindW_some]
  refine append_buf hp (hg.push _) (hv.grow ⟨_, rfl⟩) (new := [S x]) ?_ (by omega) (by simp) (by simp) (by simp [texts, maxSize]; omega) ?_
  · simp [newCells]
    rw [cellsAt_of (k := ⟨[S x], true⟩) (by simp) (by simp)]
    simp
  · intro v' h'' g1 b1 _
    exact hK v' h'' g1 (by rw [texts_append]; exact b1)
end Am
/-! AmJ1 -/
set_option linter.unusedVariables false
set_option linter.unusedSimpArgs false
set_option maxHeartbeats 4000000
set_option maxRecDepth 4000
namespace Am
open Go

/-- A step fits a panel with n points. -/
def okStep (n : Nat) (s : Trip) : Bool := inR s.1 0 ((n : Int) - 1) && (okBr s.2.1 && (okBr s.2.2 && !decide (s.2.1 = s.2.2)))
/-- Steps undone, the last one first: none if one does not fit. -/
def runB : List Trip → List Int → Option (List Int)
  | [], br => some br
  | s :: l, br => if okStep br.length s && decide (at0 br s.1.toNat = s.2.2) then runB l (br.set s.1.toNat s.2.1) else none
/-- Steps made. -/
def runF : List Trip → List Int → Option (List Int)
  | [], br => some br
  | s :: l, br => if okStep br.length s && decide (at0 br s.1.toNat = s.2.1) then runF l (br.set s.1.toNat s.2.2) else none
def okJ (X : Jrn) : Bool := okP X.1 && (decide (X.2.1.length + X.2.2.length ≤ 50) && ((runB X.2.1.reverse X.1.2.2).isSome && (runF X.2.2 X.1.2.2).isSome))

/-- A pointer to a journal. -/
def PtJ (h : Heap) (v : Value) (X : Jrn) : Prop := ∃ b o s sp sf, v = pt b o ∧ cellsAt h b o 5 = some [I X.1.1, I X.1.2.1, s, sp, sf] ∧ Vr h shInts s X.1.2.2 ∧ Vr h shTrips sp X.2.1 ∧ Vr h shTrips sf X.2.2 ∧ I64 X.1.1 ∧ I64 X.1.2.1
theorem PtJ.grow {h h' : Heap} {v : Value} {X : Jrn} (x : PtJ h v X) (g : Grows h h') : PtJ h' v X := by
  obtain ⟨b, o, s, sp, sf, e, h1, h2, h3, h4, h5⟩ := x
  exact ⟨b, o, s, sp, sf, e, g.cellsAt h1, h2.grow g, h3.grow g, h4.grow g, h5⟩
theorem PtJ.of {h : Heap} {b : Nat} {W H : Int} {s sp sf : Value} {br : List Int} {p f : List Trip} {r : Bool} (hb : h[b]? = some ⟨[I W, I H, s, sp, sf], r⟩) (h1 : Vr h shInts s br) (h2 : Vr h shTrips sp p) (h3 : Vr h shTrips sf f) (w1 : I64 W) (w2 : I64 H) : PtJ h (pt b 0) ((W, H, br), p, f) :=
  ⟨b, 0, s, sp, sf, rfl, cellsAt_all hb rfl, h1, h2, h3, w1, w2⟩
theorem PtJ.panel {h : Heap} {b o : Nat} {X : Jrn} (x : PtJ h (pt b o) X) : PtP h (pt b o) X.1 := by
  obtain ⟨b, o, s, sp, sf, e, h1, h2, h3, h4, w1, w2⟩ := x
  injection e with e; injection e with e; injection e with e1 e2; subst e1; subst e2
  have k0 := (cell_in (i := 0) h1 (by omega)).1
  have k1 := (cell_in (i := 1) h1 (by omega)).1
  have k2 := (cell_in (i := 2) h1 (by omega)).1
  exact ⟨_, _, s, rfl, by simpa using k0, by simpa using k1, by simpa using k2, h2, w1, w2⟩

end Am

/- Contracts: UnpackPanel and ImageFault. -/
import Derived.Test.YtpdhmojncndobaaAmP9
set_option linter.unusedVariables false
set_option linter.unusedSimpArgs false
set_option maxHeartbeats 4000000
set_option maxRecDepth 4000
namespace Am
open Go

theorem aSlice_hi {h : Heap} {l : List UInt8} {k : IntKind} {n : Int} (h0 : 0 ≤ n) (h1 : n.toNat ≤ l.length) : aSlice 0 h (S l) none (some (.int k n)) none = some (S (l.take n.toNat), h) := by
  simp [aSlice, bound, h0, ByteArray.size, h1]
theorem aSlice_lo {h : Heap} {l : List UInt8} {k : IntKind} {n : Int} (h0 : 0 ≤ n) (h1 : n.toNat ≤ l.length) : aSlice 0 h (S l) (some (.int k n)) none none = some (S (l.drop n.toNat), h) := by
  simp [aSlice, bound, h0, ByteArray.size, h1]
theorem aSlice_both {h : Heap} {l : List UInt8} {k j : IntKind} {n m : Int} (h0 : 0 ≤ n) (h2 : 0 ≤ m) (h1 : m.toNat ≤ l.length) (h3 : n.toNat ≤ m.toNat) : aSlice 0 h (S l) (some (.int k n)) (some (.int j m)) none = some (S ((l.take m.toNat).drop n.toNat), h) := by
  simp [aSlice, bound, h0, h2, ByteArray.size, h1, h3]

theorem store_box {h : Heap} {cs xs : List Value} (hl : xs.length = cs.length) : storeAt (h ++ [⟨cs, true⟩]) h.length 0 xs = some (h ++ [⟨xs, true⟩]) := by
  unfold storeAt
  simp [hl]
theorem PtP.at {h : Heap} {b : Nat} {W H : Int} {s : Value} {br : List Int} {r : Bool} (hb : h[b]? = some ⟨[I W, I H, s], r⟩) (hs : Vr h shInts s br) (hW : I64 W) (hH : I64 H) : PtP h (pt b 0) (W, H, br) :=
  ⟨b, 0, s, rfl, by simp [Am.cell, hb], by simp [Am.cell, hb], by simp [Am.cell, hb], hs, hW, hH⟩
theorem c566 (h : Heap) (s : List UInt8) (h2 : 2 ≤ s.length) (hs : s.length ≤ 1048576) : ACall Gam 566 [S s] h fun r h' => r = B (sumOk s) ∧ h' = h := by
  have l1 : s.length - 2 < s.length := by omega
  have l2 : s.length - 1 < s.length := by omega
  obtain ⟨a1, a2⟩ := bn_at l1
  obtain ⟨b1, b2⟩ := bn_at l2
  have t1 := bn_lt s (s.length - 2)
  have t2 := bn_lt s (s.length - 1)
  have e1 : ((s.length : Int) - 2).toNat = s.length - 2 := by omega
  have e2 : ((s.length : Int) - 1).toNat = s.length - 1 := by omega
  have e3 : ¬ (s.length : Int) < 2 := by omega
  have i1 : (s.length : Int) - 2 < s.length := by omega
  have i2 : (s.length : Int) - 1 < s.length := by omega
  have j1 : (0 : Int) ≤ (s.length : Int) - 2 := by omega
  have j2 : (0 : Int) ≤ (s.length : Int) - 1 := by omega
  have k1 : (2 : Int) ≤ s.length := by omega
  have k2 : (1 : Int) ≤ s.length := by omega
  have sl := aSlice_hi (h := h) (l := s) (k := .i64) j1 (by omega)
  rw [e1] at sl
  refine ACall_intro g566 rfl ?_
  unfold fn566
  simp (disch := omega) [e3, wrap64, sl]
  refine callW_of (c573 (s.take (s.length - 2)) (by simp; omega) h) ?_
  rintro _ h' ⟨rfl, rfl⟩
  simp (disch := omega) [e1, e2, i1, i2, j1, j2, k1, k2, a1, b1, a2, b2, wrap64]
  simp [sumOk]

theorem c574 (h : Heap) (hp : 0 < h.length) (s : List UInt8) (hs : s.length ≤ 1048576) : ACall Gam 574 [S s] h fun r h' => Grows h h' ∧ ∃ r0, r = .tuple #[r0, I (fault s)] ∧ Vo h' h.length h'.length shPanel r0 (if fault s = 0 then unP s else (0, 0, [])) := by
  have bad : ∀ c : Int, fault s = c → c ≠ 0 → (if fault s = 0 then unP s else ((0, 0, []) : Pan)) = (0, 0, []) := fun c hc hn => by rw [hc, if_neg hn]
  refine ACall_intro g574 rfl ?_
  unfold fn574
  simp (disch := omega)
  refine fork_dec (fun h5 => ?_) (fun h5 => ?_)
  · have e : fault s = 1 := by unfold fault; rw [if_pos (.inl (by omega))]
    rw [bad 1 e (by decide), e]
    simp (disch := omega) [h5, resOf, resAll, resOne, aField]
    exact ⟨Grows.refl _, Vo.zero_panel⟩
  have l0 : 0 < s.length := by omega
  have l1 : 1 < s.length := by omega
  have l2 : 2 < s.length := by omega
  obtain ⟨z1, z2⟩ := bn_at l0
  obtain ⟨a1, a2⟩ := bn_at l1
  obtain ⟨b1, b2⟩ := bn_at l2
  have t0 := bn_lt s 0
  have t1 := bn_lt s 1
  have t2 := bn_lt s 2
  have i0 : (0 : Int) < s.length := by omega
  have i1 : (1 : Int) < s.length := by omega
  have i2 : (2 : Int) < s.length := by omega
  simp (disch := omega) [h5, l0, i1, i2, z1, z2, a1, b1, a2, b2, wrap64]
  refine fork_dec (fun hM => ?_) (fun hM => ?_)
  rotate_left
  · have e : fault s = 1 := by unfold fault; rw [if_pos (.inr (.inl (by omega)))]
    rw [bad 1 e (by decide), e]
    simp (disch := omega) [h5, hM, resOf, resAll, resOne, aField]
    exact ⟨Grows.refl _, Vo.zero_panel⟩
  simp (disch := omega) [h5, hM, l0, i1, i2, z1, z2, a1, b1, a2, b2, wrap64]
  refine callW_of (c457 (bn s 1) h) ?_
  rintro _ h' ⟨rfl, rfl⟩
  cases q1 : inR (bn s 1) 1 8
  · have e : fault s = 1 := by unfold fault; rw [if_pos (.inr (.inr (by simp [okSz, q1])))]
    rw [bad 1 e (by decide), e]
    simp (disch := omega) [resOf, resAll, resOne, aField]
    exact ⟨Grows.refl _, Vo.zero_panel⟩
  simp (disch := omega) [l0, i1, i2, z1, z2, a1, b1, a2, b2, wrap64]
  refine callW_of (c457 (bn s 2) h') ?_
  rintro _ h' ⟨rfl, rfl⟩
  cases q2 : inR (bn s 2) 1 8
  · have e : fault s = 1 := by unfold fault; rw [if_pos (.inr (.inr (by simp [okSz, q2])))]
    rw [bad 1 e (by decide), e]
    simp (disch := omega) [resOf, resAll, resOne, aField]
    exact ⟨Grows.refl _, Vo.zero_panel⟩
  have qW := inR_iff.1 q1
  have qH := inR_iff.1 q2
  have q : okSz (bn s 1) (bn s 2) = true := by simp [okSz, q1, q2]
  have hi := inner_bd qW qH
  have n1 : ¬ (s.length < 5 ∨ bn s 0 ≠ 77 ∨ okSz (bn s 1) (bn s 2) = false) := by simp [q]; omega
  simp (disch := omega) [l0, i1, i2, z1, z2, a1, b1, a2, b2, wrap64]
  refine callW_of (c572 (bn s 1) (bn s 2) qW qH h') ?_
  rintro _ h' ⟨rfl, rfl⟩
  simp (disch := omega)
  refine fork_dec (fun hl => ?_) (fun hl => ?_)
  rotate_left
  · have e : fault s = 2 := by unfold fault; rw [if_neg n1, if_pos hl]
    rw [bad 2 e (by decide), e]
    simp (disch := omega) [resOf, resAll, resOne, aField]
    exact ⟨Grows.refl _, Vo.zero_panel⟩
  simp (disch := omega)
  refine callW_of (c566 h' s (by omega) hs) ?_
  rintro _ h' ⟨rfl, rfl⟩
  cases q3 : sumOk s
  · have e : fault s = 3 := by unfold fault; rw [if_neg n1, if_neg (by simpa using hl), if_pos q3]
    rw [bad 3 e (by decide), e]
    simp (disch := omega) [resOf, resAll, resOne, aField]
    exact ⟨Grows.refl _, Vo.zero_panel⟩
  simp (disch := omega)
  refine callW_of (c450 h' (bn s 1) (bn s 2) qW qH hp) ?_
  rintro _ h1 ⟨g1, o1⟩
  obtain ⟨so, rfl, w1, w2, o1⟩ := o1.panel
  obtain ⟨bb, zz, rfl, hz, hm, hx, hc⟩ := o1.ints
  obtain ⟨n, hn⟩ : ∃ n, n = (inner (bn s 1) (bn s 2)).toNat := ⟨_, rfl⟩
  rw [← hn] at hz hc ⊢
  simp only [List.length_replicate] at hc ⊢
  have hps : (s.length : Int) = 5 + (inner (bn s 1) (bn s 2) + 4) / 5 := hl
  have hlen : s.length = 5 + (n + 4) / 5 := by omega
  have hn112 : n ≤ 112 := by omega
  have hsb : storeAt (h1 ++ [⟨[I 0, I 0, sl 0 0 0 0], true⟩]) h1.length 0 [I (bn s 1), I (bn s 2), sl bb 0 n zz] = some (h1 ++ [⟨[I (bn s 1), I (bn s 2), sl bb 0 n zz], true⟩]) := store_box rfl
  simp (disch := omega) [hsb]
  obtain ⟨hB, ehB⟩ : ∃ hB, hB = h1 ++ [⟨[I (bn s 1), I (bn s 2), sl bb 0 n zz], true⟩] := ⟨_, rfl⟩
  rw [← ehB]
  have gB : Grows h1 hB := ⟨_, ehB⟩
  have lB : hB.length = h1.length + 1 := by rw [ehB]; simp
  have kB : hB[h1.length]? = some ⟨[I (bn s 1), I (bn s 2), sl bb 0 n zz], true⟩ := by rw [ehB]; simp
  refine awp_loop (fun (q : Nat) σ hh => 5 * q ≤ n + 4 ∧ Grows h' hh ∧ σ 0 = S s ∧ σ 2 = .agg #[I 0, I 0, sl 0 0 0 0] ∧ σ 6 = pt h1.length 0 ∧ σ 7 = I ((3 + q : Nat) : Int) ∧ hh[h1.length]? = some ⟨[I (bn s 1), I (bn s 2), sl bb 0 n zz], true⟩ ∧
    (n = 0 ∨ hh[bb]? = some ⟨ints (fillB (fun j => (brk s j : Nat)) (fun j => decide (j < 5 * q)) n), true⟩)) (fun q => n + 4 - 5 * q) 0 ?_ ?_
  · refine ⟨by omega, g1.trans gB, by simp, by simp, by simp, by simp, kB, ?_⟩
    rcases hc with hc | hc
    · left; simpa using hc
    · right; rw [fillB_none _ _ _ (by simp)]; exact gB.at hc.1
  · rintro k σ hh ⟨hk, hg, p0, p2, p6, p7, kb, hb⟩
    simp (disch := omega) [p0, p7, wrap64]
    refine fork_dec (fun hlt => ?_) (fun hge => ?_)
    · have hnz : n ≠ 0 := by omega
      have hb := hb.resolve_left hnz
      have hbb : h'.length ≤ bb ∧ bb < h1.length := by
        rcases hc with hc | hc
        · simp at hc; omega
        · exact hc.2
      have lk : 3 + k < s.length := by omega
      obtain ⟨d1, d2⟩ := bn_at lk
      have t3 := bn_lt s (3 + k)
      have ei : (3 + (k : Int)).toNat = 3 + k := by omega
      have ec : 3 + (k : Int) < s.length := by omega
      have ec0 : (0 : Int) ≤ 3 + (k : Int) := by omega
      simp (disch := omega) [p0, p7, ei, ec, ec0, d1, d2, wrap64]
      refine awp_loop (fun (m : Nat) σ' h'' => m ≤ 5 ∧ Grows h' h'' ∧ σ' 0 = S s ∧ σ' 2 = .agg #[I 0, I 0, sl 0 0 0 0] ∧ σ' 6 = pt h1.length 0 ∧ σ' 7 = I ((3 + k : Nat) : Int) ∧ σ' 9 = I ((m : Int) - 1) ∧ σ' 8 = I ((dv (bn s (3 + k)) (5 - m) : Nat) : Int) ∧ h''[h1.length]? = some ⟨[I (bn s 1), I (bn s 2), sl bb 0 n zz], true⟩ ∧
        h''[bb]? = some ⟨ints (fillB (fun j => (brk s j : Nat)) (fun j => decide (j < 5 * k ∨ 5 * k + m ≤ j ∧ j < 5 * k + 5)) n), true⟩) (fun m => m) 5 ?_ ?_
      · refine ⟨by omega, hg, by simp [p0], by simp [p2], by simp [p6], by simp [p7], by simp, by simp [dv_zero], kb, ?_⟩
        rw [hb]
        congr 3
        exact fillB_same fun j _ => by
          by_cases h1 : j < 5 * k
          · simp [h1]
          · simp [h1]
      · rintro m σ' h'' ⟨hm5, hg', r0, r2, r6, r7, r9, r8, kb', hb'⟩
        simp (disch := omega) [r9]
        refine fork_dec (fun hm0 => ?_) (fun hm0 => ?_)
        · obtain ⟨m, rfl⟩ : ∃ m', m = m' + 1 := ⟨m - 1, by omega⟩
          have ex : 5 - (m + 1) = 4 - m := by omega
          rw [ex] at r8
          obtain ⟨x, hx⟩ : ∃ x, x = dv (bn s (3 + k)) (4 - m) := ⟨_, rfl⟩
          have hxl : x < 256 := by rw [hx]; exact Nat.lt_of_le_of_lt (dv_le _ _) t3
          rw [← hx] at r8
          have hx2 : dv (bn s (3 + k)) (5 - m) = x / 3 := by
            have : 5 - m = 4 - m + 1 := by omega
            rw [this, dv_succ, ← hx]
          have em : ((m : Int) + 1 - 1) = m := by omega
          have e5 : 5 * (3 + (k : Int) - 3) + m = ((5 * k + m : Nat) : Int) := by omega
          have cl : cell h'' h1.length 2 = some (sl bb 0 n zz) := by simp [cell, kb']
          simp (disch := omega) [r6, r7, r9, em, cl, wrap64]
          have e6 : 5 * (3 + (k : Int) - 3) + (m : Int) = 5 * k + m := by omega
          rw [e6]
          refine fork_dec (fun hat => ?_) (fun hat => ?_)
          · have hat' : 5 * k + m < n := by omega
            have hv : (x : Int) % 3 = ((brk s (5 * k + m) : Nat) : Int) := by
              have a : (5 * k + m) / 5 = k := by omega
              have b : (5 * k + m) % 5 = m := by omega
              unfold brk
              rw [a, b, ← hx]; simp
            have hst := store_fill (P' := fun j => decide (j < 5 * k ∨ 5 * k + m ≤ j ∧ j < 5 * k + 5)) (v := (x : Int) % 3) hb' hat' hv (by
              intro j _
              rw [Bool.eq_iff_iff]
              simp only [decide_eq_true_eq, Bool.or_eq_true, beq_iff_eq]
              omega)
            have et : (5 * (k : Int) + m).toNat = 5 * k + m := by omega
            have c0 : (0 : Int) ≤ 5 * k + m := by omega
            have c1 : 5 * (k : Int) + m < n := by omega
            simp (disch := omega) [r0, r2, r6, r7, r8, r9, em, cl, tmod_pos, et, c0, c1, hst, wrap64, e6, tdiv_pos]
            refine ⟨m, ⟨by omega, hg'.put hbb.1 _, rfl, by rw [hx2]; omega, ?_⟩, by omega⟩
            first
              | exact kb'
              | exact ⟨kb', by simp [at_lt hb']⟩
              | exact ⟨by rw [List.getElem?_set_ne (by omega)]; exact kb', by simp [at_lt hb']⟩
          · simp (disch := omega) [r0, r2, r6, r7, r8, r9, em, cl, tdiv_pos, wrap64]
            refine ⟨m, ⟨by omega, hg', rfl, by rw [hx2]; omega, kb', ?_⟩, by omega⟩
            rw [hb']
            congr 3
            exact fillB_same fun j hj => by
              rw [Bool.eq_iff_iff]
              simp only [decide_eq_true_eq, Bool.or_eq_true, Bool.and_eq_true]
              omega
        · have : m = 0 := by omega
          subst this
          simp (disch := omega) [r0, r2, r6, r7, wrap64]
          refine ⟨k + 1, ⟨by omega, hg', by omega, kb', .inr ?_⟩, by omega⟩
          rw [hb']
          congr 3
          exact fillB_same fun j hj => by
            rw [Bool.eq_iff_iff]
            simp only [decide_eq_true_eq, Bool.or_eq_true, Bool.and_eq_true]
            omega
    · have hend : n ≤ 5 * k := by omega
      have hu : unP s = (((bn s 1 : Nat) : Int), ((bn s 2 : Nat) : Int), unB s n) := by rw [hn]; rfl
      have hul : (unB s n).length = n := by simp [unB]
      have hfill : fillB (fun j => ((brk s j : Nat) : Int)) (fun j => decide (j < 5 * k)) n = unB s n := fillB_all _ _ _ fun j hj => by
        rw [decide_eq_true_eq]; omega
      have ho : Vo hh h'.length hh.length shInts (sl bb 0 n zz) (unB s n) := by
        have := Vo.of_ints (h := hh) (b := bb) (lo := h'.length) (hi := hh.length) (z := zz) (X := unB s n) (by
          rcases hz with e | ⟨e, e'⟩
          · exact .inl e
          · have : n = 0 := by simpa using e'
            exact .inr ⟨e, by rw [this]; rfl⟩) (by rw [hul, maxLen_eq]; omega) (by
          intro x hx
          obtain ⟨j, _, rfl⟩ := List.mem_map.1 hx
          have : brk s j < 3 := Nat.mod_lt _ (by decide)
          unfold I64; omega) (by
          rcases hb with e | e
          · exact .inl (by rw [e]; rfl)
          · rw [hfill] at e
            by_cases hk0 : n = 0
            · exact .inl (by rw [hk0]; rfl)
            · refine .inr ⟨e, ?_, at_lt e⟩
              rcases hc with hc | hc
              · simp at hc; omega
              · exact hc.2.1)
        rw [hul] at this
        exact this
      have hov := Vo.of_panel w1 w2 ho
      rw [← hu] at hov
      have hpt : PtP hh (pt h1.length 0) (unP s) := by
        rw [hu]; exact PtP.at kb ho.vr w1 w2
      simp (disch := omega) [p0, p2, p6]
      refine callW_of (c571 _ (unP s) hh (pos_of hp hg) hpt (unP_ok q)) ?_
      rintro _ h2 ⟨rfl, g2⟩
      refine ⟨fun _ => g2, ?_⟩
      simp (disch := omega) [p0, p2, p6]
      refine fork_dec (fun hpk => ?_) (fun hpk => ?_)
      · have e : fault s = 0 := by unfold fault; rw [if_neg n1, if_neg (by simpa using hl), if_neg (by simp [q3]), if_neg (by simpa using hpk)]
        have hov2 := (hov.grow g2).wide (Nat.le_refl _) g2.le
        have kb2 : cellsAt h2 h1.length 0 3 = some [I (bn s 1), I (bn s 2), sl bb 0 n zz] := by rw [cellsAt_of (g2.at kb) (by simp)]; simp
        rw [e, if_pos rfl]
        simp (disch := omega) [p0, p2, p6, kb2, resOf, resAll, resOne, aField]
        exact ⟨hg.trans g2, hov2⟩
      · have e : fault s = 4 := by unfold fault; rw [if_neg n1, if_neg (by simpa using hl), if_neg (by simp [q3]), if_pos hpk]
        rw [bad 4 e (by decide), e]
        simp (disch := omega) [p0, p2, p6, resOf, resAll, resOne, aField]
        exact ⟨hg.trans g2, Vo.zero_panel⟩

theorem c426 (h : Heap) (hp : 0 < h.length) (s : List UInt8) (hs : s.length ≤ 1048576) : ACall Gam 426 [S s] h fun r h' => Grows h h' ∧ ∃ r0, r = .tuple #[r0, I (unAns s).2] ∧ Vo h' h.length h'.length shPanel r0 (unAns s).1 ∧ siz shPanel (unAns s).1 ≤ 16777216 := by
  have hz := unAns_siz s
  refine ACall_intro g426 rfl ?_
  unfold fn426
  simp (disch := omega)
  refine callW_of (c574 h hp s hs) ?_
  rintro _ h1 ⟨g1, r0, rfl, o⟩
  by_cases q : fault s = 0
  rotate_left
  · have e : unAns s = ((0, 0, []), 8) := by
      have : ¬ unOk s = true := fun h => q ((fault_zero s).2 h)
      simp [unAns, this]
    rw [e] at hz ⊢
    obtain ⟨x, y, z, rfl⟩ := o.vr.panel3
    simp (disch := omega) [q, resOf, resAll, resOne, aField]
    exact ⟨g1, Vo.zero_panel, hz⟩
  · have e : unAns s = (unP s, 0) := by simp [unAns, (fault_zero s).1 q]
    rw [e] at hz ⊢
    rw [if_pos q] at o
    rw [q]
    obtain ⟨x, y, z, rfl⟩ := o.vr.panel3
    have o2 := o
    obtain ⟨so, e3, w1, w2, o3⟩ := o2.panel
    obtain ⟨bb, zz, e4, _⟩ := o3.ints
    simp only [Value.agg.injEq, Array.mk.injEq, List.cons.injEq] at e3
    obtain ⟨rfl, rfl, rfl, _⟩ := e3
    subst e4
    simp (disch := omega) [resOf, resAll, resOne, aField]
    exact ⟨g1, o, hz⟩
theorem c381 (h : Heap) (hp : 0 < h.length) (s : List UInt8) (hs : s.length ≤ 1048576) : ACall Gam 381 [S s] h fun r h' => Grows h h' ∧ r = I (fault s) := by
  refine ACall_intro g381 rfl ?_
  unfold fn381
  simp (disch := omega)
  refine callW_of (c574 h hp s hs) ?_
  rintro _ h1 ⟨g1, r0, rfl, o⟩
  obtain ⟨x, y, z, rfl⟩ := o.vr.panel3
  simp (disch := omega)
  exact g1
theorem c88 (h : Heap) (hp : 0 < h.length) (s : List UInt8) (hs : s.length ≤ 1048576) : ACall Gam 88 [S s] h fun r h' => Grows h h' ∧ r = I (fault s) := by
  refine ACall_intro g88 rfl ?_
  unfold fn88
  simp (disch := omega)
  refine fork_dec (fun h5 => ?_) (fun h5 => ?_)
  · have e : fault s = 1 := by unfold fault; rw [if_pos (.inl (by omega))]
    simp (disch := omega) [h5, e, Grows.refl]
  have l0 : 0 < s.length := by omega
  have l1 : 1 < s.length := by omega
  have l2 : 2 < s.length := by omega
  obtain ⟨z1, z2⟩ := bn_at l0
  obtain ⟨a1, a2⟩ := bn_at l1
  obtain ⟨b1, b2⟩ := bn_at l2
  have t0 := bn_lt s 0
  have t1 := bn_lt s 1
  have t2 := bn_lt s 2
  have i1 : (1 : Int) < s.length := by omega
  have i2 : (2 : Int) < s.length := by omega
  simp (disch := omega) [h5, l0, i1, i2, z1, z2, a1, b1, a2, b2, wrap64]
  refine fork_dec (fun hM => ?_) (fun hM => ?_)
  rotate_left
  · have e : fault s = 1 := by unfold fault; rw [if_pos (.inr (.inl (by omega)))]
    simp (disch := omega) [h5, hM, e, Grows.refl]
  simp (disch := omega) [h5, hM, l0, i1, i2, z1, z2, a1, b1, a2, b2, wrap64]
  refine callW_of (c198 (bn s 1) (bn s 2) h) ?_
  rintro _ h' ⟨rfl, rfl⟩
  cases q : okSz (bn s 1) (bn s 2)
  · have e : fault s = 1 := by unfold fault; rw [if_pos (.inr (.inr q))]
    simp (disch := omega) [e, Grows.refl]
  obtain ⟨qW, qH⟩ := okSz_iff.1 q
  have hi := inner_bd qW qH
  have n1 : ¬ (s.length < 5 ∨ bn s 0 ≠ 77 ∨ okSz (bn s 1) (bn s 2) = false) := by simp [q]; omega
  simp (disch := omega) [l0, i1, i2, z1, z2, a1, b1, a2, b2, wrap64]
  refine callW_of (c181 (bn s 1) (bn s 2) qW qH h') ?_
  rintro _ h' ⟨rfl, rfl⟩
  simp (disch := omega)
  refine fork_dec (fun hl => ?_) (fun hl => ?_)
  rotate_left
  · have e : fault s = 2 := by unfold fault; rw [if_neg n1, if_pos hl]
    simp (disch := omega) [e, Grows.refl]
  have e1 : ((s.length : Int) - 2).toNat = s.length - 2 := by omega
  have sl := aSlice_hi (h := h') (l := s) (k := .i64) (n := (s.length : Int) - 2) (by omega) (by omega)
  rw [e1] at sl
  simp (disch := omega) [wrap64, sl]
  have hps : (s.length : Int) = 5 + (inner (bn s 1) (bn s 2) + 4) / 5 := hl
  refine callW_of (c191 (s.take (s.length - 2)) (by simp; omega) h') ?_
  rintro _ h1 ⟨rfl, g1⟩
  simp (disch := omega)
  refine fork_dec (fun hd => ?_) (fun hd => ?_)
  rotate_left
  · have q3 : sumOk s = false := by
      cases hq : sumOk s
      · rfl
      · exact absurd ((sum_ended (by omega)).2 hq) hd
    have e : fault s = 3 := by unfold fault; rw [if_neg n1, if_neg (by simpa using hl), if_pos q3]
    simp (disch := omega) [e, g1]
  have q3 : sumOk s = true := (sum_ended (by omega)).1 hd
  simp (disch := omega)
  refine callW_of (c195 h1 (pos_of hp g1) s hs) ?_
  rintro _ h2 ⟨g2, r0, rfl, o⟩
  obtain ⟨x, y, z, rfl⟩ := o.vr.panel3
  have e5 : lenOk s = true := by simp [lenOk, q, hl]; omega
  by_cases hpk : packP (unP s) = s
  · have e : fault s = 0 := by unfold fault; rw [if_neg n1, if_neg (by simpa using hl), if_neg (by simp [q3]), if_neg (by simpa using hpk)]
    have e6 : unOk s = true := (fault_zero s).1 e
    rw [e6]
    simp (disch := omega) [e]
    exact g1.trans g2
  · have e : fault s = 4 := by unfold fault; rw [if_neg n1, if_neg (by simpa using hl), if_neg (by simp [q3]), if_pos hpk]
    have e6 : unOk s = false := by simp [unOk, hpk]
    rw [e6]
    simp (disch := omega) [e]
    exact g1.trans g2
end Am

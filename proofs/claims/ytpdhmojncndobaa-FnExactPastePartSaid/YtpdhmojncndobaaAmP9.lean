/- Contracts: panels read back from their packed forms. -/
import Derived.Test.YtpdhmojncndobaaAmP2
import Derived.Test.YtpdhmojncndobaaAmP3
set_option linter.unusedVariables false
set_option linter.unusedSimpArgs false
set_option maxHeartbeats 4000000
set_option maxRecDepth 4000
namespace Am
open Go

/-! ### numbers written one by one -/
def fillB (f : Nat → Int) (P : Nat → Bool) (n : Nat) : List Int := (List.range n).map fun j => if P j then f j else 0
theorem fillB_len (f : Nat → Int) (P : Nat → Bool) (n : Nat) : (fillB f P n).length = n := by simp [fillB]
theorem fillB_set {f : Nat → Int} {P P' : Nat → Bool} {n k : Nat} (h : ∀ j, j < n → P' j = (P j || j == k)) : (fillB f P n).set k (f k) = fillB f P' n := by
  apply List.ext_getElem
  · simp [fillB]
  · intro i h1 h2
    simp [fillB] at h1 h2 ⊢
    rw [List.getElem_set]
    simp only [List.getElem_map, List.getElem_range]
    have := h i h2
    by_cases e : k = i
    · subst e; simp [this]
    · have e' : ¬ i = k := fun h => e h.symm
      simp [e, this, e']
theorem fillB_none (f : Nat → Int) (P : Nat → Bool) (n : Nat) (h : ∀ j, j < n → P j = false) : fillB f P n = List.replicate n 0 := by
  apply List.ext_getElem
  · simp [fillB]
  · intro i h1 h2
    simp [fillB] at h1 ⊢
    simp [h i h1]
theorem fillB_all (f : Nat → Int) (P : Nat → Bool) (n : Nat) (h : ∀ j, j < n → P j = true) : fillB f P n = (List.range n).map f := by
  apply List.map_congr_left
  intro i hi
  simp [h i (List.mem_range.1 hi)]
theorem fillB_same {f : Nat → Int} {P P' : Nat → Bool} {n : Nat} (h : ∀ j, j < n → P j = P' j) : fillB f P n = fillB f P' n := by
  apply List.map_congr_left
  intro i hi
  rw [h i (List.mem_range.1 hi)]
theorem store_fill {h : Heap} {b k n : Nat} {f : Nat → Int} {P P' : Nat → Bool} {v : Int} (hb : h[b]? = some ⟨ints (fillB f P n), true⟩) (hk : k < n) (hv : v = f k) (hp : ∀ j, j < n → P' j = (P j || j == k)) :
    storeAt h b k [I v] = some (h.set b ⟨ints (fillB f P' n), true⟩) := by
  rw [store_one hb (by simp [ints, fillB_len]; exact hk), ← fillB_set hp, hv]
  simp [ints, List.map_set]

/-! ### the bytes -/
def bn (s : List UInt8) (i : Nat) : Nat := (s.getD i 0).toNat
theorem bn_lt (s : List UInt8) (i : Nat) : bn s i < 256 := UInt8.toNat_lt _
theorem bn_at {s : List UInt8} {i : Nat} (h : i < s.length) : s[i]? = some s[i] ∧ s[i].toNat = bn s i := by simp [bn, h]
def dv (x j : Nat) : Nat := x / 3 ^ j
theorem dv_succ (x j : Nat) : dv x (j + 1) = dv x j / 3 := by unfold dv; rw [Nat.pow_succ, Nat.div_div_eq_div_mul]
theorem dv_zero (x : Nat) : dv x 0 = x := by simp [dv]
theorem dv_le (x j : Nat) : dv x j ≤ x := Nat.div_le_self _ _
def brk (s : List UInt8) (k : Nat) : Nat := dv (bn s (3 + k / 5)) (4 - k % 5) % 3
def unB (s : List UInt8) (n : Nat) : List Int := (List.range n).map fun k => ((brk s k : Nat) : Int)
def unP (s : List UInt8) : Pan := (bn s 1, bn s 2, unB s (inner (bn s 1) (bn s 2)).toNat)
theorem unP_ok {s : List UInt8} (h : okSz (bn s 1) (bn s 2) = true) : OkP (unP s) := by
  obtain ⟨hW, hH⟩ := okSz_iff.1 h
  have hi := inner_bd hW hH
  refine ⟨hW, hH, ?_, ?_⟩
  · simp [unP, unB]; omega
  · intro x hx
    obtain ⟨k, _, rfl⟩ := List.mem_map.1 hx
    have : brk s k < 3 := Nat.mod_lt _ (by decide)
    omega
def lenOk (s : List UInt8) : Bool := decide (5 ≤ s.length) && (okSz (bn s 1) (bn s 2) && decide ((s.length : Int) = packSize (bn s 1) (bn s 2)))
def unOk (s : List UInt8) : Bool := lenOk s && decide (packP (unP s) = s)
def sumOk (s : List UInt8) : Bool := decide (checksum (s.take (s.length - 2)) = 256 * (bn s (s.length - 2) : Int) + bn s (s.length - 1))
def fault (s : List UInt8) : Int := if s.length < 5 ∨ bn s 0 ≠ 77 ∨ okSz (bn s 1) (bn s 2) = false then 1 else if (s.length : Int) ≠ packSize (bn s 1) (bn s 2) then 2 else if sumOk s = false then 3 else if packP (unP s) ≠ s then 4 else 0

theorem byteI_eq {x y : Nat} (h : y < 256) (e : byteI (x : Int) = UInt8.ofNat y) (hx : x < 256) : x = y := by
  have := congrArg UInt8.toNat e
  simp [byteI] at this
  omega
theorem bn_ended {l : List UInt8} {k : Nat} : bn (ended l) (l.length + k) = bn [byteI (checksum l / 256), byteI (checksum l % 256)] k := by
  unfold bn ended
  rw [List.getD_eq_getElem?_getD, List.getElem?_append_right (by omega), ← List.getD_eq_getElem?_getD]
  congr 2
  omega
theorem ended_sum (l : List UInt8) : sumOk (ended l) = true := by
  have hb := checksum_bd l
  have e0 : (ended l).length = l.length + 2 := ended_len l
  unfold sumOk
  rw [e0, show l.length + 2 - 2 = l.length + 0 by omega, show l.length + 2 - 1 = l.length + 1 by omega, bn_ended, bn_ended]
  have e1 : (ended l).take (l.length + 0) = l := by simp [ended]
  rw [e1]
  simp [bn, byteI]
  omega
theorem sum_ended {s : List UInt8} (h2 : 2 ≤ s.length) : ended (s.take (s.length - 2)) = s ↔ sumOk s = true := by
  constructor
  · intro h
    rw [← h]; exact ended_sum _
  · intro h
    have hb := checksum_bd (s.take (s.length - 2))
    unfold sumOk at h
    simp only [decide_eq_true_eq] at h
    have a := bn_lt s (s.length - 2)
    have b := bn_lt s (s.length - 1)
    have e : s = s.take (s.length - 2) ++ [s[s.length - 2]'(by omega), s[s.length - 1]'(by omega)] := by
      conv => lhs; rw [← List.take_append_drop (s.length - 2) s]
      congr 1
      rw [List.drop_eq_getElem_cons (by omega), List.drop_eq_getElem_cons (by omega), List.drop_eq_nil_of_le (by omega)]
      congr 2
      congr 1
      omega
    conv => rhs; rw [e]
    unfold ended
    have q1 : byteI (checksum (s.take (s.length - 2)) / 256) = s[s.length - 2]'(by omega) := by
      apply UInt8.toNat_inj.1
      have := (bn_at (s := s) (i := s.length - 2) (by omega)).2
      simp [byteI]; omega
    have q2 : byteI (checksum (s.take (s.length - 2)) % 256) = s[s.length - 1]'(by omega) := by
      apply UInt8.toNat_inj.1
      have := (bn_at (s := s) (i := s.length - 1) (by omega)).2
      simp [byteI]; omega
    rw [q1, q2]
theorem fault_zero (s : List UInt8) : fault s = 0 ↔ unOk s = true := by
  unfold unOk lenOk
  simp only [Bool.and_eq_true, decide_eq_true_eq]
  constructor
  · intro h
    unfold fault at h
    split at h
    · cases h
    · rename_i h1
      split at h
      · cases h
      · rename_i h2
        split at h
        · cases h
        · split at h
          · cases h
          · rename_i h4
            refine ⟨⟨by omega, by
              cases hq : okSz (bn s 1) (bn s 2)
              · exact absurd (.inr (.inr hq)) h1
              · rfl, by simpa using h2⟩, by simpa using h4⟩
  · rintro ⟨⟨h1, h2, h3⟩, h4⟩
    have hs : sumOk s = true := by rw [← h4]; exact ended_sum _
    have h0 : bn s 0 = 77 := by
      rw [← h4]
      rfl
    unfold fault
    rw [if_neg (by simp [h2, h0]; omega), if_neg (by simpa using h3), if_neg (by simp [hs]), if_neg (by simpa using h4)]

/-! ### the program's -/
def unRes (s : List UInt8) : Pan := if lenOk s then unP s else (0, 0, [])
theorem c195 (h : Heap) (hp : 0 < h.length) (s : List UInt8) (hs : s.length ≤ 1048576) : ACall Gam 195 [S s] h fun r h' => Grows h h' ∧ ∃ r0, r = .tuple #[r0, B (unOk s)] ∧ Vo h' h.length h'.length shPanel r0 (unRes s) := by
  refine ACall_intro g195 rfl ?_
  unfold fn195
  simp (disch := omega)
  refine fork_dec (fun h5 => ?_) (fun h5 => ?_)
  · have e : lenOk s = false := by simp [lenOk]; omega
    simp (disch := omega) [h5, resOf, resAll, resOne, aField, unOk, unRes, e]
    exact ⟨Grows.refl _, Vo.of_panel (by unfold I64; omega) (by unfold I64; omega) (Vo.of_ints (X := []) (.inr ⟨rfl, rfl⟩) (by simp) (by simp) (.inl rfl))⟩
  · have l1 : 1 < s.length := by omega
    have l2 : 2 < s.length := by omega
    obtain ⟨a1, a2⟩ := bn_at l1
    obtain ⟨b1, b2⟩ := bn_at l2
    have t1 := bn_lt s 1
    have t2 := bn_lt s 2
    have i1 : (1 : Int) < s.length := by omega
    have i2 : (2 : Int) < s.length := by omega
    simp (disch := omega) [h5, i1, i2, a1, b1, a2, b2, wrap64]
    refine callW_of (c198 (bn s 1) (bn s 2) h) ?_
    rintro _ h' ⟨rfl, rfl⟩
    cases q : okSz (bn s 1) (bn s 2)
    · have e : lenOk s = false := by simp [lenOk, q]
      simp (disch := omega) [resOf, resAll, resOne, aField, unOk, unRes, e]
      exact ⟨Grows.refl _, Vo.of_panel (by unfold I64; omega) (by unfold I64; omega) (Vo.of_ints (X := []) (.inr ⟨rfl, rfl⟩) (by simp) (by simp) (.inl rfl))⟩
    · obtain ⟨qW, qH⟩ := okSz_iff.1 q
      have hi := inner_bd qW qH
      simp (disch := omega) [h5, i1, i2, a1, b1, a2, b2, wrap64]
      refine callW_of (c181 (bn s 1) (bn s 2) qW qH h') ?_
      rintro _ h' ⟨rfl, rfl⟩
      simp (disch := omega)
      refine fork_dec (fun hl => ?_) (fun hl => ?_)
      rotate_left
      · have e : lenOk s = false := by simp [lenOk, hl]
        simp (disch := omega) [hl, resOf, resAll, resOne, aField, unOk, unRes, e]
        exact ⟨Grows.refl _, Vo.of_panel (by unfold I64; omega) (by unfold I64; omega) (Vo.of_ints (X := []) (.inr ⟨rfl, rfl⟩) (by simp) (by simp) (.inl rfl))⟩
      · have e : lenOk s = true := by simp [lenOk, q, hl]; omega
        simp (disch := omega) [i1, i2, a1, b1, a2, b2, wrap64]
        refine callW_of (c177 h' (bn s 1) (bn s 2) qW qH hp) ?_
        rintro _ h1 ⟨g1, o1⟩
        obtain ⟨so, rfl, w1, w2, o1⟩ := o1.panel
        obtain ⟨bb, zz, rfl, hz, hm, hx, hc⟩ := o1.ints
        obtain ⟨n, hn⟩ : ∃ n, n = (inner (bn s 1) (bn s 2)).toNat := ⟨_, rfl⟩
        rw [← hn] at hz hc ⊢
        simp only [List.length_replicate] at hc ⊢
        have hps : (s.length : Int) = 5 + (inner (bn s 1) (bn s 2) + 4) / 5 := hl
        have hlen : s.length = 5 + (n + 4) / 5 := by omega
        have hn112 : n ≤ 112 := by omega
        simp (disch := omega)
        refine awp_loop (fun k σ hh => k ≤ n ∧ Grows h' hh ∧ σ 0 = S s ∧ σ 2 = .agg #[I 0, I 0, sl 0 0 0 0] ∧ σ 4 = .agg #[I (bn s 1), I (bn s 2), sl bb 0 n zz] ∧ σ 42 = I n ∧ σ 43 = I k ∧ (n = 0 ∨ hh[bb]? = some ⟨ints (fillB (fun j => (brk s j : Nat)) (fun j => decide (j < k)) n), true⟩)) (fun k => n - k) 0 ?_ ?_
        · refine ⟨by omega, g1, by simp, by simp, by simp, by simp, by simp, ?_⟩
          rcases hc with hc | hc
          · left; simpa using hc
          · right; rw [fillB_none _ _ _ (by simp)]; exact hc.1
        · rintro k σ hh ⟨hk, hg, q0, q2, q4, q42, q43, hb⟩
          simp (disch := omega) [q42, q43]
          refine fork_dec (fun hlt => ?_) (fun hge => ?_)
          · have k1 : k < n := by omega
            have hb := hb.resolve_left (by omega)
            have hbb : h'.length ≤ bb := by
              rcases hc with hc | hc
              · simp at hc; omega
              · exact hc.2.1
            have lk : 3 + k / 5 < s.length := by omega
            obtain ⟨d1, d2⟩ := bn_at lk
            have t3 := bn_lt s (3 + k / 5)
            have ei : (3 + (k : Int) / 5).toNat = 3 + k / 5 := by omega
            have ec : 3 + (k : Int) / 5 < s.length := by omega
            have ec0 : 0 ≤ 3 + (k : Int) / 5 := by omega
            simp (disch := omega) [q0, q43, tdiv_pos, wrap64, tmod_pos, ei, ec, ec0, d1, d2]
            refine awp_loop (fun j σ' h'' => h'' = hh ∧ j ≤ 4 - k % 5 ∧ σ' 0 = S s ∧ σ' 2 = .agg #[I 0, I 0, sl 0 0 0 0] ∧ σ' 4 = .agg #[I (bn s 1), I (bn s 2), sl bb 0 n zz] ∧ σ' 5 = I k ∧ σ' 42 = I n ∧ σ' 43 = I k ∧ σ' 54 = I ((4 - k % 5 : Nat) : Int) ∧ σ' 55 = I j ∧ σ' 6 = I ((dv (bn s (3 + k / 5)) j : Nat) : Int)) (fun j => 4 - k % 5 - j) 0 ?_ ?_
            · simp [q0, q2, q4, q42, q43, dv_zero]; omega
            · rintro j σ' h'' ⟨rfl, hj, p0, p2, p4, p5, p42, p43, p54, p55, p6⟩
              simp (disch := omega) [p54, p55]
              refine fork_dec (fun hlt2 => ?_) (fun hge2 => ?_)
              · obtain ⟨x, hx⟩ : ∃ x, x = dv (bn s (3 + k / 5)) j := ⟨_, rfl⟩
                have hxl : x < 256 := by rw [hx]; exact Nat.lt_of_le_of_lt (dv_le _ _) t3
                rw [← hx] at p6
                simp (disch := omega) [p0, p2, p4, p5, p42, p43, p54, p55, p6, tdiv_pos, wrap64]
                refine ⟨j + 1, ⟨by omega, by omega, ?_⟩, by omega⟩
                rw [dv_succ, ← hx]; omega
              · have ej : j = 4 - k % 5 := by omega
                rw [ej] at p6
                obtain ⟨x, hx⟩ : ∃ x, x = dv (bn s (3 + k / 5)) (4 - k % 5) := ⟨_, rfl⟩
                have hxl : x < 256 := by rw [hx]; exact Nat.lt_of_le_of_lt (dv_le _ _) t3
                rw [← hx] at p6
                have hv : (x : Int) % 3 = ((brk s k : Nat) : Int) := by simp [brk, ← hx]
                have hst := store_fill (P' := fun j => decide (j < k + 1)) (v := (x : Int) % 3) hb k1 hv (by
                  intro j _
                  by_cases h1 : j < k
                  · simp [h1, show j < k + 1 by omega]
                  · by_cases h2 : j = k
                    · simp [h2]
                    · simp [h1, h2, show ¬ j < k + 1 by omega])
                simp (disch := omega) [p0, p2, p4, p5, p42, p43, p54, p55, p6, tmod_pos, k1, hst, wrap64]
                exact ⟨k + 1, ⟨by omega, hg.put hbb _, by omega, .inr (by simp [at_lt hb])⟩, by omega⟩
          · have ek : k = n := by omega
            subst ek
            have hu : unP s = (((bn s 1 : Nat) : Int), ((bn s 2 : Nat) : Int), unB s k) := by rw [hn]; rfl
            have hul : (unB s k).length = k := by simp [unB]
            have hfill : fillB (fun j => ((brk s j : Nat) : Int)) (fun j => decide (j < k)) k = unB s k := fillB_all _ _ _ fun j hj => by simp [hj]
            have ho : Vo hh h'.length hh.length shInts (sl bb 0 k zz) (unB s k) := by
              have := Vo.of_ints (h := hh) (b := bb) (lo := h'.length) (hi := hh.length) (z := zz) (X := unB s k) (by
                rcases hz with e | ⟨e, e'⟩
                · exact .inl e
                · have : k = 0 := by simpa using e'
                  exact .inr ⟨e, by rw [this]; rfl⟩) (by rw [hul, maxLen_eq]; omega) (by
                intro x hx
                obtain ⟨j, _, rfl⟩ := List.mem_map.1 hx
                have : brk s j < 3 := Nat.mod_lt _ (by decide)
                unfold I64; omega) (by
                rcases hb with e | e
                · exact .inl (by rw [e]; rfl)
                · rw [hfill] at e
                  by_cases hk0 : k = 0
                  · exact .inl (by rw [hk0]; rfl)
                  · refine .inr ⟨e, ?_, at_lt e⟩
                    rcases hc with hc | hc
                    · simp at hc; omega
                    · exact hc.2.1)
              rw [hul] at this
              exact this
            have hov := Vo.of_panel w1 w2 ho
            rw [← hu] at hov
            simp (disch := omega) [q0, q4]
            refine callW_of (c180 _ (unP s) hh (pos_of hp hg) hov.vr (unP_ok q)) ?_
            rintro _ h2 ⟨rfl, g2⟩
            refine ⟨fun _ => g2, ?_⟩
            have er : unRes s = unP s := by simp [unRes, e]
            have eo : unOk s = decide (packP (unP s) = s) := by simp [unOk, e]
            have hov2 := (hov.grow g2).wide (Nat.le_refl _) g2.le
            simp (disch := omega) [q0, q2, q4, resOf, resAll, resOne, aField, er, eo]
            exact ⟨hg.trans g2, hov2⟩

def unAns (s : List UInt8) : Pan × Int := if unOk s then (unP s, 0) else ((0, 0, []), 8)
theorem unAns_siz (s : List UInt8) : siz shPanel (unAns s).1 ≤ 16777216 := by
  unfold unAns
  split
  · rename_i h
    unfold unOk lenOk at h
    simp only [Bool.and_eq_true] at h
    have ok := unP_ok h.1.2.1
    have hi := inner_bd ok.w ok.h
    have hn := ok.n
    show siz shPanel ((unP s).1, (unP s).2.1, (unP s).2.2) ≤ _
    rw [siz_panel]; omega
  · rw [siz_panel]; simp
theorem Vo.zero_panel {h : Heap} {lo hi : Nat} : Vo h lo hi shPanel (.agg #[I 0, I 0, sl 0 0 0 0]) ((0, 0, []) : Pan) := Vo.of_panel (by unfold I64; omega) (by unfold I64; omega) (Vo.of_ints (X := []) (.inr ⟨rfl, rfl⟩) (by simp) (by simp) (.inl rfl))
theorem c136 (h : Heap) (hp : 0 < h.length) (s : List UInt8) (hs : s.length ≤ 1048576) : ACall Gam 136 [S s] h fun r h' => Grows h h' ∧ ∃ r0, r = .tuple #[r0, I (unAns s).2] ∧ Vo h' h.length h'.length shPanel r0 (unAns s).1 ∧ siz shPanel (unAns s).1 ≤ 16777216 := by
  have hz := unAns_siz s
  refine ACall_intro g136 rfl ?_
  unfold fn136
  simp (disch := omega)
  refine callW_of (c195 h hp s hs) ?_
  rintro _ h1 ⟨g1, r0, rfl, o⟩
  cases q : unOk s
  · have e : unAns s = ((0, 0, []), 8) := by simp [unAns, q]
    rw [e] at hz ⊢
    obtain ⟨x, y, z, rfl⟩ := o.vr.panel3
    simp (disch := omega) [resOf, resAll, resOne, aField]
    exact ⟨g1, Vo.zero_panel, hz⟩
  · have e : unAns s = (unP s, 0) := by simp [unAns, q]
    rw [e] at hz ⊢
    have e2 : unRes s = unP s := by
      unfold unOk at q
      simp only [Bool.and_eq_true] at q
      simp [unRes, q.1]
    rw [e2] at o
    obtain ⟨x, y, z, rfl⟩ := o.vr.panel3
    have o2 := o
    obtain ⟨so, e3, w1, w2, o3⟩ := o2.panel
    obtain ⟨bb, zz, e4, _⟩ := o3.ints
    simp only [Value.agg.injEq, Array.mk.injEq, List.cons.injEq] at e3
    obtain ⟨rfl, rfl, rfl, _⟩ := e3
    subst e4
    simp (disch := omega) [resOf, resAll, resOne, aField]
    exact ⟨g1, o, hz⟩
end Am

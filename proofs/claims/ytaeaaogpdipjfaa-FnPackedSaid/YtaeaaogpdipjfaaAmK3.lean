/- Contracts: AmP5, AmP6, AmP9, AmP10, AmP11, AmP12, AmP13, AmP14, AmP16, AmD1, AmD2, AmD3, AmJ1. -/
import Derived.Test.YtaeaaogpdipjfaaAmK2
import Derived.Test.YtaeaaogpdipjfaaAmK1
/-! AmP5 -/
set_option linter.unusedVariables false
set_option linter.unusedSimpArgs false
set_option maxHeartbeats 4000000
namespace Am
open Go

def clash (o a b : List Int) (i : Nat) : Bool := decide (at0 a i ≠ at0 o i) && (decide (at0 b i ≠ at0 o i) && decide (at0 a i ≠ at0 b i))
def cpre (o a b : List Int) (n : Nat) : List Int := (List.range n).flatMap fun i => if clash o a b i then [(i : Int)] else []
def clashCode (X0 X1 X2 : Pan) : Int := if okP X0 && (okP X1 && okP X2) then (if sameSz X0 X1 && sameSz X0 X2 then 0 else 6) else 1
def clashAns (X0 X1 X2 : Pan) : List Int × Int := (if clashCode X0 X1 X2 = 0 then cpre X0.2.2 X1.2.2 X2.2.2 X0.2.2.length else [], clashCode X0 X1 X2)
end Am
/-! AmP6 -/
set_option linter.unusedVariables false
set_option linter.unusedSimpArgs false
set_option maxHeartbeats 4000000
namespace Am
open Go

def mpre (o a b : List Int) (n : Nat) : List Int := (List.range n).map fun i => if at0 b i = at0 o i then at0 a i else at0 b i
def mergeCode (X0 X1 X2 : Pan) : Int := if (clashAns X0 X1 X2).2 = 0 then (if (clashAns X0 X1 X2).1 = [] then 0 else 9) else (clashAns X0 X1 X2).2
def mergeAns (X0 X1 X2 : Pan) : Pan × Int := (if mergeCode X0 X1 X2 = 0 then (X1.1, X1.2.1, mpre X0.2.2 X1.2.2 X2.2.2 X0.2.2.length) else (0, 0, []), mergeCode X0 X1 X2)
end Am
/-! AmP9 -/
set_option linter.unusedVariables false
set_option linter.unusedSimpArgs false
set_option maxHeartbeats 4000000
set_option maxRecDepth 4000
namespace Am
open Go

/-! ### numbers written one by one -/
def fillB (f : Nat → Int) (P : Nat → Bool) (n : Nat) : List Int := (List.range n).map fun j => if P j then f j else 0
theorem fillB_len (f : Nat → Int) (P : Nat → Bool) (n : Nat) : (fillB f P n).length = n := by simp [fillB]
theorem fillB_set {f : Nat → Int} {P P' : Nat → Bool} {n k : Nat} (h : ∀ j, j < n → P' j = (P j || j == k)) : (fillB f P n).set k (f k) = fillB f P' n := by
  apply List.ext_getElem
  · simp [fillB]
  · intro i h1 h2
    simp [fillB] at h1 h2 ⊢
    rw [List.getElem_set]
    simp only [List.getElem_map, List.getElem_range]
    have := h i h2
    by_cases e : k = i
    · subst e; simp [this]
    · have e' : ¬ i = k := fun h => e h.symm
      simp [e, this, e']
theorem fillB_none (f : Nat → Int) (P : Nat → Bool) (n : Nat) (h : ∀ j, j < n → P j = false) : fillB f P n = List.replicate n 0 := by
  apply List.ext_getElem
  · simp [fillB]
  · intro i h1 h2
    simp [fillB] at h1 ⊢
    simp [h i h1]
theorem fillB_all (f : Nat → Int) (P : Nat → Bool) (n : Nat) (h : ∀ j, j < n → P j = true) : fillB f P n = (List.range n).map f := by
  apply List.map_congr_left
  intro i hi
  simp [h i (List.mem_range.1 hi)]
theorem fillB_same {f : Nat → Int} {P P' : Nat → Bool} {n : Nat} (h : ∀ j, j < n → P j = P' j) : fillB f P n = fillB f P' n := by
  apply List.map_congr_left
  intro i hi
  rw [h i (List.mem_range.1 hi)]
theorem store_fill {h : Heap} {b k n : Nat} {f : Nat → Int} {P P' : Nat → Bool} {v : Int} (hb : h[b]? = some ⟨ints (fillB f P n), true⟩) (hk : k < n) (hv : v = f k) (hp : ∀ j, j < n → P' j = (P j || j == k)) :
    storeAt h b k [I v] = some (h.set b ⟨ints (fillB f P' n), true⟩) := by
  rw [store_one hb (by simp [ints, fillB_len]; exact hk), ← fillB_set hp, hv]
  simp [ints, List.map_set]

/-! ### the bytes -/
def bn (s : List UInt8) (i : Nat) : Nat := (s.getD i 0).toNat
theorem bn_lt (s : List UInt8) (i : Nat) : bn s i < 256 := UInt8.toNat_lt _
theorem bn_at {s : List UInt8} {i : Nat} (h : i < s.length) : s[i]? = some s[i] ∧ s[i].toNat = bn s i := by simp [bn, h]
def dv (x j : Nat) : Nat := x / 3 ^ j
theorem dv_succ (x j : Nat) : dv x (j + 1) = dv x j / 3 := by unfold dv; rw [Nat.pow_succ, Nat.div_div_eq_div_mul]
theorem dv_zero (x : Nat) : dv x 0 = x := by simp [dv]
theorem dv_le (x j : Nat) : dv x j ≤ x := Nat.div_le_self _ _
def brk (s : List UInt8) (k : Nat) : Nat := dv (bn s (3 + k / 5)) (4 - k % 5) % 3
def unB (s : List UInt8) (n : Nat) : List Int := (List.range n).map fun k => ((brk s k : Nat) : Int)
def unP (s : List UInt8) : Pan := (bn s 1, bn s 2, unB s (inner (bn s 1) (bn s 2)).toNat)
theorem unP_ok {s : List UInt8} (h : okSz (bn s 1) (bn s 2) = true) : OkP (unP s) := by
  obtain ⟨hW, hH⟩ := okSz_iff.1 h
  have hi := inner_bd hW hH
  refine ⟨hW, hH, ?_, ?_⟩
  · simp [unP, unB]; omega
  · intro x hx
    obtain ⟨k, _, rfl⟩ := List.mem_map.1 hx
    have : brk s k < 3 := Nat.mod_lt _ (by decide)
    omega
def lenOk (s : List UInt8) : Bool := decide (5 ≤ s.length) && (okSz (bn s 1) (bn s 2) && decide ((s.length : Int) = packSize (bn s 1) (bn s 2)))
def unOk (s : List UInt8) : Bool := lenOk s && decide (packP (unP s) = s)
def sumOk (s : List UInt8) : Bool := decide (checksum (s.take (s.length - 2)) = 256 * (bn s (s.length - 2) : Int) + bn s (s.length - 1))
def fault (s : List UInt8) : Int := if s.length < 5 ∨ bn s 0 ≠ 77 ∨ okSz (bn s 1) (bn s 2) = false then 1 else if (s.length : Int) ≠ packSize (bn s 1) (bn s 2) then 2 else if sumOk s = false then 3 else if packP (unP s) ≠ s then 4 else 0

theorem bn_ended {l : List UInt8} {k : Nat} : bn (ended l) (l.length + k) = bn [byteI (checksum l / 256), byteI (checksum l % 256)] k := by
  unfold bn ended
  rw [List.getD_eq_getElem?_getD, List.getElem?_append_right (by omega), ← List.getD_eq_getElem?_getD]
  congr 2
  omega
theorem ended_sum (l : List UInt8) : sumOk (ended l) = true := by
  have hb := checksum_bd l
  have e0 : (ended l).length = l.length + 2 := ended_len l
  unfold sumOk
  rw [e0, show l.length + 2 - 2 = l.length + 0 by omega, show l.length + 2 - 1 = l.length + 1 by omega, bn_ended, bn_ended]
  have e1 : (ended l).take (l.length + 0) = l := by simp [ended]
  rw [e1]
  simp [bn, byteI]
  omega
theorem sum_ended {s : List UInt8} (h2 : 2 ≤ s.length) : ended (s.take (s.length - 2)) = s ↔ sumOk s = true := by
  constructor
  · intro h
    rw [← h]; exact ended_sum _
  · intro h
    have hb := checksum_bd (s.take (s.length - 2))
    unfold sumOk at h
    simp only [decide_eq_true_eq] at h
    have a := bn_lt s (s.length - 2)
    have b := bn_lt s (s.length - 1)
    have e : s = s.take (s.length - 2) ++ [s[s.length - 2]'(by omega), s[s.length - 1]'(by omega)] := by
      conv => lhs; rw [← List.take_append_drop (s.length - 2) s]
      congr 1
      rw [List.drop_eq_getElem_cons (by omega), List.drop_eq_getElem_cons (by omega), List.drop_eq_nil_of_le (by omega)]
      congr 2
      congr 1
      omega
    conv => rhs; rw [e]
    unfold ended
    have q1 : byteI (checksum (s.take (s.length - 2)) / 256) = s[s.length - 2]'(by omega) := by
      apply UInt8.toNat_inj.1
      have := (bn_at (s := s) (i := s.length - 2) (by omega)).2
      simp [byteI]; omega
    have q2 : byteI (checksum (s.take (s.length - 2)) % 256) = s[s.length - 1]'(by omega) := by
      apply UInt8.toNat_inj.1
      have := (bn_at (s := s) (i := s.length - 1) (by omega)).2
      simp [byteI]; omega
    rw [q1, q2]
theorem fault_zero (s : List UInt8) : fault s = 0 ↔ unOk s = true := by
  unfold unOk lenOk
  simp only [Bool.and_eq_true, decide_eq_true_eq]
  constructor
  · intro h
    unfold fault at h
    split at h
    · cases h
    · rename_i h1
      split at h
      · cases h
      · rename_i h2
        split at h
        · cases h
        · split at h
          · cases h
          · rename_i h4
            refine ⟨⟨by omega, by
              cases hq : okSz (bn s 1) (bn s 2)
              · exact absurd (.inr (.inr hq)) h1
              · rfl, by simpa using h2⟩, by simpa using h4⟩
  · rintro ⟨⟨h1, h2, h3⟩, h4⟩
    have hs : sumOk s = true := by rw [← h4]; exact ended_sum _
    have h0 : bn s 0 = 77 := by
      rw [← h4]
      rfl
    unfold fault
    rw [if_neg (by simp [h2, h0]; omega), if_neg (by simpa using h3), if_neg (by simp [hs]), if_neg (by simpa using h4)]

/-! ### the program's -/
def unRes (s : List UInt8) : Pan := if lenOk s then unP s else (0, 0, [])
theorem c195 (h : Heap) (hp : 0 < h.length) (s : List UInt8) (hs : s.length ≤ 1048576) : ACall Gam 195 [S s] h fun r h' => Grows h h' ∧ ∃ r0, r = .tuple #[r0, B (unOk s)] ∧ Vo h' h.length h'.length shPanel r0 (unRes s) := by
  refine ACall_intro g195 rfl ?_
  unfold fn195
  simp (disch := omega)
  refine fork_dec (fun h5 => ?_) (fun h5 => ?_)
  · have e : lenOk s = false := by simp [lenOk]; omega
    simp (disch := omega) [h5, resOf, resAll, resOne, aField, unOk, unRes, e]
    exact ⟨Grows.refl _, Vo.of_panel (by unfold I64; omega) (by unfold I64; omega) (Vo.of_ints (X := []) (.inr ⟨rfl, rfl⟩) (by simp) (by simp) (.inl rfl))⟩
  · have l1 : 1 < s.length := by omega
    have l2 : 2 < s.length := by omega
    obtain ⟨a1, a2⟩ := bn_at l1
    obtain ⟨b1, b2⟩ := bn_at l2
    have t1 := bn_lt s 1
    have t2 := bn_lt s 2
    have i1 : (1 : Int) < s.length := by omega
    have i2 : (2 : Int) < s.length := by omega
    simp (disch := omega) [h5, i1, i2, a1, b1, a2, b2, wrap64]
    refine callW_of (c198 (bn s 1) (bn s 2) h) ?_
    rintro _ h' ⟨rfl, rfl⟩
    cases q : okSz (bn s 1) (bn s 2)
    · have e : lenOk s = false := by simp [lenOk, q]
      simp (disch := omega) [resOf, resAll, resOne, aField, unOk, unRes, e]
      exact ⟨Grows.refl _, Vo.of_panel (by unfold I64; omega) (by unfold I64; omega) (Vo.of_ints (X := []) (.inr ⟨rfl, rfl⟩) (by simp) (by simp) (.inl rfl))⟩
    · obtain ⟨qW, qH⟩ := okSz_iff.1 q
      have hi := inner_bd qW qH
      simp (disch := omega) [h5, i1, i2, a1, b1, a2, b2, wrap64]
      refine callW_of (c181 (bn s 1) (bn s 2) qW qH h') ?_
      rintro _ h' ⟨rfl, rfl⟩
      simp (disch := omega)
      refine fork_dec (fun hl => ?_) (fun hl => ?_)
      rotate_left
      · have e : lenOk s = false := by simp [lenOk, hl]
        simp (disch := omega) [hl, resOf, resAll, resOne, aField, unOk, unRes, e]
        exact ⟨Grows.refl _, Vo.of_panel (by unfold I64; omega) (by unfold I64; omega) (Vo.of_ints (X := []) (.inr ⟨rfl, rfl⟩) (by simp) (by simp) (.inl rfl))⟩
      · have e : lenOk s = true := by simp [lenOk, q, hl]; omega
        simp (disch := omega) [i1, i2, a1, b1, a2, b2, wrap64]
        refine callW_of (c177 h' (bn s 1) (bn s 2) qW qH hp) ?_
        rintro _ h1 ⟨g1, o1⟩
        obtain ⟨so, rfl, w1, w2, o1⟩ := o1.panel
        obtain ⟨bb, zz, rfl, hz, hm, hx, hc⟩ := o1.ints
        obtain ⟨n, hn⟩ : ∃ n, n = (inner (bn s 1) (bn s 2)).toNat := ⟨_, rfl⟩
        rw [← hn] at hz hc ⊢
        simp only [List.length_replicate] at hc ⊢
        have hps : (s.length : Int) = 5 + (inner (bn s 1) (bn s 2) + 4) / 5 := hl
        have hlen : s.length = 5 + (n + 4) / 5 := by omega
        have hn112 : n ≤ 112 := by omega
        simp (disch := omega)
        refine awp_loop (fun k σ hh => k ≤ n ∧ Grows h' hh ∧ σ 0 = S s ∧ σ 2 = .agg #[I 0, I 0, sl 0 0 0 0] ∧ σ 4 = .agg #[I (bn s 1), I (bn s 2), sl bb 0 n zz] ∧ σ 42 = I n ∧ σ 43 = I k ∧ (n = 0 ∨ hh[bb]? = some ⟨ints (fillB (fun j => (brk s j : Nat)) (fun j => decide (j < k)) n), true⟩)) (fun k => n - k) 0 ?_ ?_
        · refine ⟨by omega, g1, by simp, by simp, by simp, by simp, by simp, ?_⟩
          rcases hc with hc | hc
          · left; simpa using hc
          · right; rw [fillB_none _ _ _ (by simp)]; exact hc.1
        · rintro k σ hh ⟨hk, hg, q0, q2, q4, q42, q43, hb⟩
          simp (disch := omega) [q42, q43]
          refine fork_dec (fun hlt => ?_) (fun hge => ?_)
          · have k1 : k < n := by omega
            have hb := hb.resolve_left (by omega)
            have hbb : h'.length ≤ bb := by
              rcases hc with hc | hc
              · simp at hc; omega
              · exact hc.2.1
            have lk : 3 + k / 5 < s.length := by omega
            obtain ⟨d1, d2⟩ := bn_at lk
            have t3 := bn_lt s (3 + k / 5)
            have ei : (3 + (k : Int) / 5).toNat = 3 + k / 5 := by omega
            have ec : 3 + (k : Int) / 5 < s.length := by omega
            have ec0 : 0 ≤ 3 + (k : Int) / 5 := by omega
            simp (disch := omega) [q0, q43, tdiv_pos, wrap64, tmod_pos, ei, ec, ec0, d1, d2]
            refine awp_loop (fun j σ' h'' => h'' = hh ∧ j ≤ 4 - k % 5 ∧ σ' 0 = S s ∧ σ' 2 = .agg #[I 0, I 0, sl 0 0 0 0] ∧ σ' 4 = .agg #[I (bn s 1), I (bn s 2), sl bb 0 n zz] ∧ σ' 5 = I k ∧ σ' 42 = I n ∧ σ' 43 = I k ∧ σ' 54 = I ((4 - k % 5 : Nat) : Int) ∧ σ' 55 = I j ∧ σ' 6 = I ((dv (bn s (3 + k / 5)) j : Nat) : Int)) (fun j => 4 - k % 5 - j) 0 ?_ ?_
            · simp [q0, q2, q4, q42, q43, dv_zero]; omega
            · rintro j σ' h'' ⟨rfl, hj, p0, p2, p4, p5, p42, p43, p54, p55, p6⟩
              simp (disch := omega) [p54, p55]
              refine fork_dec (fun hlt2 => ?_) (fun hge2 => ?_)
              · obtain ⟨x, hx⟩ : ∃ x, x = dv (bn s (3 + k / 5)) j := ⟨_, rfl⟩
                have hxl : x < 256 := by rw [hx]; exact Nat.lt_of_le_of_lt (dv_le _ _) t3
                rw [← hx] at p6
                simp (disch := omega) [p0, p2, p4, p5, p42, p43, p54, p55, p6, tdiv_pos, wrap64]
                refine ⟨j + 1, ⟨by omega, by omega, ?_⟩, by omega⟩
                rw [dv_succ, ← hx]; omega
              · have ej : j = 4 - k % 5 := by omega
                rw [ej] at p6
                obtain ⟨x, hx⟩ : ∃ x, x = dv (bn s (3 + k / 5)) (4 - k % 5) := ⟨_, rfl⟩
                have hxl : x < 256 := by rw [hx]; exact Nat.lt_of_le_of_lt (dv_le _ _) t3
                rw [← hx] at p6
                have hv : (x : Int) % 3 = ((brk s k : Nat) : Int) := by simp [brk, ← hx]
                have hst := store_fill (P' := fun j => decide (j < k + 1)) (v := (x : Int) % 3) hb k1 hv (by
                  intro j _
                  by_cases h1 : j < k
                  · simp [h1, show j < k + 1 by omega]
                  · by_cases h2 : j = k
                    · simp [h2]
                    · simp [h1, h2, show ¬ j < k + 1 by omega])
                simp (disch := omega) [p0, p2, p4, p5, p42, p43, p54, p55, p6, tmod_pos, k1, hst, wrap64]
                exact ⟨k + 1, ⟨by omega, hg.put hbb _, by omega, .inr (by simp [at_lt hb])⟩, by omega⟩
          · have ek : k = n := by omega
            subst ek
            have hu : unP s = (((bn s 1 : Nat) : Int), ((bn s 2 : Nat) : Int), unB s k) := by rw [hn]; rfl
            have hul : (unB s k).length = k := by simp [unB]
            have hfill : fillB (fun j => ((brk s j : Nat) : Int)) (fun j => decide (j < k)) k = unB s k := fillB_all _ _ _ fun j hj => by simp [hj]
            have ho : Vo hh h'.length hh.length shInts (sl bb 0 k zz) (unB s k) := by
              have := Vo.of_ints (h := hh) (b := bb) (lo := h'.length) (hi := hh.length) (z := zz) (X := unB s k) (by
                rcases hz with e | ⟨e, e'⟩
                · exact .inl e
                · have : k = 0 := by simpa using e'
                  exact .inr ⟨e, by rw [this]; rfl⟩) (by rw [hul, maxLen_eq]; omega) (by
                intro x hx
                obtain ⟨j, _, rfl⟩ := List.mem_map.1 hx
                have : brk s j < 3 := Nat.mod_lt _ (by decide)
                unfold I64; omega) (by
                rcases hb with e | e
                · exact .inl (by rw [e]; rfl)
                · rw [hfill] at e
                  by_cases hk0 : k = 0
                  · exact .inl (by rw [hk0]; rfl)
                  · refine .inr ⟨e, ?_, at_lt e⟩
                    rcases hc with hc | hc
                    · simp at hc; omega
                    · exact hc.2.1)
              rw [hul] at this
              exact this
            have hov := Vo.of_panel w1 w2 ho
            rw [← hu] at hov
            simp (disch := omega) [q0, q4]
            refine callW_of (c180 _ (unP s) hh (pos_of hp hg) hov.vr (unP_ok q)) ?_
            rintro _ h2 ⟨rfl, g2⟩
            refine ⟨fun _ => g2, ?_⟩
            have er : unRes s = unP s := by simp [unRes, e]
            have eo : unOk s = decide (packP (unP s) = s) := by simp [unOk, e]
            have hov2 := (hov.grow g2).wide (Nat.le_refl _) g2.le
            simp (disch := omega) [q0, q2, q4, resOf, resAll, resOne, aField, er, eo]
            exact ⟨hg.trans g2, hov2⟩

def unAns (s : List UInt8) : Pan × Int := if unOk s then (unP s, 0) else ((0, 0, []), 8)
theorem unAns_siz (s : List UInt8) : siz shPanel (unAns s).1 ≤ 16777216 := by
  unfold unAns
  split
  · rename_i h
    unfold unOk lenOk at h
    simp only [Bool.and_eq_true] at h
    have ok := unP_ok h.1.2.1
    have hi := inner_bd ok.w ok.h
    have hn := ok.n
    show siz shPanel ((unP s).1, (unP s).2.1, (unP s).2.2) ≤ _
    rw [siz_panel]; omega
  · rw [siz_panel]; simp
theorem Vo.zero_panel {h : Heap} {lo hi : Nat} : Vo h lo hi shPanel (.agg #[I 0, I 0, sl 0 0 0 0]) ((0, 0, []) : Pan) := Vo.of_panel (by unfold I64; omega) (by unfold I64; omega) (Vo.of_ints (X := []) (.inr ⟨rfl, rfl⟩) (by simp) (by simp) (.inl rfl))
theorem c136 (h : Heap) (hp : 0 < h.length) (s : List UInt8) (hs : s.length ≤ 1048576) : ACall Gam 136 [S s] h fun r h' => Grows h h' ∧ ∃ r0, r = .tuple #[r0, I (unAns s).2] ∧ Vo h' h.length h'.length shPanel r0 (unAns s).1 ∧ siz shPanel (unAns s).1 ≤ 16777216 := by
  have hz := unAns_siz s
  refine ACall_intro g136 rfl ?_
  unfold fn136
  simp (disch := omega)
  refine callW_of (c195 h hp s hs) ?_
  rintro _ h1 ⟨g1, r0, rfl, o⟩
  cases q : unOk s
  · have e : unAns s = ((0, 0, []), 8) := by simp [unAns, q]
    rw [e] at hz ⊢
    obtain ⟨x, y, z, rfl⟩ := o.vr.panel3
    simp (disch := omega) [resOf, resAll, resOne, aField]
    exact ⟨g1, Vo.zero_panel, hz⟩
  · have e : unAns s = (unP s, 0) := by simp [unAns, q]
    rw [e] at hz ⊢
    have e2 : unRes s = unP s := by
      unfold unOk at q
      simp only [Bool.and_eq_true] at q
      simp [unRes, q.1]
    rw [e2] at o
    obtain ⟨x, y, z, rfl⟩ := o.vr.panel3
    have o2 := o
    obtain ⟨so, e3, w1, w2, o3⟩ := o2.panel
    obtain ⟨bb, zz, e4, _⟩ := o3.ints
    simp only [Value.agg.injEq, Array.mk.injEq, List.cons.injEq] at e3
    obtain ⟨rfl, rfl, rfl, _⟩ := e3
    subst e4
    simp (disch := omega) [resOf, resAll, resOne, aField]
    exact ⟨g1, o, hz⟩
end Am
/-! AmP10 -/
set_option linter.unusedVariables false
set_option linter.unusedSimpArgs false
set_option maxHeartbeats 4000000
set_option maxRecDepth 4000
namespace Am
open Go

theorem aSlice_hi {h : Heap} {l : List UInt8} {k : IntKind} {n : Int} (h0 : 0 ≤ n) (h1 : n.toNat ≤ l.length) : aSlice 0 h (S l) none (some (.int k n)) none = some (S (l.take n.toNat), h) := by
  simp [aSlice, bound, h0, ByteArray.size, h1]
theorem aSlice_lo {h : Heap} {l : List UInt8} {k : IntKind} {n : Int} (h0 : 0 ≤ n) (h1 : n.toNat ≤ l.length) : aSlice 0 h (S l) (some (.int k n)) none none = some (S (l.drop n.toNat), h) := by
  simp [aSlice, bound, h0, ByteArray.size, h1]
theorem store_box {h : Heap} {cs xs : List Value} (hl : xs.length = cs.length) : storeAt (h ++ [⟨cs, true⟩]) h.length 0 xs = some (h ++ [⟨xs, true⟩]) := by
  unfold storeAt
  simp [hl]
theorem PtP.at {h : Heap} {b : Nat} {W H : Int} {s : Value} {br : List Int} {r : Bool} (hb : h[b]? = some ⟨[I W, I H, s], r⟩) (hs : Vr h shInts s br) (hW : I64 W) (hH : I64 H) : PtP h (pt b 0) (W, H, br) :=
  ⟨b, 0, s, rfl, by simp [Am.cell, hb], by simp [Am.cell, hb], by simp [Am.cell, hb], hs, hW, hH⟩
theorem c566 (h : Heap) (s : List UInt8) (h2 : 2 ≤ s.length) (hs : s.length ≤ 1048576) : ACall Gam 566 [S s] h fun r h' => r = B (sumOk s) ∧ h' = h := by
  have l1 : s.length - 2 < s.length := by omega
  have l2 : s.length - 1 < s.length := by omega
  obtain ⟨a1, a2⟩ := bn_at l1
  obtain ⟨b1, b2⟩ := bn_at l2
  have t1 := bn_lt s (s.length - 2)
  have t2 := bn_lt s (s.length - 1)
  have e1 : ((s.length : Int) - 2).toNat = s.length - 2 := by omega
  have e2 : ((s.length : Int) - 1).toNat = s.length - 1 := by omega
  have e3 : ¬ (s.length : Int) < 2 := by omega
  have i1 : (s.length : Int) - 2 < s.length := by omega
  have i2 : (s.length : Int) - 1 < s.length := by omega
  have j1 : (0 : Int) ≤ (s.length : Int) - 2 := by omega
  have j2 : (0 : Int) ≤ (s.length : Int) - 1 := by omega
  have k1 : (2 : Int) ≤ s.length := by omega
  have k2 : (1 : Int) ≤ s.length := by omega
  have sl := aSlice_hi (h := h) (l := s) (k := .i64) j1 (by omega)
  rw [e1] at sl
  refine ACall_intro g566 rfl ?_
  unfold fn566
  simp (disch := omega) [e3, wrap64, sl]
  refine callW_of (c573 (s.take (s.length - 2)) (by simp; omega) h) ?_
  rintro _ h' ⟨rfl, rfl⟩
  simp (disch := omega) [e1, e2, i1, i2, j1, j2, k1, k2, a1, b1, a2, b2, wrap64]
  simp [sumOk]

theorem c574 (h : Heap) (hp : 0 < h.length) (s : List UInt8) (hs : s.length ≤ 1048576) : ACall Gam 574 [S s] h fun r h' => Grows h h' ∧ ∃ r0, r = .tuple #[r0, I (fault s)] ∧ Vo h' h.length h'.length shPanel r0 (if fault s = 0 then unP s else (0, 0, [])) := by
  have bad : ∀ c : Int, fault s = c → c ≠ 0 → (if fault s = 0 then unP s else ((0, 0, []) : Pan)) = (0, 0, []) := fun c hc hn => by rw [hc, if_neg hn]
  refine ACall_intro g574 rfl ?_
  unfold fn574
  simp (disch := omega)
  refine fork_dec (fun h5 => ?_) (fun h5 => ?_)
  · have e : fault s = 1 := by unfold fault; rw [if_pos (.inl (by omega))]
    rw [bad 1 e (by decide), e]
    simp (disch := omega) [h5, resOf, resAll, resOne, aField]
    exact ⟨Grows.refl _, Vo.zero_panel⟩
  have l0 : 0 < s.length := by omega
  have l1 : 1 < s.length := by omega
  have l2 : 2 < s.length := by omega
  obtain ⟨z1, z2⟩ := bn_at l0
  obtain ⟨a1, a2⟩ := bn_at l1
  obtain ⟨b1, b2⟩ := bn_at l2
  have t0 := bn_lt s 0
  have t1 := bn_lt s 1
  have t2 := bn_lt s 2
  have i0 : (0 : Int) < s.length := by omega
  have i1 : (1 : Int) < s.length := by omega
  have i2 : (2 : Int) < s.length := by omega
  simp (disch := omega) [h5, l0, i1, i2, z1, z2, a1, b1, a2, b2, wrap64]
  refine fork_dec (fun hM => ?_) (fun hM => ?_)
  rotate_left
  · have e : fault s = 1 := by unfold fault; rw [if_pos (.inr (.inl (by omega)))]
    rw [bad 1 e (by decide), e]
    simp (disch := omega) [h5, hM, resOf, resAll, resOne, aField]
    exact ⟨Grows.refl _, Vo.zero_panel⟩
  simp (disch := omega) [h5, hM, l0, i1, i2, z1, z2, a1, b1, a2, b2, wrap64]
  refine callW_of (c457 (bn s 1) h) ?_
  rintro _ h' ⟨rfl, rfl⟩
  cases q1 : inR (bn s 1) 1 8
  · have e : fault s = 1 := by unfold fault; rw [if_pos (.inr (.inr (by simp [okSz, q1])))]
    rw [bad 1 e (by decide), e]
    simp (disch := omega) [resOf, resAll, resOne, aField]
    exact ⟨Grows.refl _, Vo.zero_panel⟩
  simp (disch := omega) [l0, i1, i2, z1, z2, a1, b1, a2, b2, wrap64]
  refine callW_of (c457 (bn s 2) h') ?_
  rintro _ h' ⟨rfl, rfl⟩
  cases q2 : inR (bn s 2) 1 8
  · have e : fault s = 1 := by unfold fault; rw [if_pos (.inr (.inr (by simp [okSz, q2])))]
    rw [bad 1 e (by decide), e]
    simp (disch := omega) [resOf, resAll, resOne, aField]
    exact ⟨Grows.refl _, Vo.zero_panel⟩
  have qW := inR_iff.1 q1
  have qH := inR_iff.1 q2
  have q : okSz (bn s 1) (bn s 2) = true := by simp [okSz, q1, q2]
  have hi := inner_bd qW qH
  have n1 : ¬ (s.length < 5 ∨ bn s 0 ≠ 77 ∨ okSz (bn s 1) (bn s 2) = false) := by simp [q]; omega
  simp (disch := omega) [l0, i1, i2, z1, z2, a1, b1, a2, b2, wrap64]
  refine callW_of (c572 (bn s 1) (bn s 2) qW qH h') ?_
  rintro _ h' ⟨rfl, rfl⟩
  simp (disch := omega)
  refine fork_dec (fun hl => ?_) (fun hl => ?_)
  rotate_left
  · have e : fault s = 2 := by unfold fault; rw [if_neg n1, if_pos hl]
    rw [bad 2 e (by decide), e]
    simp (disch := omega) [resOf, resAll, resOne, aField]
    exact ⟨Grows.refl _, Vo.zero_panel⟩
  simp (disch := omega)
  refine callW_of (c566 h' s (by omega) hs) ?_
  rintro _ h' ⟨rfl, rfl⟩
  cases q3 : sumOk s
  · have e : fault s = 3 := by unfold fault; rw [if_neg n1, if_neg (by simpa using hl), if_pos q3]
    rw [bad 3 e (by decide), e]
    simp (disch := omega) [resOf, resAll, resOne, aField]
    exact ⟨Grows.refl _, Vo.zero_panel⟩
  simp (disch := omega)
  refine callW_of (c450 h' (bn s 1) (bn s 2) qW qH hp) ?_
  rintro _ h1 ⟨g1, o1⟩
  obtain ⟨so, rfl, w1, w2, o1⟩ := o1.panel
  obtain ⟨bb, zz, rfl, hz, hm, hx, hc⟩ := o1.ints
  obtain ⟨n, hn⟩ : ∃ n, n = (inner (bn s 1) (bn s 2)).toNat := ⟨_, rfl⟩
  rw [← hn] at hz hc ⊢
  simp only [List.length_replicate] at hc ⊢
  have hps : (s.length : Int) = 5 + (inner (bn s 1) (bn s 2) + 4) / 5 := hl
  have hlen : s.length = 5 + (n + 4) / 5 := by omega
  have hn112 : n ≤ 112 := by omega
  have hsb : storeAt (h1 ++ [⟨[I 0, I 0, sl 0 0 0 0], true⟩]) h1.length 0 [I (bn s 1), I (bn s 2), sl bb 0 n zz] = some (h1 ++ [⟨[I (bn s 1), I (bn s 2), sl bb 0 n zz], true⟩]) := store_box rfl
  simp (disch := omega) [hsb]
  obtain ⟨hB, ehB⟩ : ∃ hB, hB = h1 ++ [⟨[I (bn s 1), I (bn s 2), sl bb 0 n zz], true⟩] := ⟨_, rfl⟩
  rw [← ehB]
  have gB : Grows h1 hB := ⟨_, ehB⟩
  have lB : hB.length = h1.length + 1 := by rw [ehB]; simp
  have kB : hB[h1.length]? = some ⟨[I (bn s 1), I (bn s 2), sl bb 0 n zz], true⟩ := by rw [ehB]; simp
  refine awp_loop (fun (q : Nat) σ hh => 5 * q ≤ n + 4 ∧ Grows h' hh ∧ σ 0 = S s ∧ σ 2 = .agg #[I 0, I 0, sl 0 0 0 0] ∧ σ 6 = pt h1.length 0 ∧ σ 7 = I ((3 + q : Nat) : Int) ∧ hh[h1.length]? = some ⟨[I (bn s 1), I (bn s 2), sl bb 0 n zz], true⟩ ∧
    (n = 0 ∨ hh[bb]? = some ⟨ints (fillB (fun j => (brk s j : Nat)) (fun j => decide (j < 5 * q)) n), true⟩)) (fun q => n + 4 - 5 * q) 0 ?_ ?_
  · refine ⟨by omega, g1.trans gB, by simp, by simp, by simp, by simp, kB, ?_⟩
    rcases hc with hc | hc
    · left; simpa using hc
    · right; rw [fillB_none _ _ _ (by simp)]; exact gB.at hc.1
  · rintro k σ hh ⟨hk, hg, p0, p2, p6, p7, kb, hb⟩
    simp (disch := omega) [p0, p7, wrap64]
    refine fork_dec (fun hlt => ?_) (fun hge => ?_)
    · have hnz : n ≠ 0 := by omega
      have hb := hb.resolve_left hnz
      have hbb : h'.length ≤ bb ∧ bb < h1.length := by
        rcases hc with hc | hc
        · simp at hc; omega
        · exact hc.2
      have lk : 3 + k < s.length := by omega
      obtain ⟨d1, d2⟩ := bn_at lk
      have t3 := bn_lt s (3 + k)
      have ei : (3 + (k : Int)).toNat = 3 + k := by omega
      have ec : 3 + (k : Int) < s.length := by omega
      have ec0 : (0 : Int) ≤ 3 + (k : Int) := by omega
      simp (disch := omega) [p0, p7, ei, ec, ec0, d1, d2, wrap64]
      refine awp_loop (fun (m : Nat) σ' h'' => m ≤ 5 ∧ Grows h' h'' ∧ σ' 0 = S s ∧ σ' 2 = .agg #[I 0, I 0, sl 0 0 0 0] ∧ σ' 6 = pt h1.length 0 ∧ σ' 7 = I ((3 + k : Nat) : Int) ∧ σ' 9 = I ((m : Int) - 1) ∧ σ' 8 = I ((dv (bn s (3 + k)) (5 - m) : Nat) : Int) ∧ h''[h1.length]? = some ⟨[I (bn s 1), I (bn s 2), sl bb 0 n zz], true⟩ ∧
        h''[bb]? = some ⟨ints (fillB (fun j => (brk s j : Nat)) (fun j => decide (j < 5 * k ∨ 5 * k + m ≤ j ∧ j < 5 * k + 5)) n), true⟩) (fun m => m) 5 ?_ ?_
      · refine ⟨by omega, hg, by simp [p0], by simp [p2], by simp [p6], by simp [p7], by simp, by simp [dv_zero], kb, ?_⟩
        rw [hb]
        congr 3
        exact fillB_same fun j _ => by
          by_cases h1 : j < 5 * k
          · simp [h1]
          · simp [h1]
      · rintro m σ' h'' ⟨hm5, hg', r0, r2, r6, r7, r9, r8, kb', hb'⟩
        simp (disch := omega) [r9]
        refine fork_dec (fun hm0 => ?_) (fun hm0 => ?_)
        · obtain ⟨m, rfl⟩ : ∃ m', m = m' + 1 := ⟨m - 1, by omega⟩
          have ex : 5 - (m + 1) = 4 - m := by omega
          rw [ex] at r8
          obtain ⟨x, hx⟩ : ∃ x, x = dv (bn s (3 + k)) (4 - m) := ⟨_, rfl⟩
          have hxl : x < 256 := by rw [hx]; exact Nat.lt_of_le_of_lt (dv_le _ _) t3
          rw [← hx] at r8
          have hx2 : dv (bn s (3 + k)) (5 - m) = x / 3 := by
            have : 5 - m = 4 - m + 1 := by omega
            rw [this, dv_succ, ← hx]
          have em : ((m : Int) + 1 - 1) = m := by omega
          have e5 : 5 * (3 + (k : Int) - 3) + m = ((5 * k + m : Nat) : Int) := by omega
          have cl : cell h'' h1.length 2 = some (sl bb 0 n zz) := by simp [cell, kb']
          simp (disch := omega) [r6, r7, r9, em, cl, wrap64]
          have e6 : 5 * (3 + (k : Int) - 3) + (m : Int) = 5 * k + m := by omega
          rw [e6]
          refine fork_dec (fun hat => ?_) (fun hat => ?_)
          · have hat' : 5 * k + m < n := by omega
            have hv : (x : Int) % 3 = ((brk s (5 * k + m) : Nat) : Int) := by
              have a : (5 * k + m) / 5 = k := by omega
              have b : (5 * k + m) % 5 = m := by omega
              unfold brk
              rw [a, b, ← hx]; simp
            have hst := store_fill (P' := fun j => decide (j < 5 * k ∨ 5 * k + m ≤ j ∧ j < 5 * k + 5)) (v := (x : Int) % 3) hb' hat' hv (by
              intro j _
              rw [Bool.eq_iff_iff]
              simp only [decide_eq_true_eq, Bool.or_eq_true, beq_iff_eq]
              omega)
            have et : (5 * (k : Int) + m).toNat = 5 * k + m := by omega
            have c0 : (0 : Int) ≤ 5 * k + m := by omega
            have c1 : 5 * (k : Int) + m < n := by omega
            simp (disch := omega) [r0, r2, r6, r7, r8, r9, em, cl, tmod_pos, et, c0, c1, hst, wrap64, e6, tdiv_pos]
            refine ⟨m, ⟨by omega, hg'.put hbb.1 _, rfl, by rw [hx2]; omega, ?_⟩, by omega⟩
            first
              | exact kb'
              | exact ⟨kb', by simp [at_lt hb']⟩
              | exact ⟨by rw [List.getElem?_set_ne (by omega)]; exact kb', by simp [at_lt hb']⟩
          · simp (disch := omega) [r0, r2, r6, r7, r8, r9, em, cl, tdiv_pos, wrap64]
            refine ⟨m, ⟨by omega, hg', rfl, by rw [hx2]; omega, kb', ?_⟩, by omega⟩
            rw [hb']
            congr 3
            exact fillB_same fun j hj => by
              rw [Bool.eq_iff_iff]
              simp only [decide_eq_true_eq, Bool.or_eq_true, Bool.and_eq_true]
              omega
        · have : m = 0 := by omega
          subst this
          simp (disch := omega) [r0, r2, r6, r7, wrap64]
          refine ⟨k + 1, ⟨by omega, hg', by omega, kb', .inr ?_⟩, by omega⟩
          rw [hb']
          congr 3
          exact fillB_same fun j hj => by
            rw [Bool.eq_iff_iff]
            simp only [decide_eq_true_eq, Bool.or_eq_true, Bool.and_eq_true]
            omega
    · have hend : n ≤ 5 * k := by omega
      have hu : unP s = (((bn s 1 : Nat) : Int), ((bn s 2 : Nat) : Int), unB s n) := by rw [hn]; rfl
      have hul : (unB s n).length = n := by simp [unB]
      have hfill : fillB (fun j => ((brk s j : Nat) : Int)) (fun j => decide (j < 5 * k)) n = unB s n := fillB_all _ _ _ fun j hj => by
        rw [decide_eq_true_eq]; omega
      have ho : Vo hh h'.length hh.length shInts (sl bb 0 n zz) (unB s n) := by
        have := Vo.of_ints (h := hh) (b := bb) (lo := h'.length) (hi := hh.length) (z := zz) (X := unB s n) (by
          rcases hz with e | ⟨e, e'⟩
          · exact .inl e
          · have : n = 0 := by simpa using e'
            exact .inr ⟨e, by rw [this]; rfl⟩) (by rw [hul, maxLen_eq]; omega) (by
          intro x hx
          obtain ⟨j, _, rfl⟩ := List.mem_map.1 hx
          have : brk s j < 3 := Nat.mod_lt _ (by decide)
          unfold I64; omega) (by
          rcases hb with e | e
          · exact .inl (by rw [e]; rfl)
          · rw [hfill] at e
            by_cases hk0 : n = 0
            · exact .inl (by rw [hk0]; rfl)
            · refine .inr ⟨e, ?_, at_lt e⟩
              rcases hc with hc | hc
              · simp at hc; omega
              · exact hc.2.1)
        rw [hul] at this
        exact this
      have hov := Vo.of_panel w1 w2 ho
      rw [← hu] at hov
      have hpt : PtP hh (pt h1.length 0) (unP s) := by
        rw [hu]; exact PtP.at kb ho.vr w1 w2
      simp (disch := omega) [p0, p2, p6]
      refine callW_of (c571 _ (unP s) hh (pos_of hp hg) hpt (unP_ok q)) ?_
      rintro _ h2 ⟨rfl, g2⟩
      refine ⟨fun _ => g2, ?_⟩
      simp (disch := omega) [p0, p2, p6]
      refine fork_dec (fun hpk => ?_) (fun hpk => ?_)
      · have e : fault s = 0 := by unfold fault; rw [if_neg n1, if_neg (by simpa using hl), if_neg (by simp [q3]), if_neg (by simpa using hpk)]
        have hov2 := (hov.grow g2).wide (Nat.le_refl _) g2.le
        have kb2 : cellsAt h2 h1.length 0 3 = some [I (bn s 1), I (bn s 2), sl bb 0 n zz] := by rw [cellsAt_of (g2.at kb) (by simp)]; simp
        rw [e, if_pos rfl]
        simp (disch := omega) [p0, p2, p6, kb2, resOf, resAll, resOne, aField]
        exact ⟨hg.trans g2, hov2⟩
      · have e : fault s = 4 := by unfold fault; rw [if_neg n1, if_neg (by simpa using hl), if_neg (by simp [q3]), if_pos hpk]
        rw [bad 4 e (by decide), e]
        simp (disch := omega) [p0, p2, p6, resOf, resAll, resOne, aField]
        exact ⟨hg.trans g2, Vo.zero_panel⟩

theorem c426 (h : Heap) (hp : 0 < h.length) (s : List UInt8) (hs : s.length ≤ 1048576) : ACall Gam 426 [S s] h fun r h' => Grows h h' ∧ ∃ r0, r = .tuple #[r0, I (unAns s).2] ∧ Vo h' h.length h'.length shPanel r0 (unAns s).1 ∧ siz shPanel (unAns s).1 ≤ 16777216 := by
  have hz := unAns_siz s
  refine ACall_intro g426 rfl ?_
  unfold fn426
  simp (disch := omega)
  refine callW_of (c574 h hp s hs) ?_
  rintro _ h1 ⟨g1, r0, rfl, o⟩
  by_cases q : fault s = 0
  rotate_left
  · have e : unAns s = ((0, 0, []), 8) := by
      have : ¬ unOk s = true := fun h => q ((fault_zero s).2 h)
      simp [unAns, this]
    rw [e] at hz ⊢
    obtain ⟨x, y, z, rfl⟩ := o.vr.panel3
    simp (disch := omega) [q, resOf, resAll, resOne, aField]
    exact ⟨g1, Vo.zero_panel, hz⟩
  · have e : unAns s = (unP s, 0) := by simp [unAns, (fault_zero s).1 q]
    rw [e] at hz ⊢
    rw [if_pos q] at o
    rw [q]
    obtain ⟨x, y, z, rfl⟩ := o.vr.panel3
    have o2 := o
    obtain ⟨so, e3, w1, w2, o3⟩ := o2.panel
    obtain ⟨bb, zz, e4, _⟩ := o3.ints
    simp only [Value.agg.injEq, Array.mk.injEq, List.cons.injEq] at e3
    obtain ⟨rfl, rfl, rfl, _⟩ := e3
    subst e4
    simp (disch := omega) [resOf, resAll, resOne, aField]
    exact ⟨g1, o, hz⟩
theorem c381 (h : Heap) (hp : 0 < h.length) (s : List UInt8) (hs : s.length ≤ 1048576) : ACall Gam 381 [S s] h fun r h' => Grows h h' ∧ r = I (fault s) := by
  refine ACall_intro g381 rfl ?_
  unfold fn381
  simp (disch := omega)
  refine callW_of (c574 h hp s hs) ?_
  rintro _ h1 ⟨g1, r0, rfl, o⟩
  obtain ⟨x, y, z, rfl⟩ := o.vr.panel3
  simp (disch := omega)
  exact g1
theorem c88 (h : Heap) (hp : 0 < h.length) (s : List UInt8) (hs : s.length ≤ 1048576) : ACall Gam 88 [S s] h fun r h' => Grows h h' ∧ r = I (fault s) := by
  refine ACall_intro g88 rfl ?_
  unfold fn88
  simp (disch := omega)
  refine fork_dec (fun h5 => ?_) (fun h5 => ?_)
  · have e : fault s = 1 := by unfold fault; rw [if_pos (.inl (by omega))]
    simp (disch := omega) [h5, e, Grows.refl]
  have l0 : 0 < s.length := by omega
  have l1 : 1 < s.length := by omega
  have l2 : 2 < s.length := by omega
  obtain ⟨z1, z2⟩ := bn_at l0
  obtain ⟨a1, a2⟩ := bn_at l1
  obtain ⟨b1, b2⟩ := bn_at l2
  have t0 := bn_lt s 0
  have t1 := bn_lt s 1
  have t2 := bn_lt s 2
  have i1 : (1 : Int) < s.length := by omega
  have i2 : (2 : Int) < s.length := by omega
  simp (disch := omega) [h5, l0, i1, i2, z1, z2, a1, b1, a2, b2, wrap64]
  refine fork_dec (fun hM => ?_) (fun hM => ?_)
  rotate_left
  · have e : fault s = 1 := by unfold fault; rw [if_pos (.inr (.inl (by omega)))]
    simp (disch := omega) [h5, hM, e, Grows.refl]
  simp (disch := omega) [h5, hM, l0, i1, i2, z1, z2, a1, b1, a2, b2, wrap64]
  refine callW_of (c198 (bn s 1) (bn s 2) h) ?_
  rintro _ h' ⟨rfl, rfl⟩
  cases q : okSz (bn s 1) (bn s 2)
  · have e : fault s = 1 := by unfold fault; rw [if_pos (.inr (.inr q))]
    simp (disch := omega) [e, Grows.refl]
  obtain ⟨qW, qH⟩ := okSz_iff.1 q
  have hi := inner_bd qW qH
  have n1 : ¬ (s.length < 5 ∨ bn s 0 ≠ 77 ∨ okSz (bn s 1) (bn s 2) = false) := by simp [q]; omega
  simp (disch := omega) [l0, i1, i2, z1, z2, a1, b1, a2, b2, wrap64]
  refine callW_of (c181 (bn s 1) (bn s 2) qW qH h') ?_
  rintro _ h' ⟨rfl, rfl⟩
  simp (disch := omega)
  refine fork_dec (fun hl => ?_) (fun hl => ?_)
  rotate_left
  · have e : fault s = 2 := by unfold fault; rw [if_neg n1, if_pos hl]
    simp (disch := omega) [e, Grows.refl]
  have e1 : ((s.length : Int) - 2).toNat = s.length - 2 := by omega
  have sl := aSlice_hi (h := h') (l := s) (k := .i64) (n := (s.length : Int) - 2) (by omega) (by omega)
  rw [e1] at sl
  simp (disch := omega) [wrap64, sl]
  have hps : (s.length : Int) = 5 + (inner (bn s 1) (bn s 2) + 4) / 5 := hl
  refine callW_of (c191 (s.take (s.length - 2)) (by simp; omega) h') ?_
  rintro _ h1 ⟨rfl, g1⟩
  simp (disch := omega)
  refine fork_dec (fun hd => ?_) (fun hd => ?_)
  rotate_left
  · have q3 : sumOk s = false := by
      cases hq : sumOk s
      · rfl
      · exact absurd ((sum_ended (by omega)).2 hq) hd
    have e : fault s = 3 := by unfold fault; rw [if_neg n1, if_neg (by simpa using hl), if_pos q3]
    simp (disch := omega) [e, g1]
  have q3 : sumOk s = true := (sum_ended (by omega)).1 hd
  simp (disch := omega)
  refine callW_of (c195 h1 (pos_of hp g1) s hs) ?_
  rintro _ h2 ⟨g2, r0, rfl, o⟩
  obtain ⟨x, y, z, rfl⟩ := o.vr.panel3
  have e5 : lenOk s = true := by simp [lenOk, q, hl]; omega
  by_cases hpk : packP (unP s) = s
  · have e : fault s = 0 := by unfold fault; rw [if_neg n1, if_neg (by simpa using hl), if_neg (by simp [q3]), if_neg (by simpa using hpk)]
    have e6 : unOk s = true := (fault_zero s).1 e
    rw [e6]
    simp (disch := omega) [e]
    exact g1.trans g2
  · have e : fault s = 4 := by unfold fault; rw [if_neg n1, if_neg (by simpa using hl), if_neg (by simp [q3]), if_pos hpk]
    have e6 : unOk s = false := by simp [unOk, hpk]
    rw [e6]
    simp (disch := omega) [e]
    exact g1.trans g2
end Am
/-! AmP11 -/
set_option linter.unusedVariables false
set_option linter.unusedSimpArgs false
set_option maxHeartbeats 4000000
set_option maxRecDepth 4000
namespace Am
open Go

/-- How many inner points lie above row y. -/
def rowN (W : Nat) : Nat → Nat
  | 0 => 0
  | y + 1 => rowN W y + if y = 0 then 0 else W - y % 2
theorem rowN_le : ∀ {W : Nat}, W < 9 → ∀ {y : Nat}, y < 17 → rowN W y ≤ 128 := by decide +kernel
theorem rowN_end : ∀ {W : Nat}, W < 9 → ∀ {H : Nat}, H < 9 → 1 ≤ W → 1 ≤ H → (rowN W (2 * H) : Int) = (W : Int) * (H - 1) + H * (W - 1) := by decide +kernel
/-- The number of a point. -/
def numP (W x y : Nat) : Nat := rowN W y + (x - 1) / 2
structure IsPt (W H k x y : Nat) : Prop where
  y1 : 1 ≤ y
  y2 : y < 2 * H
  lo : rowN W y ≤ k
  hi : k < rowN W (y + 1)
  x : x = 2 * (k - rowN W y) + 1 + y % 2
end Am
/-! AmP12 -/
set_option linter.unusedVariables false
set_option linter.unusedSimpArgs false
set_option maxHeartbeats 4000000
set_option maxRecDepth 4000
namespace Am
open Go

/-! ### where a part lies -/
def hasPart (P : Pan) (x y w h : Int) : Bool := inR w 1 P.1 && (inR h 1 P.2.1 && (inR x 0 (P.1 - w) && inR y 0 (P.2.1 - h)))
/-! ### all points, in order -/
def pairV (p : Nat × Nat) : List Value := [I p.1, I p.2]
def pairsV (l : List (Nat × Nat)) : List Value := (l.map pairV).flatten
/-- The first m points, in order. -/
def PtsOk (W H : Nat) (l : List (Nat × Nat)) : Prop := ∀ k (hk : k < l.length), IsPt W H k l[k].1 l[k].2
end Am
/-! AmP13 -/
set_option linter.unusedVariables false
set_option linter.unusedSimpArgs false
set_option maxHeartbeats 4000000
set_option maxRecDepth 4000
namespace Am
open Go

open Classical in
/-- The inner point with a number. -/
noncomputable def thePt (W H k : Nat) : Nat × Nat := if e : ∃ p : Nat × Nat, IsPt W H k p.1 p.2 then Classical.choose e else (0, 0)
/-- The break of a part's point, in the panel. -/
noncomputable def prt (br : List Int) (W w h X Y k : Nat) : Int := at0 br (numP W ((thePt w h k).1 + 2 * X) ((thePt w h k).2 + 2 * Y))
noncomputable def partP (P : Pan) (x y w h : Int) : Pan := (w, h, (List.range (rowN w.toNat (2 * h.toNat))).map fun k => prt P.2.2 P.1.toNat w.toNat h.toNat x.toNat y.toNat k)
noncomputable def partAns (P : Pan) (x y w h : Int) : Pan × Int := if okP P then (if hasPart P x y w h then (partP P x y w h, 0) else ((0, 0, []), 2)) else ((0, 0, []), 1)

end Am
/-! AmP14 -/
set_option linter.unusedVariables false
set_option linter.unusedSimpArgs false
set_option maxHeartbeats 4000000
set_option maxRecDepth 4000
namespace Am
open Go

theorem IsPt.ex {W H k : Nat} (w1 : 1 ≤ W) (h1 : 1 ≤ H) (hk : k < rowN W (2 * H)) : ∃ x y, IsPt W H k x y := by
  have key : ∀ m, k < rowN W (m + 1) → ∃ y, 1 ≤ y ∧ y ≤ m ∧ rowN W y ≤ k ∧ k < rowN W (y + 1) := by
    intro m
    induction m with
    | zero => intro h; simp [rowN] at h
    | succ m ih =>
      intro h
      by_cases e : k < rowN W (m + 1)
      · obtain ⟨y, a, b, c, d⟩ := ih e
        exact ⟨y, a, by omega, c, d⟩
      · exact ⟨m + 1, by omega, by omega, by omega, h⟩
  obtain ⟨y, a, b, c, d⟩ := key (2 * H - 1) (by rw [show 2 * H - 1 + 1 = 2 * H by omega]; exact hk)
  exact ⟨_, y, ⟨a, by omega, c, d, rfl⟩⟩

/-- The points of a part that have been put in. -/
noncomputable def inPart (W H w h X Y k : Nat) (j : Nat) : Bool := decide (2 * X < (thePt W H j).1 ∧ (thePt W H j).1 < 2 * X + 2 * w ∧ 2 * Y < (thePt W H j).2 ∧ (thePt W H j).2 < 2 * Y + 2 * h ∧ numP w ((thePt W H j).1 - 2 * X) ((thePt W H j).2 - 2 * Y) < k)
/-- What is put in is what is wanted there. -/
def Fits (f : Nat → Int) (W w h X Y : Nat) (br : List Int) : Prop := ∀ k px py, IsPt w h k px py → k < rowN w (2 * h) → at0 br k = f (numP W (px + 2 * X) (py + 2 * Y))

end Am
/-! AmP16 -/
set_option linter.unusedVariables false
set_option linter.unusedSimpArgs false
set_option maxHeartbeats 4000000
set_option maxRecDepth 4000
namespace Am
open Go

/-- Numbers of which some have been replaced. -/
def fillG (g f : Nat → Int) (P : Nat → Bool) (n : Nat) : List Int := (List.range n).map fun j => if P j then f j else g j
/-! ### the law's two sides -/
noncomputable def pasteF (W H w X Y : Nat) (br : List Int) (i : Nat) : Int := at0 br (numP w ((thePt W H i).1 - 2 * X) ((thePt W H i).2 - 2 * Y))
noncomputable def pasteP (P Q : Pan) (x y : Int) : Pan := (P.1, P.2.1, fillG (at0 P.2.2) (pasteF P.1.toNat P.2.1.toNat Q.1.toNat x.toNat y.toNat Q.2.2) (inPart P.1.toNat P.2.1.toNat Q.1.toNat Q.2.1.toNat x.toNat y.toNat (rowN Q.1.toNat (2 * Q.2.1.toNat))) (rowN P.1.toNat (2 * P.2.1.toNat)))
noncomputable def pasteAns (P : Pan) (x y : Int) (Q : Pan) : Pan × Int := if okP P && okP Q then (if hasPart P x y Q.1 Q.2.1 then (pasteP P Q x y, 0) else ((0, 0, []), 2)) else ((0, 0, []), 1)
end Am
/-! AmD1 -/
set_option linter.unusedVariables false
set_option linter.unusedSimpArgs false
set_option maxHeartbeats 4000000
set_option maxRecDepth 20000
namespace Am
open Go

/-- The digits of a number; none for 0. -/
def decN (n : Nat) : List UInt8 := if h : n = 0 then [] else decN (n / 10) ++ [UInt8.ofNat (48 + n % 10)]
termination_by n
decreasing_by omega
def decS (n : Int) : List UInt8 := if n = 0 then [48] else if n < 0 then 45 :: decN n.natAbs else decN n.natAbs
end Am
/-! AmD2 -/
set_option linter.unusedVariables false
set_option linter.unusedSimpArgs false
set_option maxHeartbeats 4000000
set_option maxRecDepth 4000
namespace Am
open Go

/-- Texts with a text between them. -/
def joinS (sep : List UInt8) : List (List UInt8) → List UInt8
  | [] => []
  | a :: r => a ++ r.flatMap fun x => sep ++ x
def okT (t : Trip) : Bool := inR t.1 0 111 && (okBr t.2.1 && okBr t.2.2)
def okD (X : List Trip) : Bool := X.all okT && decide (X.length ≤ 112)
def signB (b : Int) : UInt8 := if b = 1 then 124 else if b = 2 then 45 else 43
def wordT (t : Trip) : List UInt8 := decS t.1 ++ [signB t.2.1, signB t.2.2]
def diffT (X : List Trip) : List UInt8 := joinS [32] (X.map wordT)
def diffText (X : List Trip) : List UInt8 := if okD X then diffT X else []

end Am
/-! AmD3 -/
set_option linter.unusedVariables false
set_option linter.unusedSimpArgs false
set_option maxHeartbeats 4000000
set_option maxRecDepth 4000
namespace Am
open Go

end Am
/-! AmJ1 -/
set_option linter.unusedVariables false
set_option linter.unusedSimpArgs false
set_option maxHeartbeats 4000000
set_option maxRecDepth 4000
namespace Am
open Go

/-- A step fits a panel with n points. -/
def okStep (n : Nat) (s : Trip) : Bool := inR s.1 0 ((n : Int) - 1) && (okBr s.2.1 && (okBr s.2.2 && !decide (s.2.1 = s.2.2)))
theorem okStep_iff {n : Nat} {s : Trip} : okStep n s = true ↔ (0 ≤ s.1 ∧ s.1 < n) ∧ (0 ≤ s.2.1 ∧ s.2.1 ≤ 2) ∧ (0 ≤ s.2.2 ∧ s.2.2 ≤ 2) ∧ s.2.1 ≠ s.2.2 := by
  simp only [okStep, okBr, Bool.and_eq_true, inR_iff, Bool.not_eq_true', decide_eq_false_iff_not]
  omega
/-- Steps undone, the last one first: none if one does not fit. -/
def runB : List Trip → List Int → Option (List Int)
  | [], br => some br
  | s :: l, br => if okStep br.length s && decide (at0 br s.1.toNat = s.2.2) then runB l (br.set s.1.toNat s.2.1) else none
/-- Steps made. -/
def runF : List Trip → List Int → Option (List Int)
  | [], br => some br
  | s :: l, br => if okStep br.length s && decide (at0 br s.1.toNat = s.2.1) then runF l (br.set s.1.toNat s.2.2) else none
def okJ (X : Jrn) : Bool := okP X.1 && (decide (X.2.1.length + X.2.2.length ≤ 50) && ((runB X.2.1.reverse X.1.2.2).isSome && (runF X.2.2 X.1.2.2).isSome))

/-- A number written in a block of numbers. -/
theorem ints_set (l : List Int) (k : Nat) (v : Int) : (ints l).set k (I v) = ints (l.set k v) := by simp [ints, List.map_set]
theorem store_int {h : Heap} {b k : Nat} {l : List Int} {v : Int} (hb : h[b]? = some ⟨ints l, true⟩) (hk : k < l.length) : storeAt h b k [I v] = some (h.set b ⟨ints (l.set k v), true⟩) := by
  rw [store_one hb (by simp [ints]; exact hk), ints_set]
theorem cell_int {h : Heap} {b k : Nat} {l : List Int} {r : Bool} (hb : h[b]? = some ⟨ints l, r⟩) (hk : k < l.length) : cell h b k = some (I (at0 l k)) := by
  rw [at0_of hk]
  exact cell_of hb (by simp [ints, hk])
theorem ok_len {W H : Int} {br : List Int} (ok : OkP (W, H, br)) : br.length ≤ 112 := by
  have := inner_bd (a := W) (b := H) ok.w ok.h
  have := ok.n
  simp only at this
  omega
/-- A pointer to a journal. -/
def PtJ (h : Heap) (v : Value) (X : Jrn) : Prop := ∃ b o s sp sf, v = pt b o ∧ cellsAt h b o 5 = some [I X.1.1, I X.1.2.1, s, sp, sf] ∧ Vr h shInts s X.1.2.2 ∧ Vr h shTrips sp X.2.1 ∧ Vr h shTrips sf X.2.2 ∧ I64 X.1.1 ∧ I64 X.1.2.1
theorem PtJ.grow {h h' : Heap} {v : Value} {X : Jrn} (x : PtJ h v X) (g : Grows h h') : PtJ h' v X := by
  obtain ⟨b, o, s, sp, sf, e, h1, h2, h3, h4, h5⟩ := x
  exact ⟨b, o, s, sp, sf, e, g.cellsAt h1, h2.grow g, h3.grow g, h4.grow g, h5⟩
theorem PtJ.of {h : Heap} {b : Nat} {W H : Int} {s sp sf : Value} {br : List Int} {p f : List Trip} {r : Bool} (hb : h[b]? = some ⟨[I W, I H, s, sp, sf], r⟩) (h1 : Vr h shInts s br) (h2 : Vr h shTrips sp p) (h3 : Vr h shTrips sf f) (w1 : I64 W) (w2 : I64 H) : PtJ h (pt b 0) ((W, H, br), p, f) :=
  ⟨b, 0, s, sp, sf, rfl, cellsAt_all hb rfl, h1, h2, h3, w1, w2⟩
theorem PtJ.panel {h : Heap} {b o : Nat} {X : Jrn} (x : PtJ h (pt b o) X) : PtP h (pt b o) X.1 := by
  obtain ⟨b, o, s, sp, sf, e, h1, h2, h3, h4, w1, w2⟩ := x
  injection e with e; injection e with e; injection e with e1 e2; subst e1; subst e2
  have k0 := (cell_in (i := 0) h1 (by omega)).1
  have k1 := (cell_in (i := 1) h1 (by omega)).1
  have k2 := (cell_in (i := 2) h1 (by omega)).1
  exact ⟨_, _, s, rfl, by simpa using k0, by simpa using k1, by simpa using k2, h2, w1, w2⟩

end Am

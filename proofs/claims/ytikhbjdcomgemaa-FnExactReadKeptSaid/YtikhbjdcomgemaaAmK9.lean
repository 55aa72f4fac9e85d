/- Contracts: AmY21, AmY22, AmY23, AmY24, AmY25, AmY26, AmY27, AmY28, AmY29. -/
import Derived.Test.YtikhbjdcomgemaaAmK8
import Derived.Test.YtikhbjdcomgemaaAmK5
import Derived.Test.YtikhbjdcomgemaaAmK4
set_option linter.unusedVariables false
set_option linter.unusedSimpArgs false
set_option maxHeartbeats 4000000
set_option maxRecDepth 4000
namespace Am
open Go

/-- Short names, no more breaks than panels have. -/
def SmallK (X : Lib) : Prop := ∀ y ∈ X, y.1.length ≤ 12 ∧ y.2.2.2.length ≤ 128
end Am
/-! AmY22 -/
set_option linter.unusedVariables false
set_option linter.unusedSimpArgs false
set_option maxHeartbeats 4000000
set_option maxRecDepth 4000
namespace Am
open Go

theorem EntO.vr {h : Heap} {r : Row} (e : EntO h r) : Vr h shPanel (.agg #[I r.1.2.1, I r.1.2.2.1, rowS r]) r.1.2 := by
  obtain ⟨lo, hi, vo, _⟩ := e.vo
  exact Vr.of_panel e.w e.h vo.vr
/-- Rows that are of a list, or of the first of another. -/
def FromTwo (L L0 LB : List Row) (k : Nat) : Prop := ∀ q ∈ L, q ∈ L0 ∨ ∃ j, j < k ∧ ∃ hj : j < LB.length, q = LB[j]
/-- The rows that are put in are there. -/
def RowsThere (h : Heap) (bw : Nat) (LB : List Row) : Prop := (LB = [] ∨ h[bw]? = some ⟨rowsC LB, true⟩) ∧ ∀ r ∈ LB, EntO h r
theorem RowsThere.grow {h h' : Heap} {bw : Nat} {LB : List Row} (x : RowsThere h bw LB) (g : Grows h h') : RowsThere h' bw LB :=
  ⟨x.1.imp id fun q => g.at q, fun r hr => (x.2 r hr).frame fun c hc => g.look ((x.2 r hr).lt c hc)⟩
/-- A list's own block lies outside a range. -/
def Outside (v : Value) (lo hi : Nat) : Prop := ∀ c m, v = sl c 0 m 4 → c = 0 ∨ c < lo ∨ hi ≤ c
end Am
/-! AmY23 -/
set_option linter.unusedVariables false
set_option linter.unusedSimpArgs false
set_option maxHeartbeats 4000000
set_option maxRecDepth 4000
namespace Am
open Go

end Am
/-! AmY24 -/
set_option linter.unusedVariables false
set_option linter.unusedSimpArgs false
set_option maxHeartbeats 4000000
set_option maxRecDepth 4000
namespace Am
open Go

theorem append_num {h : Heap} {lo hi : Nat} {v : Value} {l : List Int} {a : Int} {K : Value → Heap → Prop} (hp : 0 < lo) (hl : l.length ≤ 1048576) (hv : Bf h lo hi v 1 (ints l))
    (hK : ∀ v' h'', Mod lo hi h h'' → Bf h'' h.length h''.length v' 1 (ints (l ++ [a])) → K v' h'') :
    bindW (aBuildSlice 1 1 h [(0, .agg #[I 0]), (1, I a)]) fun y h'' => bindW (aAppend 1 h'' y v) K := by
  have e : aBuildSlice 1 1 h [(0, .agg #[I 0]), (1, I a)] = some (sl h.length 0 1 1, h ++ [⟨[I a], true⟩]) := by simp [aBuildSlice]
  rw [e]
  simp only [bindW_some]
  refine append_bf hp (hv.grow ⟨_, rfl⟩) (new := [I a]) ?_ (by omega) (by simp) (by simp) (by simp [ints, maxSize]; omega) ?_
  · simp [newCells]
    rw [cellsAt_of (k := ⟨[I a], true⟩) (by simp) (by simp)]
    simp
  · intro v' h'' m1 b1
    refine hK v' h'' ((Mod.push _).trans m1) ?_
    rw [ints_append]
    exact b1.wide (by simp) (Nat.le_refl _)
theorem kinds_64 (l : List UInt8) : ∀ x ∈ l.map kindB, I64 x := by
  intro x hx
  obtain ⟨c, _, rfl⟩ := List.mem_map.1 hx
  exact kindB_64 c
theorem kinds_take {l : List UInt8} {k : Nat} (hk : k < l.length) : (l.map kindB).take (k + 1) = (l.map kindB).take k ++ [kindB l[k]] := by
  rw [List.take_succ_eq_append_getElem (by simpa using hk)]; simp
theorem nth_of {l : List (List UInt8)} {i : Nat} (h : i < l.length) : nth l i = l[i] := by simp [nth, h]
def spRes (s : List UInt8) : Pan × Bool := if (spW s).length = 2 ∧ (spV s).length = 2 then (spP s, spOk s) else ((0, 0, []), false)
theorem c468 (h : Heap) (hp : 0 < h.length) (s : List UInt8) (hs : s.length ≤ 1048576) : ACall Gam 468 [S s] h fun r h' => Grows h h' ∧ ∃ r0, r = .tuple #[r0, B (spRes s).2] ∧ Vo h' h.length h'.length shPanel r0 (spRes s).1 := by
  refine ACall_intro g468 rfl ?_
  unfold fn468
  rw [awp_seq, awp_reg]
  generalize hK : seqQ Gam _ _ 0 = K
  simp (disch := omega)
  subst hK
  simp only [seqQ_zero]
  rw [awp_seq, awp_reg]
  generalize hK : seqQ Gam _ _ 0 = K
  simp (disch := omega)
  refine callW_of (split_ok (.inr rfl) s 58 hs h hp) ?_
  rintro wv h1 ⟨g1, bw⟩
  have hW : splitS 58 s = spW s := rfl
  rw [hW] at bw
  obtain ⟨wb, wo, wn, rfl, hwn, hwc⟩ := bw.reads
  have hwn' : wn = (spW s).length := by simpa [texts] using hwn
  subst hwn'
  have l1 := g1.le
  subst hK
  simp only [seqQ_zero]
  by_cases e2 : (spW s).length = 2
  rotate_left
  · have er : spRes s = ((0, 0, []), false) := by simp [spRes, e2]
    rw [er]
    have e2' : ¬ ((spW s).length : Int) = 2 := by omega
    simp (disch := omega) [e2, e2', resOf, resAll, resOne, aField]
    exact ⟨g1, Vo.zero_panel⟩
  have e2' : ((spW s).length : Int) = 2 := by omega
  have c0 := texts_cell hwc hwn (k := 0) (by omega)
  have c1 := texts_cell hwc hwn (k := 1) (by omega)
  rw [← nth_of (i := 0) (by omega), Nat.add_zero] at c0
  rw [← nth_of (i := 1) (by omega)] at c1
  have wl : ∀ w ∈ spW s, w.length ≤ s.length := by
    intro w hw
    have := splitG_sum 58 s [] w hw
    simpa using this
  have n0 : (nth (spW s) 0).length ≤ s.length := by rw [nth_of (by omega)]; exact wl _ (List.getElem_mem _)
  have n1 : (nth (spW s) 1).length ≤ s.length := by rw [nth_of (by omega)]; exact wl _ (List.getElem_mem _)
  rw [awp_seq]
  generalize hK : seqQ Gam _ (retQ _ _) = K
  simp (disch := omega) [e2, e2']
  subst hK
  simp only [seqQ_zero]
  rw [awp_seq, awp_reg]
  generalize hK : seqQ Gam _ _ 0 = K
  simp (disch := omega) [e2, c0]
  refine callW_of (split_ok (.inr rfl) (nth (spW s) 0) 120 (by omega) h1 (by omega)) ?_
  rintro vv h2 ⟨g2, bv⟩
  have hV : splitS 120 (nth (spW s) 0) = spV s := rfl
  rw [hV] at bv
  obtain ⟨vb, vo, vn, rfl, hvn, hvc⟩ := bv.reads
  have hvn' : vn = (spV s).length := by simpa [texts] using hvn
  subst hvn'
  have g12 := g1.trans g2
  have l2 := g12.le
  subst hK
  simp only [seqQ_zero]
  by_cases e3 : (spV s).length = 2
  rotate_left
  · have er : spRes s = ((0, 0, []), false) := by simp [spRes, e3]
    rw [er]
    have e3' : ¬ ((spV s).length : Int) = 2 := by omega
    simp (disch := omega) [e3, e3', resOf, resAll, resOne, aField]
    exact ⟨g12, Vo.zero_panel⟩
  have e3' : ((spV s).length : Int) = 2 := by omega
  have er : spRes s = (spP s, spOk s) := by simp [spRes, e2, e3]
  rw [er]
  have d0 := texts_cell hvc hvn (k := 0) (by omega)
  have d1 := texts_cell hvc hvn (k := 1) (by omega)
  rw [← nth_of (i := 0) (by omega), Nat.add_zero] at d0
  rw [← nth_of (i := 1) (by omega)] at d1
  have vl : ∀ w ∈ spV s, w.length ≤ s.length := by
    intro w hw
    have := splitG_sum 120 (nth (spW s) 0) [] w hw
    have h' : w.length ≤ (nth (spW s) 0).length := by simpa using this
    omega
  have m0 : (nth (spV s) 0).length ≤ s.length := by rw [nth_of (by omega)]; exact vl _ (List.getElem_mem _)
  have m1 : (nth (spV s) 1).length ≤ s.length := by rw [nth_of (by omega)]; exact vl _ (List.getElem_mem _)
  have c1 := g2.cell c1
  rw [awp_seq]
  generalize hK : seqQ Gam _ (retQ _ _) = K
  simp (disch := omega) [e3, e3']
  subst hK
  simp only [seqQ_zero]
  rw [awp_seq, awp_reg]
  generalize hK : seqQ Gam _ _ 0 = K
  simp (disch := omega) [e3, d0]
  refine callW_of (c439 (nth (spV s) 0) (by omega) h2 (by omega)) ?_
  rintro _ h3 ⟨g3, rfl⟩
  simp (disch := omega)
  subst hK
  simp only [seqQ_zero]
  rw [awp_seq, awp_reg]
  generalize hK : seqQ Gam _ _ 0 = K
  have d1 := g3.cell d1
  have l3 := g3.le
  simp (disch := omega) [e3, d1]
  refine callW_of (c439 (nth (spV s) 1) (by omega) h3 (by omega)) ?_
  rintro _ h4 ⟨g4, rfl⟩
  simp (disch := omega)
  subst hK
  simp only [seqQ_zero]
  have g14 := g12.trans (g3.trans g4)
  have l4 := g14.le
  have c1 := (g3.trans g4).cell c1
  have i1 := rdDec_64 (nth (spV s) 0)
  have i2 := rdDec_64 (nth (spV s) 1)
  rw [awp_seq, awp_reg]
  generalize hK : seqQ Gam _ _ 0 = K
  simp (disch := omega)
  subst hK
  simp only [seqQ_zero]
  rw [awp_seq]
  generalize hK : seqQ Gam _ (retQ _ _) = K
  simp (disch := omega)
  refine awp_loop (fun (k : Nat) σ h' => k ≤ (nth (spW s) 1).length ∧ Grows h4 h' ∧ σ 2 = .agg #[I 0, I 0, sl 0 0 0 0] ∧ σ 4 = sl wb wo 2 1 ∧ σ 7 = B (rdDec (nth (spV s) 0)).2 ∧ σ 9 = B (rdDec (nth (spV s) 1)).2 ∧ σ 11 = I k ∧ ∃ q, σ 10 = .agg #[I (rdDec (nth (spV s) 0)).1, I (rdDec (nth (spV s) 1)).1, q] ∧ Bf h' h4.length h'.length q 1 (ints (((nth (spW s) 1).map kindB).take k))) (fun k => (nth (spW s) 1).length - k) 0 ?_ ?_
  · refine ⟨by omega, Grows.refl _, by simp, by simp [e2], by simp, by simp, by simp, sl 0 0 0 0, by simp, ?_⟩
    simp [ints]; exact Bf.nil
  · rintro k σ h' ⟨hk, g, q2, q4, q7, q9, q11, q, q10, bf⟩
    have c1' := g.cell c1
    have lg := g.le
    simp (disch := omega) [q4, q11, c1']
    refine fork_dec (fun hlt => ?_) (fun hge => ?_)
    · have k1 : k < (nth (spW s) 1).length := by omega
      have hat := at8_of k1
      have hea := at8_eq k1
      have hkt := kinds_take k1
      simp (disch := omega) [q4, q10, q11, c1', k1, hat, hea]
      refine callW_of (c467 _ h') ?_
      rintro _ h' ⟨rfl, rfl⟩
      try refine ⟨fun e => (by cases e), ?_⟩
      try simp (disch := omega)
      refine append_num (by omega) (by simp; omega) bf fun v2 h5 m5 b5 => ?_
      have g5 := m5.grows g (Nat.le_refl _)
      have l5 := m5.1
      obtain ⟨vb5, vn5, vz5, ev⟩ := b5.sl
      subst ev
      simp (disch := omega) [q2, q4, q7, q9, q10, q11, wrap64]
      refine ⟨k + 1, ⟨by omega, g5, by omega, ?_⟩, by omega⟩
      rw [hkt, hea]
      exact b5.wide (by omega) (Nat.le_refl _)
    · have ek : k = (nth (spW s) 1).length := by omega
      rw [ek, List.take_of_length_le (by simp)] at bf
      have vo := bf.ints (by rw [List.length_map, maxLen_eq]; omega) (kinds_64 _)
      have vp : Vo h' h4.length h'.length shPanel (.agg #[I (rdDec (nth (spV s) 0)).1, I (rdDec (nth (spV s) 1)).1, q]) (spP s) := Vo.of_panel i1 i2 vo
      obtain ⟨vb5, vn5, vz5, ev⟩ := bf.sl
      subst ev
      subst hK
      have vw := vp.wide l4 (Nat.le_refl _)
      have gg := g14.trans g
      cases r1 : (rdDec (nth (spV s) 0)).2
      · simp (disch := omega) [q2, q7, q9, q10, r1, resOf, resAll, resOne, aField]
        exact ⟨gg, _, ⟨rfl, by simp [spOk, r1]⟩, vw⟩
      · cases r2 : (rdDec (nth (spV s) 1)).2
        · simp (disch := omega) [q2, q7, q9, q10, r1, r2, resOf, resAll, resOne, aField]
          exact ⟨gg, _, ⟨rfl, by simp [spOk, r1, r2]⟩, vw⟩
        · simp (disch := omega) [q2, q7, q9, q10, r1, r2, resOf, resAll, resOne, aField]
          exact ⟨gg, _, ⟨rfl, by simp [spOk, r1, r2]⟩, vw⟩
end Am
/-! AmY25 -/
set_option linter.unusedVariables false
set_option linter.unusedSimpArgs false
set_option maxHeartbeats 4000000
set_option maxRecDepth 4000
namespace Am
open Go

theorem read_sp (s : List UInt8) : readAns s = if (spRes s).2 && okP (spRes s).1 then ((spRes s).1, true) else ((0, 0, []), false) := by
  by_cases e2 : (spW s).length = 2
  · by_cases e3 : (spV s).length = 2
    · have er : spRes s = (spP s, spOk s) := by simp [spRes, e2, e3]
      rw [er]
      cases h1 : spOk s
      · rw [sp_no (.inl h1)]; rfl
      · cases h2 : okP (spP s)
        · rw [sp_no (.inr h2)]; simp only [h2]; rfl
        · rw [sp_yes e2 e3 h1 h2]; simp only [h2]; rfl
    · have er : spRes s = ((0, 0, []), false) := by simp [spRes, e3]
      rw [er, sp_v e3]; rfl
  · have er : spRes s = ((0, 0, []), false) := by simp [spRes, e2]
    rw [er, sp_w e2]; rfl
theorem c413 (h : Heap) (hp : 0 < h.length) (s : List UInt8) (hs : s.length ≤ 1048576) : ACall Gam 413 [S s] h fun r h' => Grows h h' ∧ ∃ r0, r = .tuple #[r0, B (readAns s).2] ∧ Vo h' h.length h'.length shPanel r0 (readAns s).1 := by
  refine ACall_intro g413 rfl ?_
  unfold fn413
  simp (disch := omega)
  refine callW_of (c468 h hp s hs) ?_
  rintro _ h1 ⟨g1, r0, rfl, o1⟩
  obtain ⟨a, b, c, rfl⟩ := o1.vr.panel3
  have st1 := store_box (h := h1) (cs := [I 0, I 0, sl 0 0 0 0]) (xs := [a, b, c]) rfl
  try refine ⟨fun e => (by cases e), ?_⟩
  simp (disch := omega) [st1]
  obtain ⟨h2, e2⟩ : ∃ h2, h2 = h1 ++ [⟨[a, b, c], true⟩] := ⟨_, rfl⟩
  have g2 : Grows h1 h2 := ⟨_, e2⟩
  have kb : h2[h1.length]? = some ⟨[a, b, c], true⟩ := by rw [e2]; simp
  try rw [← e2]
  have gg := g1.trans g2
  have rs := read_sp s
  cases q1 : (spRes s).2
  · rw [q1] at rs
    have rs' : readAns s = ((0, 0, []), false) := rs
    rw [rs']
    simp (disch := omega) [resOf, resAll, resOne, aField]
    exact ⟨gg, Vo.zero_panel⟩
  rw [q1] at rs
  obtain ⟨P, hP⟩ : ∃ P, P = (spRes s).1 := ⟨_, rfl⟩
  rw [← hP] at o1 rs
  obtain ⟨W, H, br⟩ := P
  have o1' := o1
  obtain ⟨s', es, w1, w2, o3⟩ := o1.panel
  simp at es
  obtain ⟨rfl, rfl, rfl⟩ := es
  simp (disch := omega)
  refine callW_of (c452 _ (W, H, br) h2 (PtP.at kb (o3.vr.grow g2) w1 w2)) ?_
  rintro _ h2 ⟨rfl, rfl⟩
  try refine ⟨fun e => (by cases e), ?_⟩
  cases q2 : okP (W, H, br)
  · rw [q2] at rs
    have rs' : readAns s = ((0, 0, []), false) := rs
    rw [rs']
    simp (disch := omega) [resOf, resAll, resOne, aField]
    exact ⟨gg, Vo.zero_panel⟩
  · rw [q2] at rs
    have rs' : readAns s = ((W, H, br), true) := rs
    rw [rs']
    have cl : cellsAt h2 h1.length 0 3 = some [I W, I H, c] := cellsAt_all kb rfl
    simp (disch := omega) [cl, resOf, resAll, resOne, aField]
    exact ⟨gg, (o1'.grow g2).wide (Nat.le_refl _) g2.le⟩
theorem idx_rng : ∀ (s : List UInt8) (c : UInt8) (i : Nat), -1 ≤ idx s c i ∧ idx s c i < i + s.length ∧ (idx s c i = -1 ∨ (i : Int) ≤ idx s c i)
  | [], c, i => by simp [idx]; omega
  | x :: r, c, i => by
    simp only [idx]
    split
    · simp only [List.length_cons]; omega
    · have := idx_rng r c (i + 1)
      simp only [List.length_cons]; omega
theorem idx_at : ∀ (s : List UInt8) (c : UInt8) (i n : Nat), idx s c i = ((i + n : Nat) : Int) → s[n]? = some c
  | [], c, i, n, h => by simp only [idx] at h; omega
  | x :: r, c, i, n, h => by
    simp only [idx] at h
    split at h
    · rename_i e
      have : n = 0 := by omega
      subst this; simp [e]
    · have h1 := idx_rng r c (i + 1)
      obtain ⟨m, rfl⟩ : ∃ m, n = m + 1 := ⟨n - 1, by omega⟩
      have := idx_at r c (i + 1) m (by rw [h]; congr 1; omega)
      simpa using this
theorem c122 (h : Heap) (hp : 0 < h.length) (s : List UInt8) (hs : s.length ≤ 1048576) : ACall Gam 122 [S s] h fun r h' => Grows h h' ∧ ∃ r0, r = .tuple #[r0, B (readAns s).2] ∧ Vo h' h.length h'.length shPanel r0 (readAns s).1 := by
  obtain ⟨i1, i2, i3⟩ := idx_rng s 120 0
  obtain ⟨j1, j2, j3⟩ := idx_rng s 58 0
  refine ACall_intro g122 rfl ?_
  unfold fn122
  simp (disch := omega)
  refine callW_of (c183 s hs 120 h) ?_
  rintro _ h ⟨rfl, rfl⟩
  try refine ⟨fun e => (by cases e), ?_⟩
  simp (disch := omega)
  refine callW_of (c183 s hs 58 h) ?_
  rintro _ h ⟨rfl, rfl⟩
  try refine ⟨fun e => (by cases e), ?_⟩
  obtain ⟨x, hx⟩ : ∃ x, x = idx s 120 0 := ⟨_, rfl⟩
  obtain ⟨c, hc⟩ : ∃ c, c = idx s 58 0 := ⟨_, rfl⟩
  rw [← hx] at i1 i2 i3 ⊢
  rw [← hc] at j1 j2 j3 ⊢
  have bad : x < 0 ∨ c < x ∨ (129 : Int) < s.length - c → readAns s = ((0, 0, []), false) := fun q => rp_bad (by unfold rpBad; rw [← hx, ← hc]; exact q)
  by_cases b1 : x < 0
  · have rs' := bad (.inl b1)
    rw [rs']
    simp (disch := omega) [b1, resOf, resAll, resOne, aField]
    exact ⟨Grows.refl _, Vo.zero_panel⟩
  by_cases b2 : c < x
  · have rs' := bad (.inr (.inl b2))
    rw [rs']
    simp (disch := omega) [b1, b2, resOf, resAll, resOne, aField]
    exact ⟨Grows.refl _, Vo.zero_panel⟩
  by_cases b3 : (129 : Int) < s.length - c
  · have rs' := bad (.inr (.inr b3))
    rw [rs']
    simp (disch := omega) [b1, b2, b3, wrap64, resOf, resAll, resOne, aField]
    exact ⟨Grows.refl _, Vo.zero_panel⟩
  obtain ⟨xn, rfl⟩ := Int.eq_ofNat_of_zero_le (show 0 ≤ x by omega)
  obtain ⟨cn, rfl⟩ := Int.eq_ofNat_of_zero_le (show 0 ≤ c by omega)
  have ex : rpX s = xn := by unfold rpX; rw [← hx]; rfl
  have ec : rpC s = cn := by unfold rpC; rw [← hc]; rfl
  have hxc : xn + 1 ≤ cn := by
    have : xn ≠ cn := by
      rintro rfl
      have a1 := idx_at s 120 0 xn (by rw [← hx]; simp)
      have a2 := idx_at s 58 0 xn (by rw [← hc]; simp)
      rw [a1] at a2
      simp at a2
    omega
  have hcl : cn ≤ s.length := by omega
  have hP : rpP s = ((rdDec (s.take xn)).1, (rdDec ((s.take cn).drop (xn + 1))).1, (s.drop (cn + 1)).map kindB) := by unfold rpP; rw [ex, ec]
  have hOk : rpOk s = ((rdDec (s.take xn)).2 && ((rdDec ((s.take cn).drop (xn + 1))).2 && (okP (rpP s) && decide (pTxt (rpP s) = s)))) := by unfold rpOk; rw [ex, ec]
  have b1' : ¬ ((xn : Nat) : Int) < 0 := by omega
  have s1 := slice_to (h := h) (s := s) (b := xn) (by omega)
  simp (disch := omega) [b1', b2, b3, wrap64, s1]
  refine callW_of (c118 (s.take xn) (by simp; omega) h hp) ?_
  rintro _ h1 ⟨g1, rfl⟩
  try refine ⟨fun e => (by cases e), ?_⟩
  have l1 := g1.le
  obtain ⟨x1, hx1⟩ : ∃ x1, x1 = xn + 1 := ⟨_, rfl⟩
  rw [← hx1] at hP hOk hxc
  have s2 := slice_text (h := h1) (s := s) (a := x1) (b := cn) (by omega) (by omega)
  have e1 : (xn : Int) + 1 = (x1 : Int) := by omega
  simp (disch := omega) [wrap64, e1, s2]
  refine callW_of (c118 ((s.take cn).drop x1) (by simp; omega) h1 (by omega)) ?_
  rintro _ h2 ⟨g2, rfl⟩
  try refine ⟨fun e => (by cases e), ?_⟩
  have g12 := g1.trans g2
  have l2 := g12.le
  have i64a := rdDec_64 (s.take xn)
  have i64b := rdDec_64 ((s.take cn).drop x1)
  obtain ⟨c1, hc1⟩ : ∃ c1, c1 = cn + 1 := ⟨_, rfl⟩
  have e2 : (cn : Int) + 1 = (c1 : Int) := by omega
  rw [← hc1] at hP
  simp (disch := omega) [wrap64, e2]
  refine awp_loop (fun (k : Nat) σ h' => c1 + k ≤ s.length ∧ Grows h2 h' ∧ σ 0 = S s ∧ σ 2 = .agg #[I 0, I 0, sl 0 0 0 0] ∧ σ 7 = B (rdDec (s.take xn)).2 ∧ σ 9 = B (rdDec ((s.take cn).drop x1)).2 ∧ σ 11 = I ((c1 : Int) + k) ∧ ∃ q, σ 10 = .agg #[I (rdDec (s.take xn)).1, I (rdDec ((s.take cn).drop x1)).1, q] ∧ Bf h' h2.length h'.length q 1 (ints (((s.drop c1).map kindB).take k))) (fun k => s.length - k) 0 ?_ ?_
  · refine ⟨by omega, Grows.refl _, by simp, by simp, by simp, by simp, by simp, sl 0 0 0 0, by simp, ?_⟩
    simp [ints]; exact Bf.nil
  · rintro k σ h' ⟨hk, g, q0, q2, q7, q9, q11, q, q10, bf⟩
    have lg := g.le
    simp (disch := omega) [q0, q11]
    refine fork_dec (fun hlt => ?_) (fun hge => ?_)
    · have k1 : c1 + k < s.length := by omega
      have kl : k < (s.drop c1).length := by rw [List.length_drop]; omega
      have hat := at8_of k1
      have hea := at8_eq k1
      have hkt := kinds_take kl
      have hd : (s.drop c1)[k] = at8 s (c1 + k) := by rw [List.getElem_drop]; exact hea
      rw [hd] at hkt
      have t1 : ((c1 : Int) + k).toNat = c1 + k := by omega
      have t2 : (0 : Int) ≤ (c1 : Int) + k := by omega
      have t3 : (c1 : Int) + k < s.length := by omega
      simp (disch := omega) [q0, q10, q11, k1, hat, hea, t1, t2, t3]
      refine callW_of (c174 _ h') ?_
      rintro _ h' ⟨rfl, rfl⟩
      try refine ⟨fun e => (by cases e), ?_⟩
      try simp (disch := omega)
      refine append_num (by omega) (by simp; omega) bf fun v2 h5 m5 b5 => ?_
      have g5 := m5.grows g (Nat.le_refl _)
      have l5 := m5.1
      obtain ⟨vb5, vn5, vz5, ev⟩ := b5.sl
      subst ev
      simp (disch := omega) [q0, q2, q7, q9, q10, q11, wrap64]
      refine ⟨k + 1, ⟨by omega, g5, by omega, ?_⟩, by omega⟩
      rw [← List.map_drop, hkt]
      exact b5.wide (by omega) (Nat.le_refl _)
    · have ek : (s.drop c1).length ≤ k := by rw [List.length_drop]; omega
      rw [List.take_of_length_le (by rw [List.length_map]; exact ek)] at bf
      have vo := bf.ints (by rw [List.length_map, List.length_drop, maxLen_eq]; omega) (kinds_64 _)
      have vp : Vo h' h2.length h'.length shPanel (.agg #[I (rdDec (s.take xn)).1, I (rdDec ((s.take cn).drop x1)).1, q]) (rpP s) := by
        rw [hP]; exact Vo.of_panel i64a i64b vo
      have vw := vp.wide l2 (Nat.le_refl _)
      have gg := g12.trans g
      have lh := gg.le
      obtain ⟨vb5, vn5, vz5, ev⟩ := bf.sl
      subst ev
      simp (disch := omega)
      cases r1 : (rdDec (s.take xn)).2
      · have rs' : readAns s = ((0, 0, []), false) := rp_no (by rw [hOk, r1]; rfl)
        rw [rs']
        simp (disch := omega) [q2, q7, q9, q10, r1, resOf, resAll, resOne, aField]
        exact ⟨gg, Vo.zero_panel⟩
      cases r2 : (rdDec ((s.take cn).drop x1)).2
      · have rs' : readAns s = ((0, 0, []), false) := rp_no (by rw [hOk, r1, r2]; rfl)
        rw [rs']
        simp (disch := omega) [q2, q7, q9, q10, r1, r2, resOf, resAll, resOne, aField]
        exact ⟨gg, Vo.zero_panel⟩
      simp (disch := omega) [q2, q7, q9, q10, r1, r2]
      refine callW_of (c140 _ (rpP s) h' vp.vr) ?_
      rintro _ h' ⟨rfl, rfl⟩
      try refine ⟨fun e => (by cases e), ?_⟩
      cases r3 : okP (rpP s)
      · have rs' : readAns s = ((0, 0, []), false) := rp_no (by rw [hOk, r1, r2, r3]; rfl)
        rw [rs']
        simp (disch := omega) [q2, q7, q9, q10, r1, r2, resOf, resAll, resOne, aField]
        exact ⟨gg, Vo.zero_panel⟩
      simp (disch := omega) [q0, q2, q7, q9, q10, r1, r2]
      refine callW_of (c182 _ (rpP s) h' (by omega) vp.vr (okP_iff.1 r3)) ?_
      rintro _ h6 ⟨rfl, g6⟩
      try refine ⟨fun e => (by cases e), ?_⟩
      by_cases r4 : pTxt (rpP s) = s
      · have rs' : readAns s = (rpP s, true) := rp_yes (by rw [hOk, r1, r2, r3]; simp [r4])
        rw [rs']
        simp (disch := omega) [q0, q2, q7, q9, q10, r4, resOf, resAll, resOne, aField]
        exact ⟨gg.trans g6, (vw.grow g6).wide (Nat.le_refl _) g6.le⟩
      · have rs' : readAns s = ((0, 0, []), false) := rp_no (by rw [hOk, r1, r2, r3]; simp [r4])
        rw [rs']
        simp (disch := omega) [q0, q2, q7, q9, q10, r4, resOf, resAll, resOne, aField]
        exact ⟨gg.trans g6, Vo.zero_panel⟩
end Am
/-! AmY26 -/
set_option linter.unusedVariables false
set_option linter.unusedSimpArgs false
set_option maxHeartbeats 4000000
set_option maxRecDepth 4000
namespace Am
open Go

/-- Rows in own memory, one behind the other. -/
structure KR (h0 h : Heap) (L : List Row) : Prop where
  el : ∀ r ∈ L, EntO h r
  nd : (L.map rowB).flatten.Nodup
  rg : ∀ r ∈ L, ∀ c ∈ rowB r, h0.length ≤ c
theorem KR.nil {h0 h : Heap} : KR h0 h [] := ⟨by simp, by simp, by simp⟩
theorem KR.grow {h0 h h' : Heap} {L : List Row} (k : KR h0 h L) (g : Grows h h') : KR h0 h' L :=
  ⟨fun r hr => (k.el r hr).frame fun c hc => g.look ((k.el r hr).lt c hc), k.nd, k.rg⟩
theorem KR.snoc {h0 h h1 : Heap} {L : List Row} {n : List UInt8} {Y : Pan} {v : Value} (k : KR h0 h L) (g : Grows h0 h) (g1 : Grows h h1) (o : Vo h1 h.length h1.length shPanel v Y) (hn : n.length ≤ 12) : ∃ r a b c, v = .agg #[a, b, c] ∧ KR h0 h1 (L ++ [r]) ∧ rowC r = [S n, a, b, c] ∧ r.1 = (n, Y) := by
  obtain ⟨W, H, br⟩ := Y
  obtain ⟨s, rfl, w1, w2, o⟩ := o.panel
  obtain ⟨b, z, rfl, hz, hm, hx, hb⟩ := o.ints
  refine ⟨((n, W, H, br), b, z), _, _, _, rfl, ⟨fun q hq => ?_, ?_, fun q hq c hc => ?_⟩, rfl, rfl⟩
  · rcases List.mem_append.1 hq with hq | hq
    · exact (k.grow g1).el q hq
    · simp at hq; subst hq
      exact ⟨hz, hm, hx, hb.imp id fun q => q.1, w1, w2, by rw [maxLen_eq]; show n.length ≤ _; omega⟩
  · rw [List.map_append, List.flatten_append, List.nodup_append]
    refine ⟨k.nd, by simp [rowB]; split <;> simp, ?_⟩
    intro c hc c' hc'
    obtain ⟨t, ht, hct⟩ := List.mem_flatten.1 hc
    obtain ⟨q, hq, rfl⟩ := List.mem_map.1 ht
    have hlt := (k.el q hq).lt c hct
    simp at hc'
    unfold rowB at hc'
    split at hc'
    · simp at hc'
    · rename_i h0
      simp at hc'
      have := (hb.resolve_left h0).2.1
      omega
  · rcases List.mem_append.1 hq with hq | hq
    · exact k.rg q hq c hc
    · simp at hq; subst hq
      unfold rowB at hc
      split at hc
      · simp at hc
      · rename_i h0
        simp at hc
        have := (hb.resolve_left h0).2.1
        have := g.le
        omega
def stdX : List (List UInt8 × Pan) := [([98, 114, 105, 99, 107], (2, 1, [0])), ([99, 97, 114, 112, 101, 116], (3, 3, [0, 0, 0, 0, 0, 0, 0, 0, 0, 0, 0, 0])), ([99, 104, 97, 105, 110], (4, 1, [0, 0, 0])), ([100, 105, 97, 109, 111, 110, 100], (1, 1, [])), ([114, 105, 110, 103, 115], (2, 2, [0, 0, 0, 0])), ([116, 119, 111], (2, 1, [1]))]
noncomputable def stdK : Lib := stdX.map fun k => (k.1, canonP k.2)
end Am
/-! AmY27 -/
set_option linter.unusedVariables false
set_option linter.unusedSimpArgs false
set_option maxHeartbeats 4000000
set_option maxRecDepth 4000
namespace Am
open Go

end Am
/-! AmY28 -/
set_option linter.unusedVariables false
set_option linter.unusedSimpArgs false
set_option maxHeartbeats 4000000
set_option maxRecDepth 4000
namespace Am
open Go

/-- A walker. -/
def wv (w : Wk) : Value := .agg #[I w.1, I w.2.1, I w.2.2.1, I w.2.2.2]
end Am
/-! AmY29 -/
set_option linter.unusedVariables false
set_option linter.unusedSimpArgs false
set_option maxHeartbeats 4000000
set_option maxRecDepth 4000
namespace Am
open Go

end Am

/- The contract of the law FnRows. -/
import Derived.Test.YtaeaaogpdipjfaaAmK8
import Derived.Test.YtaeaaogpdipjfaaAmK4
set_option linter.unusedVariables false
set_option linter.unusedSimpArgs false
set_option maxHeartbeats 4000000
set_option maxRecDepth 20000
namespace Am
open Go

def sumN (L : List (List Int)) (i : Nat) : Nat := ((L.take i).map List.length).sum
theorem sumN_succ {L : List (List Int)} {i : Nat} (h : i < L.length) : sumN L (i + 1) = sumN L i + L[i].length := by
  unfold sumN
  rw [List.take_succ_eq_append_getElem h, List.map_append, List.sum_append]; simp
theorem sumN_all (L : List (List Int)) : sumN L L.length = (L.map List.length).sum := by unfold sumN; rw [List.take_length]
theorem sumN_le (L : List (List Int)) (i : Nat) : sumN L i ≤ (L.map List.length).sum := by
  have : (L.map List.length).sum = sumN L i + ((L.drop i).map List.length).sum := by
    unfold sumN
    rw [← List.sum_append, ← List.map_append, List.take_append_drop]
  omega
theorem cls_ans {a : Int} {X : List Int} {cs : List (List Int) × Int} (h : cs = clsAns a X) (h0 : cs.2 = 0) : ∃ n : Nat, a = n ∧ (cs.1.map List.length).sum = n ∧ n ≤ 12 ∧ cs.1.length ≤ 12 := by
  unfold clsAns at h
  cases ok : okW a X
  · rw [ok] at h; subst h; simp at h0
  · obtain ⟨n, rfl, od⟩ := okW_iff ok
    rw [ok] at h
    simp only [if_true, Int.toNat_natCast] at h
    have := od.hn
    have cl := cls_law (n := n) (l := X) (by omega) od.hm n (Nat.le_refl _)
    refine ⟨n, rfl, by rw [h]; exact cls_sum (by omega) od.hm, by omega, ?_⟩
    rw [h]
    have := cl.num
    simp only; omega

theorem app_far {H0 h : Heap} {v : Value} {l : List Int} {a : Int} {K : Value → Heap → Prop} (hp : 0 < H0.length) (g : Grows H0 h) (hv : Buf H0 h v 1 (ints l)) (hl : l.length ≤ 1000)
    (hK : ∀ v' h', Grows H0 h' → h.length ≤ h'.length → Buf H0 h' v' 1 (ints (l ++ [a])) → (∀ b n y, v' = sl b 0 n y → h.length < b) → (∀ c kk, h[c]? = some kk → (∀ n, v ≠ sl c 0 n 1) → h'[c]? = some kk) → K v' h') :
    bindW (aBuildSlice 1 1 h [(0, .agg #[I 0]), (1, I a)]) fun y h'' => bindW (aAppend 1 h'' y v) K := by
  have e : aBuildSlice 1 1 h [(0, .agg #[I 0]), (1, I a)] = some (sl h.length 0 1 1, h ++ [⟨[I a], true⟩]) := by simp [aBuildSlice]
  rw [e]
  simp only [bindW_some]
  refine app1 (new := [I a]) hp g (Nat.le_refl _) g.le hv rfl (by omega) (by simp [ints, maxSize]; omega) ?_
  intro v' h' g' hle b nw fr
  exact hK v' h' g' hle (by simpa [ints] using b) nw fr
structure Used (n : Nat) (l : List Int) (u : List Bool) : Prop where
  len : u.length = n
  sub : ∀ j, u.getD j false = true → ∃ x ∈ l, j = x.natAbs - 1 ∨ j = x.natAbs
theorem Used.init (n : Nat) : Used n [] (List.replicate n false) := by
  refine ⟨by simp, fun j hj => ?_⟩
  rw [List.getD_eq_getElem?_getD, List.getElem?_replicate] at hj
  split at hj <;> simp at hj
theorem Used.add {n : Nat} {l : List Int} {u : List Bool} {m : Int} {i : Nat} (h : Used n l u) (hi : i + 1 = m.natAbs) (hm : m.natAbs < n) : Used n (l ++ [m]) ((u.set i true).set m.natAbs true) := by
  refine ⟨by simp [h.len], fun j hj => ?_⟩
  rw [getB_set (by simp [h.len]; omega), getB_set (by rw [h.len]; omega)] at hj
  split at hj
  · exact ⟨m, by simp, .inr (by assumption)⟩
  · split at hj
    · exact ⟨m, by simp, .inl (by omega)⟩
    · obtain ⟨x, hx, e⟩ := h.sub j hj
      exact ⟨x, by simp [hx], e⟩
theorem Used.free {n : Nat} {row : List Int} {k : Nat} {u : List Bool} (h : Used n (row.take k) u) (hk : k < row.length) (hd : row.Pairwise Far) (hm : ∀ x ∈ row, 1 ≤ x.natAbs) : u.getD (row[k].natAbs - 1) false = false ∧ u.getD row[k].natAbs false = false := by
  have far : ∀ x ∈ row.take k, Far x row[k] := by
    intro x hx
    obtain ⟨j, hj, rfl⟩ := List.getElem_of_mem hx
    simp only [List.length_take] at hj
    rw [List.getElem_take]
    exact List.pairwise_iff_getElem.1 hd j k (by omega) hk (by omega)
  have mk := hm _ (List.getElem_mem hk)
  constructor
  · cases q : u.getD (row[k].natAbs - 1) false
    · rfl
    · obtain ⟨x, hx, e⟩ := h.sub _ q
      have f := far x hx
      have := hm x (List.mem_of_mem_take hx)
      unfold Far at f
      omega
  · cases q : u.getD row[k].natAbs false
    · rfl
    · obtain ⟨x, hx, e⟩ := h.sub _ q
      have f := far x hx
      have := hm x (List.mem_of_mem_take hx)
      unfold Far at f
      omega
def flatN (L : List (List Int)) (i : Nat) : List Int := (L.take i).flatten
theorem flatN_succ {L : List (List Int)} {i : Nat} (h : i < L.length) : flatN L (i + 1) = flatN L i ++ L[i] := by
  unfold flatN
  rw [List.take_succ_eq_append_getElem h, List.flatten_append]; simp
theorem flatN_le (L : List (List Int)) {i : Nat} (h : i < L.length) : (flatN L i).length + L[i].length ≤ L.flatten.length := by
  have e : L.flatten = flatN L (i + 1) ++ (L.drop (i + 1)).flatten := by
    unfold flatN
    rw [← List.flatten_append, List.take_append_drop]
  rw [e, flatN_succ h]
  simp only [List.length_append]; omega

theorem rows_ans {a : Int} {X : List Int} {ro : List (List Int) × Int} (h : ro = rowsAns a X) (h0 : ro.2 = 0) : ∃ n : Nat, a = n ∧ OkWd n X ∧ ro.1 = (rowsW n X).2 := by
  unfold rowsAns at h
  cases ok : okW a X
  · rw [ok] at h; subst h; simp at h0
  · obtain ⟨n, rfl, od⟩ := okW_iff ok
    rw [ok] at h
    simp only [if_true, Int.toNat_natCast] at h
    exact ⟨n, rfl, od, by rw [h]⟩

theorem law255 (h : Heap) (vs : List Value) (hp : 0 < h.length) (ha : All2 (ArgR h) [shBytes] vs) : ACall Gam 255 vs h fun v _ => v = .bool true := by
  obtain ⟨v0, vs0, rfl, b0, ha⟩ := all2_cons ha
  obtain rfl := all2_nil ha
  obtain ⟨(X : List Int), va⟩ := b0.vr
  refine ACall_intro g255 rfl ?_
  unfold fn255
  rw [awp_seq, awp_reg]
  generalize hK : seqQ Gam _ _ 0 = K
  try simp (disch := omega)
  subst hK
  simp only [seqQ_zero]
  rw [awp_seq]
  generalize hK : seqQ Gam _ _ = K
  try simp (disch := omega)
  refine callW_of (c269 h v0 X va) ?_
  rintro _ h1 ⟨rfl, rfl⟩
  generalize decide (4096 < X.length) = w
  cases w
  rotate_left
  · subst hK
    try simp (disch := omega)
  try simp (disch := omega)
  subst hK
  simp only [seqQ_zero]
  rw [awp_seq, awp_reg]
  generalize hK : seqQ Gam _ _ 0 = K
  try simp (disch := omega)
  refine callW_of (c372 h1 v0 X hp va) ?_
  rintro _ h2 ⟨a1, X1, r1, rfl, ⟨a64x1, s1, i64x1⟩, g2, u1⟩
  try refine ⟨fun e => (by first | exact g2 | cases e), ?_⟩
  have hp2 := pos_of hp g2
  have va := va.grow g2
  have u1' := u1
  obtain ⟨bu, ou, zu, rfl, _⟩ := u1'.ints
  try simp (disch := omega)
  subst hK
  simp only [seqQ_zero]
  rw [awp_seq, awp_reg]
  generalize hK : seqQ Gam _ _ 0 = K
  try simp (disch := omega)
  refine callW_of (c125 h2 hp2 a1 _ X1 u1 (by omega)) ?_
  rintro _ h3 ⟨g3, _, rfl, L1⟩
  try refine ⟨fun e => (by first | exact g3 | cases e), ?_⟩
  have hp3 := pos_of hp2 g3
  have va := va.grow g3
  have u1 := u1.grow g3
  obtain ⟨ro, hro⟩ : ∃ ro, ro = rowsAns a1 X1 := ⟨_, rfl⟩
  rw [← hro] at L1 ⊢
  obtain ⟨bl, ol, zl, rfl, lml, lcl⟩ := L1
  have L1 : LsV _ _ _ := ⟨bl, ol, zl, rfl, lml, lcl⟩
  clear lml lcl
  try simp (disch := omega)
  subst hK
  simp only [seqQ_zero]
  rw [awp_seq, awp_reg]
  generalize hK : seqQ Gam _ _ 0 = K
  try simp (disch := omega)
  refine callW_of (c416 h3 hp3 a1 _ X1 u1 (by omega)) ?_
  rintro _ h4 ⟨g4, _, rfl, L2⟩
  try refine ⟨fun e => (by first | exact g4 | cases e), ?_⟩
  have hp4 := pos_of hp3 g4
  have va := va.grow g4
  have u1 := u1.grow g4
  have L1 := L1.grow g4
  rw [← hro] at L2 ⊢
  obtain ⟨bm, om, zm, rfl, lmm, lcm⟩ := L2
  have L2 : LsV _ _ _ := ⟨bm, om, zm, rfl, lmm, lcm⟩
  clear lmm lcm
  try simp (disch := omega)
  subst hK
  simp only [seqQ_zero]
  rw [awp_seq, awp_reg]
  generalize hK : seqQ Gam _ _ 0 = K
  try simp (disch := omega)
  refine callW_of (c351 h4 v0 X hp4 va) ?_
  rintro _ h5 ⟨a2, X2, r2, rfl, ⟨a64x2, s2, i64x2⟩, g5, u2⟩
  try refine ⟨fun e => (by first | exact g5 | cases e), ?_⟩
  have hp5 := pos_of hp4 g5
  have va := va.grow g5
  have u1 := u1.grow g5
  have L1 := L1.grow g5
  have L2 := L2.grow g5
  have u2' := u2
  obtain ⟨bv, ov, zv, rfl, _⟩ := u2'.ints
  try simp (disch := omega)
  subst hK
  simp only [seqQ_zero]
  rw [awp_seq, awp_reg]
  generalize hK : seqQ Gam _ _ 0 = K
  try simp (disch := omega)
  refine callW_of (c66 h5 hp5 a2 _ X2 u2 (by omega)) ?_
  rintro _ h6 ⟨g6, _, rfl, C1⟩
  try refine ⟨fun e => (by first | exact g6 | cases e), ?_⟩
  have hp6 := pos_of hp5 g6
  have va := va.grow g6
  have u1 := u1.grow g6
  have L1 := L1.grow g6
  have L2 := L2.grow g6
  have u2 := u2.grow g6
  obtain ⟨cs, hcs⟩ : ∃ cs, cs = clsAns a2 X2 := ⟨_, rfl⟩
  rw [← hcs] at C1 ⊢
  obtain ⟨bc, oc, zc, rfl, lmc, lcc⟩ := C1
  have C1 : LsV _ _ _ := ⟨bc, oc, zc, rfl, lmc, lcc⟩
  clear lmc lcc
  try simp (disch := omega)
  subst hK
  simp only [seqQ_zero]
  rw [awp_seq, awp_reg]
  generalize hK : seqQ Gam _ _ 0 = K
  try simp (disch := omega)
  refine callW_of (c335 h6 hp6 a2 _ X2 u2 (by omega)) ?_
  rintro _ h7 ⟨g7, _, rfl, C2⟩
  try refine ⟨fun e => (by first | exact g7 | cases e), ?_⟩
  have hp7 := pos_of hp6 g7
  have va := va.grow g7
  have u1 := u1.grow g7
  have L1 := L1.grow g7
  have L2 := L2.grow g7
  have u2 := u2.grow g7
  have C1 := C1.grow g7
  rw [← hcs] at C2 ⊢
  obtain ⟨bd, od, zd, rfl, lmd, lcd⟩ := C2
  have C2 : LsV _ _ _ := ⟨bd, od, zd, rfl, lmd, lcd⟩
  clear lmd lcd
  try simp (disch := omega)
  subst hK
  simp only [seqQ_zero]
  rw [awp_seq, awp_reg]
  generalize hK : seqQ Gam _ _ 0 = K
  try simp (disch := omega)
  refine callW_of (c366 h7 v0 X hp7 va) ?_
  rintro _ h8 ⟨a3, b3, rfl, a64x3, b64x3, g8⟩
  try refine ⟨fun e => (by first | exact g8 | cases e), ?_⟩
  have hp8 := pos_of hp7 g8
  have va := va.grow g8
  have u1 := u1.grow g8
  have L1 := L1.grow g8
  have L2 := L2.grow g8
  have u2 := u2.grow g8
  have C1 := C1.grow g8
  have C2 := C2.grow g8
  try simp (disch := omega)
  subst hK
  simp only [seqQ_zero]
  rw [awp_seq, awp_reg]
  generalize hK : seqQ Gam _ _ 0 = K
  try simp (disch := omega)
  refine callW_of (c115 h8 hp8 a3 b3 a64x3 b64x3) ?_
  rintro _ h9 ⟨g9, _, rfl, P1⟩
  try refine ⟨fun e => (by first | exact g9 | cases e), ?_⟩
  have hp9 := pos_of hp8 g9
  have va := va.grow g9
  have u1 := u1.grow g9
  have L1 := L1.grow g9
  have L2 := L2.grow g9
  have u2 := u2.grow g9
  have C1 := C1.grow g9
  have C2 := C2.grow g9
  obtain ⟨pl, hpl⟩ : ∃ pl, pl = plAns a3 b3 := ⟨_, rfl⟩
  rw [← hpl] at P1 ⊢
  have P1' := P1
  obtain ⟨bp, op, zp, rfl, _⟩ := P1'.ints
  try simp (disch := omega)
  subst hK
  simp only [seqQ_zero]
  rw [awp_seq, awp_reg]
  generalize hK : seqQ Gam _ _ 0 = K
  try simp (disch := omega)
  refine callW_of (c407 h9 hp9 a3 b3 a64x3 b64x3) ?_
  rintro _ h10 ⟨g10, _, rfl, P2⟩
  try refine ⟨fun e => (by first | exact g10 | cases e), ?_⟩
  have hp10 := pos_of hp9 g10
  have va := va.grow g10
  have u1 := u1.grow g10
  have L1 := L1.grow g10
  have L2 := L2.grow g10
  have u2 := u2.grow g10
  have C1 := C1.grow g10
  have C2 := C2.grow g10
  have P1 := P1.grow g10
  rw [← hpl] at P2 ⊢
  have P2' := P2
  obtain ⟨bq, oq, zq, rfl, _⟩ := P2'.ints
  try simp (disch := omega)
  subst hK
  simp only [seqQ_zero]
  rw [awp_seq, awp_reg]
  generalize hK : seqQ Gam _ _ 0 = K
  try simp (disch := omega)
  refine callW_of (c367 h10 v0 X hp10 va) ?_
  rintro _ h11 ⟨a4, X4, r4, rfl, ⟨a64x4, s4, i64x4⟩, g11, u4⟩
  try refine ⟨fun e => (by first | exact g11 | cases e), ?_⟩
  have hp11 := pos_of hp10 g11
  have va := va.grow g11
  have u1 := u1.grow g11
  have L1 := L1.grow g11
  have L2 := L2.grow g11
  have u2 := u2.grow g11
  have C1 := C1.grow g11
  have C2 := C2.grow g11
  have P1 := P1.grow g11
  have P2 := P2.grow g11
  have u4' := u4
  obtain ⟨bw, ow, zw, rfl, _⟩ := u4'.ints
  try simp (disch := omega)
  subst hK
  simp only [seqQ_zero]
  rw [awp_seq, awp_reg]
  generalize hK : seqQ Gam _ _ 0 = K
  try simp (disch := omega)
  refine callW_of (c116 h11 hp11 a4 _ X4 u4 (by omega)) ?_
  rintro _ h12 ⟨g12, _, rfl, T1⟩
  try refine ⟨fun e => (by first | exact g12 | cases e), ?_⟩
  have hp12 := pos_of hp11 g12
  have va := va.grow g12
  have u1 := u1.grow g12
  have L1 := L1.grow g12
  have L2 := L2.grow g12
  have u2 := u2.grow g12
  have C1 := C1.grow g12
  have C2 := C2.grow g12
  have P1 := P1.grow g12
  have P2 := P2.grow g12
  have u4 := u4.grow g12
  obtain ⟨pc, hpc⟩ : ∃ pc, pc = picAns a4 X4 := ⟨_, rfl⟩
  rw [← hpc] at T1 ⊢
  obtain ⟨bt, ot, zt, rfl, lmt, lct⟩ := T1
  have T1 : TxV _ _ _ := ⟨bt, ot, zt, rfl, lmt, lct⟩
  clear lmt lct
  try simp (disch := omega)
  subst hK
  simp only [seqQ_zero]
  rw [awp_seq, awp_reg]
  generalize hK : seqQ Gam _ _ 0 = K
  try simp (disch := omega)
  refine callW_of (c408 h12 hp12 a4 _ X4 u4 (by omega)) ?_
  rintro _ h13 ⟨g13, _, rfl, T2⟩
  try refine ⟨fun e => (by first | exact g13 | cases e), ?_⟩
  have hp13 := pos_of hp12 g13
  have va := va.grow g13
  have u1 := u1.grow g13
  have L1 := L1.grow g13
  have L2 := L2.grow g13
  have u2 := u2.grow g13
  have C1 := C1.grow g13
  have C2 := C2.grow g13
  have P1 := P1.grow g13
  have P2 := P2.grow g13
  have u4 := u4.grow g13
  have T1 := T1.grow g13
  rw [← hpc] at T2 ⊢
  obtain ⟨bs, os, zs, rfl, lms, lcs⟩ := T2
  have T2 : TxV _ _ _ := ⟨bs, os, zs, rfl, lms, lcs⟩
  clear lms lcs
  try simp (disch := omega)
  subst hK
  simp only [seqQ_zero]
  rw [awp_seq, awp_reg]
  generalize hK : seqQ Gam _ _ 0 = K
  try simp (disch := omega)
  refine callW_of (c376 h13 v0 X hp13 va) ?_
  rintro _ h14 ⟨X5, ⟨s5, i64x5⟩, g14, u5⟩
  try refine ⟨fun e => (by first | exact g14 | cases e), ?_⟩
  have hp14 := pos_of hp13 g14
  have va := va.grow g14
  have u1 := u1.grow g14
  have L1 := L1.grow g14
  have L2 := L2.grow g14
  have u2 := u2.grow g14
  have C1 := C1.grow g14
  have C2 := C2.grow g14
  have P1 := P1.grow g14
  have P2 := P2.grow g14
  have u4 := u4.grow g14
  have T1 := T1.grow g14
  have T2 := T2.grow g14
  have u5' := u5
  obtain ⟨bx, ox, zx, rfl, _⟩ := u5'.ints
  try simp (disch := omega)
  subst hK
  simp only [seqQ_zero]
  -- compared
  rw [awp_seq]
  generalize hK : seqQ Gam _ _ = K
  try simp (disch := omega)
  refine callW_of (c272 h14 _ _ ro.1 ro.1 L1 L2) ?_
  rintro _ hx ⟨rfl, rfl⟩
  try refine ⟨fun e => (by cases e), ?_⟩
  try simp (disch := omega)
  refine callW_of (c272 hx _ _ cs.1 cs.1 C1 C2) ?_
  rintro _ hx ⟨rfl, rfl⟩
  try refine ⟨fun e => (by cases e), ?_⟩
  try simp (disch := omega)
  refine callW_of (c271 hx _ _ pl.1 pl.1 P1 P2) ?_
  rintro _ hx ⟨rfl, rfl⟩
  try refine ⟨fun e => (by cases e), ?_⟩
  try simp (disch := omega)
  refine callW_of (c274 hx _ _ pc.1 pc.1 T1 T2) ?_
  rintro _ hx ⟨rfl, rfl⟩
  try refine ⟨fun e => (by cases e), ?_⟩
  try simp (disch := omega)
  refine callW_of (c143 hx (by assumption) _ X5 u5 (by omega)) ?_
  rintro _ hy ⟨gy, rfl⟩
  try refine ⟨fun e => (by first | exact gy | cases e), ?_⟩
  have hpy := pos_of (by assumption) gy
  try simp (disch := omega)
  refine callW_of (c429 hy hpy _ X5 (u5.grow gy) (by omega)) ?_
  rintro _ hz ⟨gz, rfl⟩
  try refine ⟨fun e => (by first | exact gz | cases e), ?_⟩
  have hpz := pos_of hpy gz
  have gyz := gy.trans gz
  have u1 := u1.grow gyz
  have L1 := L1.grow gyz
  have L2 := L2.grow gyz
  have C1 := C1.grow gyz
  try simp (disch := omega)
  clear va P1 P2 T1 T2 u2 u4 u5 C2
  have tail : ∀ (σ : Nat → Value), σ 3 = I a1 → σ 4 = sl bu ou X1.length zu → σ 5 = sl bl ol ro.1.length zl → σ 6 = I ro.2 → σ 7 = sl bm om ro.1.length zm → σ 9 = I a2 → σ 11 = sl bc oc cs.1.length zc → σ 12 = I cs.2 → K 0 σ hz := by
    intro σ q3 q4 q5 q6 q7 q9 q11 q12
    subst hK
    simp only [seqQ_zero]
    rw [awp_seq]
    generalize hK : seqQ Gam _ _ = K
    have tail2 : ∀ (σ : Nat → Value), σ 3 = I a1 → σ 4 = sl bu ou X1.length zu → σ 5 = sl bl ol ro.1.length zl → σ 6 = I ro.2 → σ 7 = sl bm om ro.1.length zm → K 0 σ hz := by
      intro σ q3 q4 q5 q6 q7
      subst hK
      simp only [seqQ_zero]
      by_cases e0 : ro.2 = 0
      rotate_left
      · try simp (disch := omega) [q6, e0]
      obtain ⟨n, en, od, eL⟩ := rows_ans hro e0
      subst en
      have law := rows_law (n := n) od.hm X1.length (Nat.le_refl _)
      rw [List.take_length] at law
      obtain ⟨L, hL⟩ : ∃ L, L = ro.1 := ⟨_, rfl⟩
      obtain ⟨b, o, z, e, lm, lc⟩ := L1
      simp [sl] at e
      obtain ⟨⟨rfl, rfl⟩, rfl⟩ := e
      obtain ⟨b, o, z, e, mm, mc⟩ := L2
      simp [sl] at e
      obtain ⟨⟨rfl, rfl⟩, rfl⟩ := e
      have ltouch := law.len
      have ldis := law.disj
      have lmem := law.mem
      have lord := law.ord
      have hn := od.hn
      have odl := od.hl
      have odm := od.hm
      rw [← eL] at ltouch ldis lmem lord
      rw [← hL] at ltouch ldis lmem lord q5 q7
      simp only [← hL] at lc mc
      rw [← hL] at lm
      have hlv : ∀ i (hi : i < L.length), ∀ x ∈ L[i], 1 ≤ x.natAbs ∧ x.natAbs < n := fun i hi x hx => odm x (lmem _ (List.getElem_mem hi) x hx)
      rw [awp_seq]
      generalize hK : seqQ Gam _ _ = K
      try simp (disch := omega) [q6, e0]
      subst hK
      simp only [seqQ_zero]
      rw [awp_seq, awp_reg]
      generalize hK : seqQ Gam _ _ 0 = K
      try simp (disch := omega)
      subst hK
      simp only [seqQ_zero]
      rw [awp_seq]
      generalize hK : seqQ Gam _ _ = K
      try simp (disch := omega)
      refine awp_loop (fun i σ' h' => i ≤ L.length ∧ Grows hz h' ∧ σ' 3 = I n ∧ σ' 4 = sl bu ou X1.length zu ∧ σ' 5 = sl bl ol L.length zl ∧ σ' 7 = sl bm om L.length zm ∧ σ' 31 = I i ∧ Buf hz h' (σ' 30) 1 (ints (flatN L i))) (fun i => L.length - i) 0 ?_ ?_
      · exact ⟨by omega, Grows.refl _, by simp [q3], by simp [q4], by simp [q5], by simp [q7], by simp, by simpa [flatN, ints] using Buf.nil⟩
      · rintro i σ' h' ⟨hi, hg, r3, r4, r5, r7, r31, bf⟩
        try simp (disch := omega) [r5, r31]
        refine fork_dec (fun hlt => ?_) (fun hge => ?_)
        · have i1 : i < L.length := by omega
          have fl := flatN_le L i1
          have fs := flatN_succ i1
          have rv := hlv i i1
          have rd := ldis _ (List.getElem_mem i1)
          obtain ⟨w, w1, w2⟩ := lc i i1
          obtain ⟨y, y1, y2⟩ := mc i i1
          obtain ⟨row, hrow⟩ : ∃ row, row = L[i] := ⟨_, rfl⟩
          rw [← hrow] at fl fs rv rd w2 y2
          obtain ⟨wb, wo, wz, rfl, _⟩ := w2.ints
          obtain ⟨yb, yo, yz, rfl, _, _, _, yc⟩ := y2.ints
          obtain ⟨N, hN⟩ : ∃ N, N = n + 1 := ⟨_, rfl⟩
          have eN : (n : Int) + 1 = (N : Int) := by omega
          have i1' : (i : Int) < L.length := by omega
          try simp (disch := omega) [r3, wrap64, eN, make_bools]
          obtain ⟨hB, eB⟩ : ∃ hB, hB = h' ++ [⟨bools (List.replicate N false), true⟩] := ⟨_, rfl⟩
          obtain ⟨ub, eub⟩ : ∃ ub, ub = h'.length := ⟨_, rfl⟩
          have gB : Grows h' hB := ⟨_, eB⟩
          have lB : hB.length = ub + 1 := by rw [eB, eub]; simp
          have uB : hB[ub]? = some ⟨bools (List.replicate N false), true⟩ := by rw [eB, eub]; simp
          have hle := hg.le
          rw [← eB, ← eub]
          have apu : Apart (sl ub 0 N 1) (σ' 30) := by rw [eub]; exact apart_new hpz hle bf
          obtain ⟨v30, e30⟩ : ∃ v30, v30 = σ' 30 := ⟨_, rfl⟩
          rw [← e30] at apu bf
          generalize hK2 : seqQ Gam _ _ = K2
          refine awp_loop (fun k σ h'' => k ≤ row.length ∧ Grows hz h'' ∧ hB.length ≤ h''.length ∧ σ 3 = I n ∧ σ 4 = sl bu ou X1.length zu ∧ σ 5 = sl bl ol L.length zl ∧ σ 7 = sl bm om L.length zm ∧ σ 31 = I i ∧ σ 32 = sl ub 0 N 1 ∧ σ 33 = I k ∧ (∃ u, h''[ub]? = some ⟨bools u, true⟩ ∧ Used N (row.take k) u) ∧ Buf hz h'' (σ 30) 1 (ints (flatN L i ++ row.take k)) ∧ Apart (sl ub 0 N 1) (σ 30)) (fun k => row.length - k) 0 ?_ ?_
          · exact ⟨by omega, hg.trans gB, by omega, by simp [r3], by simp [r4], by simp [r5], by simp [r7], by simp [r31], by simp, by simp, ⟨_, uB, by simpa using Used.init N⟩, by simpa [← e30] using bf.grow gB, by simpa [← e30] using apu⟩
          · rintro k σ5 h5 ⟨hk, hg5, hB5, t3, t4, t5, t7, t31, t32, t33, ⟨u, hu, us⟩, b5, ap5⟩
            have x1 := cell_grow hg5 w1
            have x2 := cell_grow hg5 y1
            try simp (disch := omega) [t5, t31, t33, i1, i1', x1]
            refine fork_dec (fun hlt2 => ?_) (fun hge2 => ?_)
            · have k1 : k < row.length := by omega
              have k1' : (k : Int) < row.length := by omega
              have c5 := ints_cell (yc.imp id (grows_cellsAt hg5)) k1
              have fr := us.free k1 rd (fun x hx => (rv x hx).1)
              have mv := rv _ (List.getElem_mem k1)
              obtain ⟨m, em⟩ : ∃ m, m = row[k] := ⟨_, rfl⟩
              rw [← em] at c5 fr mv
              obtain ⟨j, hj⟩ : ∃ j, j + 1 = m.natAbs := ⟨m.natAbs - 1, by omega⟩
              have ej : ((m.natAbs : Nat) : Int) - 1 = (j : Int) := by omega
              rw [show m.natAbs - 1 = j by omega] at fr
              have ul := us.len
              have cu1 := bool_cell hu (k := j) (by omega)
              have cu2 := bool_cell hu (k := m.natAbs) (by omega)
              rw [fr.1] at cu1
              rw [fr.2] at cu2
              have j1 : (j : Int) < N := by omega
              have j2 : ((m.natAbs : Nat) : Int) < N := by omega
              have j3 : j < N := by omega
              have j4 : m.natAbs < N := by omega
              have lub : 0 < ub := by omega
              have st1 := store_bool (v := true) hu (k := j) (by omega)
              obtain ⟨h6, e6⟩ : ∃ h6, h6 = h5.set ub ⟨bools (u.set j true), true⟩ := ⟨_, rfl⟩
              have hu6 : h6[ub]? = some ⟨bools (u.set j true), true⟩ := by rw [e6]; exact blk_set hu
              have st2 := store_bool (v := true) hu6 (k := m.natAbs) (by simp; omega)
              obtain ⟨h7, e7⟩ : ∃ h7, h7 = h6.set ub ⟨bools ((u.set j true).set m.natAbs true), true⟩ := ⟨_, rfl⟩
              have hu7 : h7[ub]? = some ⟨bools ((u.set j true).set m.natAbs true), true⟩ := by rw [e7]; exact blk_set hu6
              have g6 : Grows hz h6 := by rw [e6]; exact hg5.put (by omega) _
              have g7 : Grows hz h7 := by rw [e7]; exact g6.put (by omega) _
              have l7 : h7.length = h5.length := by rw [e7, e6]; simp
              rw [← e6] at st1
              rw [← e7] at st2
              have keep : ∀ c kk, h5[c]? = some kk → (∀ n, sl ub 0 N 1 ≠ sl c 0 n 1) → h7[c]? = some kk := by
                intro c kk hc hne
                have hcu : c ≠ ub := fun e => hne N (by rw [e])
                rw [e7, e6]
                exact put_at (put_at hc hcu) hcu
              have b7 := b5.keep hpz ap5 keep
              have us7 := us.add hj j4
              have x27 := cell_grow g7 y1
              have c57 := ints_cell (yc.imp id (grows_cellsAt g7)) k1
              rw [← em] at c57
              have ts : row.take (k + 1) = row.take k ++ [m] := by rw [List.take_succ_eq_append_getElem k1, em]
              try simp (disch := omega) [t7, t31, t33, i1, i1', x2, k1, k1', c5]
              generalize hT : seqQ Gam (Code.seq _ _) _ = T
              have tail3 : ∀ σ : Nat → Value, σ 3 = I n → σ 4 = sl bu ou X1.length zu → σ 5 = sl bl ol L.length zl → σ 7 = sl bm om L.length zm → σ 31 = I i → σ 32 = sl ub 0 N 1 → σ 33 = I k → σ 34 = I m.natAbs → σ 30 = σ5 30 → T 0 σ h5 := by
                intro σ p3 p4 p5 p7 p31 p32 p33 p34 p30
                subst hT
                simp only [seqQ_zero]
                rw [awp_seq]
                generalize hT : seqQ Gam _ _ = T
                try simp (disch := omega) [p32, p34, wrap64, ej, j1, j2, j3, j4, cu1, cu2]
                subst hT
                simp only [seqQ_zero]
                rw [awp_seq, awp_reg]
                generalize hT : seqQ Gam _ _ 0 = T
                try simp (disch := omega) [p32, p34, wrap64, ej, j1, j3, st1]
                subst hT
                simp only [seqQ_zero]
                rw [awp_seq, awp_reg]
                generalize hT : seqQ Gam _ _ 0 = T
                try simp (disch := omega) [p32, p34, wrap64, j2, j4, st2]
                subst hT
                simp only [seqQ_zero]
                try simp (disch := omega) [p7, p31, p33, p30, i1, i1', x27, k1, k1', c57]
                refine app_far hpz g7 b7 (by simp; omega) ?_
                intro v8 h8 g8 hl8 b8 nw fr8
                try simp (disch := omega) [p3, p4, p5, p7, p31, p32, p33, wrap64]
                have hu8 := fr8 ub _ hu7 (fun n' e' => by
                  have := ap5 ub ub N n' 1 1 rfl e' rfl
                  omega)
                refine ⟨k + 1, ⟨by omega, g8, by omega, by omega, ⟨(u.set j true).set m.natAbs true, (List.getElem?_eq_some_iff.1 hu8).2, by rw [ts]; exact us7⟩, by rw [ts, ← List.append_assoc]; exact b8, ?_⟩, by omega⟩
                intro b c n1 m1 z1 y1' h1' h2' e'
                have := nw c m1 y1' h2'
                simp [sl] at h1' <;> (have := at_lt hu7; omega)
              refine fork_dec (fun hneg => ?_) (fun hpos => ?_)
              · have em' : -m = ((m.natAbs : Nat) : Int) := by omega
                try simp (disch := omega) [wrap64, em']
                exact tail3 _ (by simp [t3]) (by simp [t4]) (by simp [t5]) (by simp [t7]) (by simp [t31]) (by simp [t32]) (by simp [t33]) (by simp) (by simp)
              · have em' : m = ((m.natAbs : Nat) : Int) := by omega
                try simp (disch := omega)
                exact tail3 _ (by simp [t3]) (by simp [t4]) (by simp [t5]) (by simp [t7]) (by simp [t31]) (by simp [t32]) (by simp [t33]) (by simp; exact em') (by simp)
            · have : k = row.length := by omega
              subst this
              rw [List.take_length] at b5
              try simp (disch := omega)
              subst hK2
              try simp (disch := omega) [t3, t4, t5, t7, t31, wrap64]
              refine ⟨i + 1, ⟨by omega, hg5, by omega, ?_⟩, by omega⟩
              rw [fs]; exact b5
        · have : i = L.length := by omega
          subst this
          have ef : flatN L L.length = L.flatten := by unfold flatN; rw [List.take_length]
          rw [ef] at bf
          try simp (disch := omega)
          subst hK
          simp only [seqQ_zero]
          obtain ⟨F, hF⟩ : ∃ F, F = L.flatten := ⟨_, rfl⟩
          rw [← hF] at bf ltouch lord
          have mfl : ∀ x ∈ F, 1 ≤ x.natAbs ∧ x.natAbs < n := by
            intro x hx
            rw [hF] at hx
            obtain ⟨y, hy, hxy⟩ := List.mem_flatten.1 hx
            exact odm x (lmem y hy x hxy)
          have od2 : OkWd n F := ⟨hn, by omega, mfl⟩
          have f64 : ∀ x ∈ F, I64 x := by
            intro x hx
            have := mfl x hx
            unfold I64; omega
          have v30 := bf.vr (by omega) f64
          obtain ⟨fb, fy, ef30, _⟩ : ∃ b y, σ' 30 = sl b 0 F.length y ∧ True := by
            rcases bf with ⟨x1, x2⟩ | ⟨c, w, x, x1, _⟩
            · refine ⟨0, 1, ?_, trivial⟩
              have : F = [] := by simpa [ints] using x1
              rw [x2, this]; rfl
            · refine ⟨c, 1, ?_, trivial⟩
              have : w = F.length := by simpa [ints] using x1
              rw [x, this]
          rw [ef30] at v30
          have hp' := pos_of hpz hg
          rw [awp_seq, awp_reg]
          generalize hK : seqQ Gam _ _ 0 = K
          try simp (disch := omega) [r3, r4]
          refine callW_of (c104_ok h' hp' n _ X1 (u1.grow hg) (by omega) od) ?_
          rintro _ ha ⟨_, rfl, ga, b1⟩
          try refine ⟨fun e => (by first | exact ga | cases e), ?_⟩
          have hpa := pos_of hp' ga
          obtain ⟨ob1, rfl, ob2, ob3⟩ := buf_ints b1 (by rw [ord_len]; omega)
          try simp (disch := omega)
          subst hK
          simp only [seqQ_zero]
          rw [awp_seq, awp_reg]
          generalize hK : seqQ Gam _ _ 0 = K
          try simp (disch := omega) [r3, ef30]
          refine callW_of (c104_ok ha hpa n _ F (v30.grow ga) (by omega) od2) ?_
          rintro _ hb ⟨_, rfl, gb, b2⟩
          try refine ⟨fun e => (by first | exact gb | cases e), ?_⟩
          obtain ⟨pb1, rfl, pb2, pb3⟩ := buf_ints b2 (by rw [ord_len]; omega)
          try simp (disch := omega)
          subst hK
          simp only [seqQ_zero]
          have eo : ordW n F = ordW n X1 := by unfold ordW; exact lord
          have vb1 := (b1.vr (by rw [ord_len]; omega) (ord_64 (by omega))).grow gb
          have vb2 := b2.vr (by rw [ord_len]; omega) (ord_64 (by omega))
          try simp (disch := omega)
          refine callW_of (c271 hb _ _ _ _ vb1 vb2) ?_
          rintro _ hc ⟨rfl, rfl⟩
          try refine ⟨fun e => (by cases e), ?_⟩
          rw [eo]
          try simp (disch := omega) [ef30, r4, ltouch]
    clear hK
    by_cases e0 : cs.2 = 0
    · obtain ⟨n2, en2, e1, e2, e3⟩ := cls_ans hcs e0
      subst en2
      obtain ⟨b, o, z, e, lm, lc⟩ := C1
      simp [sl] at e
      obtain ⟨⟨rfl, rfl⟩, rfl⟩ := e
      try simp (disch := omega) [q12, e0]
      refine awp_loop (fun i σ' h' => h' = hz ∧ i ≤ cs.1.length ∧ σ' 28 = I (sumN cs.1 i) ∧ σ' 29 = I i ∧ σ' 3 = I a1 ∧ σ' 4 = sl bu ou X1.length zu ∧ σ' 5 = sl bl ol ro.1.length zl ∧ σ' 6 = I ro.2 ∧ σ' 7 = sl bm om ro.1.length zm ∧ σ' 9 = I n2 ∧ σ' 11 = sl bc oc cs.1.length zc) (fun i => cs.1.length - i) 0 ?_ ?_
      · exact ⟨rfl, by omega, by simp [sumN], by simp, by simp [q3], by simp [q4], by simp [q5], by simp [q6], by simp [q7], by simp [q9], by simp [q11]⟩
      · rintro i σ' h' ⟨rfl, hi, r28, r29, r3, r4, r5, r6, r7, r9, r11⟩
        try simp (disch := omega) [r29, r11]
        refine fork_dec (fun hlt => ?_) (fun hge => ?_)
        · have i1 : i < cs.1.length := by omega
          obtain ⟨w, w1, w2⟩ := lc i i1
          have w2' := w2
          obtain ⟨wb, wo, wz, rfl, _⟩ := w2'.ints
          have sb := sumN_le cs.1 i
          have ss := sumN_succ i1
          have sb2 := sumN_le cs.1 (i + 1)
          rw [e1] at sb sb2
          have i1' : (i : Int) < cs.1.length := by omega
          try simp (disch := omega) [r28, r29, r11, i1, i1', w1, wrap64, r3, r4, r5, r6, r7, r9]
          exact ⟨i + 1, ⟨by omega, by rw [ss]; simp, by omega⟩, by omega⟩
        · have : i = cs.1.length := by omega
          subst this
          have : sumN cs.1 cs.1.length = n2 := by rw [sumN_all, e1]
          rw [this] at r28
          try simp (disch := omega) [r28, r9]
          exact tail2 _ (by simp [r3]) (by simp [r4]) (by simp [r5]) (by simp [r6]) (by simp [r7])
    · try simp (disch := omega) [q12, e0]
      exact tail2 _ (by simp [q3]) (by simp [q4]) (by simp [q5]) (by simp [q6]) (by simp [q7])
  exact tail _ (by simp) (by simp) (by simp) (by simp) (by simp) (by simp) (by simp) (by simp)
end Am

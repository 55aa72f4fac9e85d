/- Contracts: AmS11, AmS12. -/
import Derived.Test.YtaeaaogpdipjfaaAmK7
import Derived.Test.YtaeaaogpdipjfaaAmK2
import Derived.Test.YtaeaaogpdipjfaaAmK3
/-! AmS11 -/
set_option linter.unusedVariables false
set_option linter.unusedSimpArgs false
set_option maxHeartbeats 4000000
set_option maxRecDepth 4000
namespace Am
open Go

/-- A panel of its own that a later draw leaves. -/
theorem Vo.draw {h h' : Heap} {b lo hi : Nat} {v : Value} {X : Pan} (x : Vo h lo hi shPanel v X) (m : Mod b (b + 1) h h') (hb : b < lo) : Vo h' lo hi shPanel v X := x.mod m (by omega)
theorem c350 (h : Heap) (v : Value) (X : List Int) (hp : 0 < h.length) (hv : Vr h shBytes v X) : ACall Gam 350 [v] h fun r h' => ∃ (P : Pan) (L : List Trip) (r0 r1 : Value), r = .tuple #[r0, r1] ∧ P.2.2.length ≤ 200 ∧ L.length ≤ 1100 ∧ Grows h h' ∧ Vr h' shPanel r0 P ∧ Vr h' shTrips r1 L := by
  refine ACall_intro g350 rfl ?_
  unfold fn350
  rw [awp_seq, awp_reg]
  generalize hK : seqQ Gam _ _ 0 = K
  simp (disch := omega)
  subst hK
  simp only [seqQ_zero]
  rw [awp_seq, awp_reg]
  generalize hK : seqQ Gam _ _ 0 = K
  simp (disch := omega)
  refine callW_of (c431 h v X hv) ?_
  rintro _ h1 ⟨rfl, g1, l1, hs1⟩
  try refine ⟨fun e => (by first | exact g1 | cases e), ?_⟩
  try simp (disch := omega)
  subst hK
  simp only [seqQ_zero]
  rw [awp_seq, awp_reg]
  generalize hK : seqQ Gam _ _ 0 = K
  simp (disch := omega)
  refine callW_of (c443 h1 h.length 0 hs1 (by omega)) ?_
  rintro _ h2 ⟨⟨W, H, br⟩, hl, md2, o2, hs2⟩
  try refine ⟨fun e => (by cases e), ?_⟩
  obtain ⟨s, rfl, w64, h64, o3⟩ := o2.panel
  obtain ⟨bb, zz, e, hz, hmx, hx, hbb⟩ := o3.ints
  subst e
  have L2 := md2.1
  have hl : br.length ≤ 200 := hl
  have hsb : storeAt (h2 ++ [⟨[I 0, I 0, sl 0 0 0 0], true⟩]) h2.length 0 [I W, I H, sl bb 0 br.length zz] = some (h2 ++ [⟨[I W, I H, sl bb 0 br.length zz], true⟩]) := store_box rfl
  simp (disch := omega) [hsb]
  subst hK
  simp only [seqQ_zero]
  obtain ⟨h3, e3⟩ : ∃ h3, h3 = h2 ++ [⟨[I W, I H, sl bb 0 br.length zz], true⟩] := ⟨_, rfl⟩
  have g3 : Grows h2 h3 := ⟨_, e3⟩
  have f3 : h3[h2.length]? = some ⟨[I W, I H, sl bb 0 br.length zz], true⟩ := by rw [e3]; simp
  rw [← e3]
  have o4 := o2.grow g3
  have pp : PtP h3 (pt h2.length 0) (W, H, br) := PtP.at f3 (o3.vr.grow g3) w64 h64
  have hc : cellsAt h3 h2.length 0 3 = some [I W, I H, sl bb 0 br.length zz] := cellsAt_all f3 rfl
  rw [awp_seq, awp_reg]
  generalize hK : seqQ Gam _ _ 0 = K
  simp (disch := omega) [hc]
  refine awpOps_side (x := .tmp 5) rfl rfl rfl (by simp; exact c547 h3 h.length _ h2.length 0 _ (hs2.grow g3) (by omega) pp (by omega) (by simp only; omega) (by
    intro bb' o n z hc'
    rw [cell_of f3 (i := 0 + 2) rfl] at hc'
    simp at hc'
    obtain ⟨⟨rfl, rfl⟩, rfl, rfl⟩ := hc'
    rcases hbb with q | q
    · left; simp [q]
    · right; omega)) ?_
  rintro _ h4 ⟨L, hL, md4, o5, _⟩
  have L3 := g3.le
  have o6 := o4.draw md4 (by omega)
  refine ⟨?_, ?_⟩
  · simp
    exact sameAt_iff.2 (md4.2 _ (by simp only; rw [e3]; simp) (by simp only; omega))
  subst hK
  have g : Grows h h4 := md4.grows ((md2.grows g1 (Nat.le_refl _)).trans g3) (Nat.le_refl _)
  have v6 := o6.vr
  have v5 := o5.vr
  obtain ⟨tb, to, tz, rfl, _⟩ := v5.trips
  simp (disch := omega) [isOwn, resOf, resAll, resOne, aField]
  exact ⟨W, H, br, L, _, _, ⟨rfl, rfl⟩, hl, hL, g, v6, v5⟩
theorem c354 (h : Heap) (v : Value) (X : List Int) (hp : 0 < h.length) (hv : Vr h shBytes v X) : ACall Gam 354 [v] h fun r h' => ∃ L : List Trip, L.length ≤ 1100 ∧ Grows h h' ∧ Vr h' shTrips r L := by
  refine ACall_intro g354 rfl ?_
  unfold fn354
  rw [awp_seq, awp_reg]
  generalize hK : seqQ Gam _ _ 0 = K
  simp (disch := omega)
  subst hK
  simp only [seqQ_zero]
  rw [awp_seq, awp_reg]
  generalize hK : seqQ Gam _ _ 0 = K
  simp (disch := omega)
  refine callW_of (c350 h v X hp hv) ?_
  rintro _ h1 ⟨⟨W, H, br⟩, L, r0, r1, rfl, hl, hL, g1, v0, v1⟩
  try refine ⟨fun e => (by first | exact g1 | cases e), ?_⟩
  obtain ⟨s, rfl, _⟩ := v0.panel
  have v1' := v1
  obtain ⟨tb, to, tz, rfl, _⟩ := v1.trips
  try simp (disch := omega)
  subst hK
  simp only [seqQ_zero]
  simp (disch := omega)
  exact ⟨L, hL, g1, v1'⟩
theorem c353 (h : Heap) (v : Value) (X : List Int) (hp : 0 < h.length) (hv : Vr h shBytes v X) : ACall Gam 353 [v] h fun r h' => ∃ L : List Trip, L.length ≤ 1100 ∧ Grows h h' ∧ Vr h' shTrips r L := by
  refine ACall_intro g353 rfl ?_
  unfold fn353
  simp (disch := omega)
  refine callW_of (c354 h v X hp hv) ?_
  rintro _ h1 ⟨L, hL, g1, v1⟩
  try refine ⟨fun e => (by first | exact g1 | cases e), ?_⟩
  have v1' := v1
  obtain ⟨tb, to, tz, rfl, _⟩ := v1.trips
  try simp (disch := omega)
  exact ⟨L, hL, g1, v1'⟩
theorem c352 (h : Heap) (v : Value) (X : List Int) (hp : 0 < h.length) (hv : Vr h shBytes v X) : ACall Gam 352 [v] h fun r h' => ∃ (P Q : Pan) (r0 r1 : Value), r = .tuple #[r0, r1] ∧ P.2.2.length ≤ 200 ∧ Q.2.2.length ≤ 200 ∧ Grows h h' ∧ Vr h' shPanel r0 P ∧ Vr h' shPanel r1 Q := by
  refine ACall_intro g352 rfl ?_
  unfold fn352
  rw [awp_seq, awp_reg]
  generalize hK : seqQ Gam _ _ 0 = K
  simp (disch := omega)
  subst hK
  simp only [seqQ_zero]
  rw [awp_seq, awp_reg]
  generalize hK : seqQ Gam _ _ 0 = K
  simp (disch := omega)
  refine callW_of (c431 h v X hv) ?_
  rintro _ h1 ⟨rfl, g1, l1, hs1⟩
  try refine ⟨fun e => (by first | exact g1 | cases e), ?_⟩
  try simp (disch := omega)
  subst hK
  simp only [seqQ_zero]
  rw [awp_seq, awp_reg]
  generalize hK : seqQ Gam _ _ 0 = K
  simp (disch := omega)
  refine callW_of (c443 h1 h.length 0 hs1 (by omega)) ?_
  rintro _ h2 ⟨⟨W, H, br⟩, hl, md2, o2, hs2⟩
  try refine ⟨fun e => (by cases e), ?_⟩
  obtain ⟨s, rfl, w64, h64, o3⟩ := o2.panel
  obtain ⟨bb, zz, e, hz, hmx, hx, hbb⟩ := o3.ints
  subst e
  have L2 := md2.1
  have hl : br.length ≤ 200 := hl
  have hsb : storeAt (h2 ++ [⟨[I 0, I 0, sl 0 0 0 0], true⟩]) h2.length 0 [I W, I H, sl bb 0 br.length zz] = some (h2 ++ [⟨[I W, I H, sl bb 0 br.length zz], true⟩]) := store_box rfl
  simp (disch := omega) [hsb]
  subst hK
  simp only [seqQ_zero]
  obtain ⟨h3, e3⟩ : ∃ h3, h3 = h2 ++ [⟨[I W, I H, sl bb 0 br.length zz], true⟩] := ⟨_, rfl⟩
  have g3 : Grows h2 h3 := ⟨_, e3⟩
  have f3 : h3[h2.length]? = some ⟨[I W, I H, sl bb 0 br.length zz], true⟩ := by rw [e3]; simp
  have l3 : h3.length = h2.length + 1 := by rw [e3]; simp
  rw [← e3]
  have o4 := o2.grow g3
  have hs3 := hs2.grow g3
  have G3 : Grows h h3 := (md2.grows g1 (Nat.le_refl _)).trans g3
  clear e3
  rw [awp_seq]
  generalize hK : seqQ Gam _ _ = K
  simp (disch := omega)
  refine callW_of (c6 h3 h.length _ 5 hs3 (by omega) (by unfold I64; omega)) ?_
  rintro _ h4 ⟨w, rfl, md4, l4, hs4⟩
  try refine ⟨fun e => (by cases e), ?_⟩
  have o5 := o4.draw md4 (by omega)
  have f4 : h4[h2.length]? = some ⟨[I W, I H, sl bb 0 br.length zz], true⟩ := by rw [md4.2 _ (by omega) (by omega)]; exact f3
  have hc : cellsAt h4 h2.length 0 3 = some [I W, I H, sl bb 0 br.length zz] := cellsAt_all f4 rfl
  have G4 : Grows h h4 := md4.grows G3 (Nat.le_refl _)
  cases w
  · simp (disch := omega)
    subst hK
    simp only [seqQ_zero]
    have pp : PtP h4 (pt h2.length 0) (W, H, br) := PtP.at f4 ((o3.vr.grow g3 |> fun _ => by
      obtain ⟨s', e', _, _, o'⟩ := o5.panel
      simp at e'
      subst e'
      exact o'.vr)) w64 h64
    rw [awp_seq, awp_reg]
    generalize hK : seqQ Gam _ _ 0 = K
    simp (disch := omega) [hc]
    refine awpOps_side (x := .tmp 5) rfl rfl rfl (by simp; exact c555 h4 h.length _ (pt h2.length 0) _ hs4 (by omega) pp (by simp only; omega)) ?_
    rintro _ h5 ⟨⟨W', H', br'⟩, _, _, e5, md5, o7, _⟩
    have e5 : br'.length = br.length := e5
    have o6 := o5.draw md5 (by omega)
    refine ⟨?_, ?_⟩
    · simp
      exact sameAt_iff.2 (md5.2 _ (by simp only; omega) (by simp only; omega))
    subst hK
    have v6 := o6.vr
    have v7 := o7.vr
    obtain ⟨s7, rfl, _⟩ := v7.panel
    simp (disch := omega) [isOwn, resOf, resAll, resOne, aField]
    exact ⟨W, H, br, W', H', br', _, _, ⟨rfl, rfl⟩, hl, by omega, md5.grows G4 (Nat.le_refl _), v6, v7⟩
  · simp (disch := omega) [hc]
    refine awpOps_side (x := .tmp 5) rfl rfl rfl (by simp; exact c443 h4 h.length _ hs4 (by omega)) ?_
    rintro _ h5 ⟨⟨W', H', br'⟩, e5, md5, o7, _⟩
    have o6 := o5.draw md5 (by omega)
    refine ⟨?_, ?_⟩
    · simp
      exact sameAt_iff.2 (md5.2 _ (by simp only; omega) (by simp only; omega))
    subst hK
    have v6 := o6.vr
    have v7 := o7.vr
    obtain ⟨s7, rfl, _⟩ := v7.panel
    simp (disch := omega) [isOwn, resOf, resAll, resOne, aField]
    exact ⟨W, H, br, W', H', br', _, _, ⟨rfl, rfl⟩, hl, e5, md5.grows G4 (Nat.le_refl _), v6, v7⟩
theorem c368 (h : Heap) (v : Value) (X : List Int) (hp : 0 < h.length) (hv : Vr h shBytes v X) : ACall Gam 368 [v] h fun r h' => ∃ s : List UInt8, r = S s ∧ s.length ≤ 1048576 ∧ Grows h h' := by
  refine ACall_intro g368 rfl ?_
  unfold fn368
  rw [awp_seq, awp_reg]
  generalize hK : seqQ Gam _ _ 0 = K
  simp (disch := omega)
  subst hK
  simp only [seqQ_zero]
  rw [awp_seq, awp_reg]
  generalize hK : seqQ Gam _ _ 0 = K
  simp (disch := omega)
  refine callW_of (c431 h v X hv) ?_
  rintro _ h1 ⟨rfl, g1, l1, hs1⟩
  try refine ⟨fun e => (by first | exact g1 | cases e), ?_⟩
  try simp (disch := omega)
  subst hK
  simp only [seqQ_zero]
  rw [awp_seq, awp_reg]
  generalize hK : seqQ Gam _ _ 0 = K
  simp (disch := omega)
  refine callW_of (c354 h1 v X (by omega) (hv.grow g1)) ?_
  rintro _ h2 ⟨L, hL, g2, v2⟩
  try refine ⟨fun e => (by first | exact g2 | cases e), ?_⟩
  have v2' := v2
  obtain ⟨tb, to, tz, rfl, _, _, hx2, _⟩ := v2.trips
  have L2 := g2.le
  have hs2 := hs1.grow g2
  try simp (disch := omega)
  subst hK
  simp only [seqQ_zero]
  rw [awp_seq]
  generalize hK : seqQ Gam _ _ = K
  try simp (disch := omega)
  refine callW_of (c550 h2 _ L v2' (by omega)) ?_
  rintro _ h3 ⟨rfl, rfl⟩
  try refine ⟨fun e => (by cases e), ?_⟩
  cases q : okD L
  · simp (disch := omega) [aBuildSlice]
    subst hK
    generalize hT : ([[48, 43], [48, 43, 124, 45], [49, 49, 50, 43, 124], [49, 49, 49, 43, 124], [120, 43, 124], [48, 43, 124, 32, 32, 49, 45, 43], [45, 49, 43, 124]] : List (List UInt8)) = T
    have hTl : T.length = 7 := by rw [← hT]; rfl
    have hTs : ∀ x ∈ T, x.length ≤ 10 := by rw [← hT]; decide
    obtain ⟨h4, e4⟩ : ∃ h4, h4 = h3 ++ [⟨T.map S, true⟩] := ⟨_, rfl⟩
    have g4 : Grows h3 h4 := ⟨_, e4⟩
    have l4 : h4.length = h3.length + 1 := by rw [e4]; simp
    have hc := c8 h4 h.length 0 h3.length T (hs2.grow g4) (by omega) (by rw [e4]; simp) (by omega) (by omega) (by omega)
    rw [hTl] at hc
    rw [show h3 ++ [(⟨[S [48, 43], S [48, 43, 124, 45], S [49, 49, 50, 43, 124], S [49, 49, 49, 43, 124], S [120, 43, 124], S [48, 43, 124, 32, 32, 49, 45, 43], S [45, 49, 43, 124]], true⟩ : Blk)] = h4 by rw [e4, ← hT]; rfl]
    refine callW_of hc ?_
    rintro _ h5 ⟨s, hm, rfl, md5, l5, _⟩
    try refine ⟨fun e => (by cases e), ?_⟩
    have := hTs s hm
    have g5 := md5.grows ((g1.trans g2).trans g4) (Nat.le_refl _)
    simp (disch := omega)
    exact ⟨by omega, g5⟩
  · have q2 := q
    unfold okD at q2
    simp only [Bool.and_eq_true, decide_eq_true_eq] at q2
    have hLl : L.length ≤ 112 := q2.2
    simp (disch := omega)
    subst hK
    simp only [seqQ_zero]
    rw [awp_seq, awp_reg]
    generalize hK : seqQ Gam _ _ 0 = K
    simp (disch := omega)
    refine callW_of (c553 h3 (by omega) _ L v2' hLl) ?_
    rintro _ h4 ⟨rfl, g4⟩
    try refine ⟨fun e => (by first | exact g4 | cases e), ?_⟩
    have hdl : (diffT L).length ≤ 1000000 := by
      have := diffText_len hx2
      unfold diffText at this
      rw [if_pos q] at this
      omega
    try simp (disch := omega)
    refine callW_of (c442 h4 h.length _ _ (hs2.grow g4) (by omega) hdl) ?_
    rintro _ h5 ⟨t, rfl, ht, md5⟩
    try refine ⟨fun e => (by cases e), ?_⟩
    have g5 := md5.grows ((g1.trans g2).trans g4) (Nat.le_refl _)
    subst hK
    simp (disch := omega)
    exact ⟨by omega, g5⟩
end Am
/-! AmS12 -/
set_option linter.unusedVariables false
set_option linter.unusedSimpArgs false
set_option maxHeartbeats 4000000
set_option maxRecDepth 4000
namespace Am
open Go

theorem c270 (h : Heap) (v w : Value) (X Y : List Trip) (hv : Vr h shTrips v X) (hw : Vr h shTrips w Y) : ACall Gam 270 [v, w] h fun r h' => r = B (decide (X = Y)) ∧ h' = h := by
  obtain ⟨b1, o1, z1, rfl, hm1, hc1⟩ := trips_at hv
  obtain ⟨b2, o2, z2, rfl, hm2, hc2⟩ := trips_at hw
  rw [maxLen_eq] at hm1 hm2
  refine ACall_intro g270 rfl ?_
  unfold fn270
  simp (disch := omega)
  refine fork_dec (fun heq => ?_) (fun hne => ?_)
  · simp (disch := omega)
    refine awp_loop (fun k σ h' => h' = h ∧ k ≤ X.length ∧ X.take k = Y.take k ∧ σ 0 = sl b1 o1 X.length z1 ∧ σ 1 = sl b2 o2 Y.length z2 ∧ σ 5 = I k) (fun k => X.length - k) 0 ?_ ?_
    · simp
    · rintro k σ h' ⟨rfl, hk, ht, h0, h1, h5⟩
      simp (disch := omega) [h0, h1, h5]
      refine fork_dec (fun hlt => ?_) (fun hge => ?_)
      · have k1 : k < X.length := by omega
        have k2 : k < Y.length := by omega
        simp (disch := omega) [h0, h1, h5, hc1 k k1, hc2 k k2, k1, k2, neq_trip]
        refine fork_dec (fun he => ?_) (fun he => ?_)
        · simp (disch := omega) [h0, h1, h5]
          refine ⟨k + 1, ⟨by omega, ?_, ?_⟩, by omega⟩
          · rw [List.take_succ_eq_append_getElem k1, List.take_succ_eq_append_getElem k2, ht, he]
          · rw [wrap64 (by omega) (by omega)]; simp
        · simp (disch := omega) [h0, h1, h5]
          exact take_ne k1 k2 he
      · simp (disch := omega) [h0, h1, h5]
        have q1 : k = X.length := by omega
        have q2 : X.length = Y.length := by omega
        subst q1
        rw [List.take_length, q2, List.take_length] at ht
        exact ht
  · simp (disch := omega)
    intro e; apply hne; rw [e]

def distAns (X Y : Pan) : Int × Int := if okP X && okP Y then (if sameSz X Y then (((dpre X.2.2 Y.2.2 X.2.2.length).length : Int), 0) else (0, 6)) else (0, 1)
theorem c81 (h : Heap) (hp : 0 < h.length) (v0 : Value) (X0 : Pan) (hv0 : Vr h shPanel v0 X0) (v1 : Value) (X1 : Pan) (hv1 : Vr h shPanel v1 X1) :
    ACall Gam 81 [v0, v1] h fun r h' => h' = h ∧ r = .tuple #[I (distAns X0 X1).1, I (distAns X0 X1).2] := by
  obtain ⟨W0, H0, a⟩ := X0
  obtain ⟨W1, H1, b⟩ := X1
  have hv0' := hv0
  have hv1' := hv1
  obtain ⟨s0, rfl, w0, x0, hr0⟩ := hv0.panel
  obtain ⟨s1, rfl, w1, x1, hr1⟩ := hv1.panel
  obtain ⟨d, hd⟩ : ∃ d, d = distAns (W0, H0, a) (W1, H1, b) := ⟨_, rfl⟩
  rw [← hd]
  refine ACall_intro g81 rfl ?_
  unfold fn81
  rw [awp_seq, awp_reg]
  generalize hK : seqQ Gam _ _ 0 = K
  simp (disch := omega)
  subst hK
  simp only [seqQ_zero]
  rw [awp_seq]
  generalize hK : seqQ Gam _ _ = K
  simp (disch := omega)
  refine callW_of (c140 _ _ h hv0') ?_
  rintro _ h1 ⟨rfl, rfl⟩
  cases q0 : okP (W0, H0, a)
  · have eD : d = (0, 1) := by rw [hd]; simp [distAns, q0]
    subst eD
    subst hK
    simp
  · simp (disch := omega)
    refine callW_of (c140 _ _ h1 hv1') ?_
    rintro _ h1 ⟨rfl, rfl⟩
    cases q1 : okP (W1, H1, b)
    · have eD : d = (0, 1) := by rw [hd]; simp [distAns, q1]
      subst eD
      subst hK
      simp
    · simp (disch := omega)
      subst hK
      simp only [seqQ_zero]
      rw [awp_seq]
      generalize hK : seqQ Gam _ _ = K
      cases q2 : sameSz (W0, H0, a) (W1, H1, b)
      · have eD : d = (0, 6) := by rw [hd]; simp [distAns, q0, q1, q2]
        subst eD
        have ne : ¬ (W0 = W1 ∧ H0 = H1) := by
          intro e; rw [(sameSz_iff.2 e)] at q2; cases q2
        by_cases e1 : W0 = W1
        · have e2 : ¬ H0 = H1 := fun e => ne ⟨e1, e⟩
          simp (disch := omega) [e1, e2]
          subst hK
          simp
        · simp (disch := omega) [e1]
          subst hK
          simp
      · have eD : d = (((dpre a b a.length).length : Int), 0) := by rw [hd]; simp [distAns, q0, q1, q2]
        have ok0 := okP_iff.1 q0
        have ok1 := okP_iff.1 q1
        have hll : a.length = b.length := same_len ok0 ok1 q2
        have hla := ok_len ok0
        subst eD
        obtain ⟨e1, e2⟩ := sameSz_iff.1 q2
        simp only at e1 e2
        subst e1; subst e2
        obtain ⟨b0, o0, z0, rfl, _, hm0, hx0, hc0⟩ := hr0.ints
        obtain ⟨b1, o1, z1, rfl, _, hm1, hx1, hc1⟩ := hr1.ints
        simp (disch := omega)
        subst hK
        simp only [seqQ_zero]
        simp (disch := omega)
        refine awp_loop (fun k σ h' => k ≤ a.length ∧ h' = h1 ∧ σ 3 = .agg #[I W0, I H0, sl b1 o1 b.length z1] ∧ σ 30 = sl b0 o0 a.length z0 ∧ σ 31 = I a.length ∧ σ 32 = I k ∧ σ 6 = I (dpre a b k).length) (fun k => a.length - k) 0 ?_ ?_
        · exact ⟨by omega, rfl, by simp, by simp, by simp, by simp, by simp [dpre]⟩
        · rintro k σ h' ⟨hk, rfl, t3, t30, t31, t32, hb⟩
          simp (disch := omega) [t31, t32]
          refine fork_dec (fun hlt => ?_) (fun hge => ?_)
          · have l0 : k < a.length := by omega
            have l1 : k < b.length := by omega
            have f0 := ints_cell hc0 l0
            have f1 := ints_cell hc1 l1
            rw [← at0_of l0] at f0
            rw [← at0_of l1] at f1
            have hdl := dpre_len a b k
            simp (disch := omega) [t3, t30, t31, t32, l0, l1, f0, f1]
            refine fork_dec (fun he => ?_) (fun he => ?_)
            · simp (disch := omega) [t3, t30, t31, t32, wrap64]
              exact ⟨k + 1, ⟨by omega, by omega, by rw [dpre_succ, if_pos he]; simpa using hb⟩, by omega⟩
            · simp (disch := omega) [t3, t30, t31, t32, l0, l1, f0, f1, hb, wrap64]
              exact ⟨k + 1, ⟨by omega, by omega, by rw [dpre_succ, if_neg he]; simp⟩, by omega⟩
          · have : k = a.length := by omega
            subst this
            simp (disch := omega) [t3, t30, t31, t32, hb]
end Am

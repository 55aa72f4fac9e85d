/- Contracts: AmY20, AmY21, AmY22, AmY23. -/
import Derived.Test.YtikhbjdcomgemaaAmK8
/-! AmY20 -/
set_option linter.unusedVariables false
set_option linter.unusedSimpArgs false
set_option maxHeartbeats 4000000
set_option maxRecDepth 4000
namespace Am
open Go

theorem KB.low {h0 h1 h : Heap} {v : Value} {L : List Row} (k : KB h1 h v L) (g : Grows h0 h1) : KB h0 h v L := by
  have l := g.le
  refine ⟨?_, k.el, k.nd, fun r hr c hc => Nat.le_trans l (k.rg r hr c hc)⟩
  rcases k.b with q | ⟨b, n, e1, e2, e3, e4⟩
  · exact .inl q
  · exact .inr ⟨b, n, e1, e2, by omega, e4⟩
theorem KB.grow {h0 h h' : Heap} {v : Value} {L : List Row} (k : KB h0 h v L) (g : Grows h h') : KB h0 h' v L :=
  ⟨k.b.grow g, fun r hr => (k.el r hr).frame fun c hc => g.look ((k.el r hr).lt c hc), k.nd, k.rg⟩
theorem KB.kat {h0 h : Heap} {v : Value} {L : List Row} (k : KB h0 h v L) (hl : L.length ≤ 1048576) : ∃ b, v = sl b 0 L.length 4 ∧ KAt h b 0 4 (L.map (·.1)) := by
  have vo := k.vo (by rw [maxLen_eq]; omega)
  obtain ⟨b, e⟩ := k.len
  subst e
  obtain ⟨b', o', z', e, hX⟩ := vo.vr.kat
  simp at e
  obtain ⟨⟨rfl, rfl⟩, rfl⟩ := e
  exact ⟨b, rfl, hX⟩
/-- All that was there stays, but for a list's own block. -/
def FrameOut (h h' : Heap) (v w : Value) : Prop := h.length ≤ h'.length ∧ (∃ b2 n2, w = sl b2 0 n2 4 ∧ h.length ≤ b2) ∧ ∀ c, c < h.length → (∀ m, v ≠ sl c 0 m 4) → h'[c]? = h[c]?
/-- Rows that are of a list, or are one row. -/
def OneMore (L' : List Row) (r : Row) (L : List Row) : Prop := ∀ q ∈ L', q = r ∨ q ∈ L
theorem c200 (h0 h : Heap) (hp : 0 < h0.length) (g : Grows h0 h) (v : Value) (L : List Row) (kb : KB h0 h v L) (hl : L.length ≤ 1000) (srt : SortK (L.map (·.1))) (r : Row) (hn : ∀ y ∈ L.map (·.1), y.1 ≠ r.1.1) (er : EntO h r) (hr0 : ∀ c ∈ rowB r, h0.length ≤ c) (hrn : ∀ q ∈ L, ∀ c ∈ rowB q, c ∉ rowB r) (hv : ∀ m, v ≠ sl r.2.1 0 m 4 ∨ rbr r = []) :
    ACall Gam 200 [v, .agg #[S r.1.1, I r.1.2.1, I r.1.2.2.1, rowS r]] h fun w h' => Grows h0 h' ∧ FrameOut h h' v w ∧ ∃ L', KB h0 h' w L' ∧ L'.map (·.1) = insK r.1 (L.map (·.1)) ∧ OneMore L' r L ∧ L'.length = L.length + 1 := by
  obtain ⟨b, e, hX⟩ := kb.kat (by omega)
  have hlm : (L.map (·.1)).length = L.length := by simp
  have kb0 := kb
  rw [e] at kb hv ⊢
  refine ACall_intro g200 rfl ?_
  unfold fn200
  simp (disch := omega)
  have hc := c306 h b 0 4 (L.map (·.1)) hX (by omega) srt r.1.1 r.1.2.1 r.1.2.2.1 (rowS r) hn
  rw [hlm] at hc
  refine callW_of hc ?_
  rintro _ h' ⟨rfl, k, c, put, rfl⟩
  have hk := put.le
  rw [hlm] at hk
  have eb : aBuildSlice 4 1 h' [(0, .agg #[S [], I 0, I 0, sl 0 0 0 0]), (4, .agg #[S r.1.1, I r.1.2.1, I r.1.2.2.1, rowS r])] = some (sl h'.length 0 1 4, h' ++ [⟨rowC r, true⟩]) := by simp [aBuildSlice, rowC]
  try refine ⟨fun e => (by cases e), ?_⟩
  simp (disch := omega) [eb]
  refine callW_of (c318 h0 h' (h' ++ [⟨rowC r, true⟩]) hp g (sl b 0 L.length 4) L kb hl k hk r ⟨_, rfl⟩ er hr0 hrn h'.length (Nat.le_refl _) (by simp) hv) ?_
  rintro w h2 ⟨g2, kb2, fr⟩
  have hfr' : FrameOut h' h2 (sl b 0 L.length 4) w := fr
  obtain ⟨L2, hL2⟩ : ∃ L2, L2 = L.take k ++ r :: L.drop k := ⟨_, rfl⟩
  rw [← hL2] at kb2
  obtain ⟨b2, e2⟩ := kb2.len
  subst e2
  have m1 : L2.map (·.1) = insK r.1 (L.map (·.1)) := by
    rw [hL2, ← put.ins]
    simp [List.map_take, List.map_drop]
  have m2 : OneMore L2 r L := by
    intro q hq
    rw [hL2] at hq
    have := (ins_perm L k r).mem_iff.1 hq
    simpa using this
  have m3 : L2.length = L.length + 1 := by
    have := (ins_perm L k r).length_eq
    rw [hL2]
    simpa using this
  simp (disch := omega)
  exact ⟨g2, hfr', L2, kb2, m1, m2, m3⟩
/-- The place in the order, sought from the end. -/
theorem c544 (h : Heap) (hp : 0 < h.length) (b o z : Nat) (X : Lib) (hX : KAt h b o z X) (hz : z = 4 ∨ X = []) (hl : X.length ≤ 900) (srt : SortK X) (n : List UInt8) (W H : Int) (br : List Int) (s : Value) (hs : Vr h shInts s br) (w1 : I64 W) (w2 : I64 H) (w0 : n.length ≤ 9223372036854775807) (hn : ∀ y ∈ X, y.1 ≠ n) :
    ACall Gam 544 [sl b o X.length z, .agg #[S n, I W, I H, s]] h fun w h' => Grows h h' ∧ ∃ b', w = sl b' 0 (X.length + 1) 4 ∧ KAt h' b' 0 4 (insK (n, W, H, br) X) := by
  refine ACall_intro g544 rfl ?_
  unfold fn544
  simp (disch := omega)
  refine awp_loop (fun (k : Nat) σ h' => h' = h ∧ k ≤ X.length ∧ σ 0 = sl b o X.length z ∧ σ 3 = .agg #[S n, I W, I H, s] ∧ σ 5 = I k ∧ ∀ i (hi : i < X.length), k ≤ i → lexLt n X[i].1 = true) (fun k => k) X.length ?_ ?_
  · refine ⟨rfl, by omega, by simp, by simp, by simp, fun i hi h => by omega⟩
  · rintro k σ h' ⟨rfl, hk, q0, q3, q5, hi⟩
    have hz1 : z = 4 ∨ b = 0 := hX.1.2
    have tail : ∀ (k : Nat) (ki : Int), ki = k → IsPut X n k → bindW (aSlice 9 h' (sl b o X.length z) none (some (I ki)) none) fun v h1 => bindW (aAppend 4 h1 v (sl 0 0 0 4)) fun v h2 => bindW (aBuildSlice 4 1 h2 [(0, .agg #[S [], I 0, I 0, sl 0 0 0 0]), (4, .agg #[S n, I W, I H, s])]) fun v1 h3 => bindW (aAppend 4 h3 v1 v) fun v h4 => bindW (aSlice 9 h4 (sl b o X.length z) (some (I ki)) none none) fun v2 h5 => bindW (aAppend 4 h5 v2 v) fun v h6 =>
        Grows h' h6 ∧ ∃ b', v = sl b' 0 (X.length + 1) 4 ∧ KAt h6 b' 0 4 (insK (n, W, H, br) X) := by
      rintro k ki rfl put
      have hk := put.le
      have e1 : aSlice 9 h' (sl b o X.length z) none (some (I k)) none = some (sl b o k z, h') := by
        simp [aSlice, bound, hk, hz1]
      rw [e1]
      simp only [bindW_some]
      refine app_part (h0 := h') (i := 0) (j := k) (X := []) (Y := X) (cs := []) hp (Grows.refl _) Buf.nil KCs.nil hX hz (by omega) hk (by simp) (by omega) (by omega) (by omega) fun v2 h2 cs2 G2 B2 C2 => ?_
      have e2 : aBuildSlice 4 1 h2 [(0, .agg #[S [], I 0, I 0, sl 0 0 0 0]), (4, .agg #[S n, I W, I H, s])] = some (sl h2.length 0 1 4, h2 ++ [⟨[S n, I W, I H, s], true⟩]) := by simp [aBuildSlice]
      rw [e2]
      simp only [bindW_some]
      have gb : Grows h2 (h2 ++ [⟨[S n, I W, I H, s], true⟩]) := ⟨_, rfl⟩
      have lc2 := C2.1
      simp only [List.nil_append, List.drop_zero, List.length_take] at lc2
      refine append_buf hp (G2.trans gb) (B2.grow gb) (new := [S n, I W, I H, s]) ?_ (by omega) (by simp) (by simp) (by rw [lc2]; simp [maxSize]; omega) fun v3 h3 G3 B3 _ => ?_
      · simp [newCells]
        rw [cellsAt_of (k := ⟨[S n, I W, I H, s], true⟩) (by simp) (by simp)]
        simp
      have C1 : KCs h' [((n, W, H, br) : Kpt)] [S n, I W, I H, s] := by
        refine ⟨rfl, fun i hi => ?_⟩
        have : i = 0 := by simpa using hi
        subst this
        exact ⟨s, by simp, hs, w1, w2, w0⟩
      have C3 := C2.append C1
      have e3 : aSlice 9 h3 (sl b o X.length z) (some (I k)) none none = some (sl b (o + k * z) (X.length - k) z, h3) := by
        simp [aSlice, bound, hk, hz1]
      rw [e3]
      simp only [bindW_some]
      refine app_part (h0 := h') (i := k) (j := X.length) (Y := X) hp G3 B3 C3 hX hz hk (Nat.le_refl _) (by simp; omega) (by omega) rfl rfl fun v4 h4 cs4 G4 B4 C4 => ?_
      have em : [] ++ (X.take k).drop 0 ++ [((n, W, H, br) : Kpt)] ++ (X.take X.length).drop k = insK (n, W, H, br) X := by
        rw [← put.ins]; simp
      rw [em] at C4
      obtain ⟨b4, e4, hX4⟩ := C4.kat B4 G4 (by rw [insK_len, maxLen_eq]; omega)
      rw [insK_len] at e4
      exact ⟨G4, b4, e4, hX4⟩
    have srt' : ∀ k, k ≤ X.length → (∀ i (hi : i < X.length), k ≤ i → lexLt n X[i].1 = true) → (0 < k → ∀ h : k - 1 < X.length, lexLt X[k - 1].1 n = true) → IsPut X n k := fun k hk hi lo =>
      SortK.put srt hn hk lo (fun h => hi k h (Nat.le_refl _))
    by_cases hk0 : k = 0
    · subst hk0
      have put := srt' 0 (by omega) hi (by omega)
      simp (disch := omega) [q0, q3, q5]
      exact tail 0 0 rfl put
    · obtain ⟨k, rfl⟩ : ∃ j, k = j + 1 := ⟨k - 1, by omega⟩
      have k1 : k < X.length := by omega
      obtain ⟨s', c, c1, _⟩ := hX.cells k1
      have i1 : (k : Int) + 1 - 1 = k := by omega
      have i2 : (0 : Int) < (k : Int) + 1 := by omega
      have i3 : 0 < k + 1 := by omega
      cases q : lexLt n X[k].1
      · have q' := lexLt_or q (Ne.symm (hn _ (List.getElem_mem k1)))
        have put := srt' (k + 1) hk hi (fun _ h => q')
        simp (disch := omega) [q0, q3, q5, i1, i2, i3, k1, c1, q', wrap64]
        exact tail (k + 1) _ (by omega) put
      · have q' := lexLt_asym q
        have hne := Ne.symm (hn _ (List.getElem_mem k1))
        have hne' := hn _ (List.getElem_mem k1)
        simp (disch := omega) [q0, q3, q5, i1, i2, i3, k1, c1, q', hne', wrap64]
        refine ⟨k, ⟨by omega, rfl, fun i hi' h => ?_⟩, by omega⟩
        by_cases e : i = k
        · subst e; exact q
        · exact hi i hi' (by omega)

theorem kb_apart {h3 h4 : Heap} {v : Value} {L : List Row} (kb : KB h3 h4 v L) {c : Nat} (h1 : c < h3.length) (h2 : 0 < c) (m : Nat) : v ≠ sl c 0 m 4 := by
  intro e
  rcases kb.b with ⟨_, q⟩ | ⟨b, n, q, _, q3, _⟩
  · rw [q] at e
    simp only [sl, Value.slice.injEq, Option.some.injEq, Addr.mk.injEq] at e
    omega
  · rw [q] at e
    simp only [sl, Value.slice.injEq, Option.some.injEq, Addr.mk.injEq] at e
    omega
theorem small_siz {X : Lib} {n : Nat} (hl : X.length ≤ n) (hs : ∀ y ∈ X, y.1.length ≤ 12 ∧ y.2.2.2.length ≤ 128) : siz shKepts X ≤ 200 * n := by
  have key : ∀ Y : Lib, (∀ y ∈ Y, y.1.length ≤ 12 ∧ y.2.2.2.length ≤ 128) → Y.length + sizL Y ≤ 200 * Y.length := by
    intro Y
    induction Y with
    | nil => intro _; simp [sizL]
    | cons y Y ih =>
      intro hy
      have h1 := ih fun z hz => hy z (by simp [hz])
      obtain ⟨a, b⟩ := hy y (by simp)
      have h3 : siz shKept y = y.1.length + y.2.2.2.length := siz_kept _ _ _ _
      have h4 : sizL (y :: Y) = siz shKept y + sizL Y := by simp [sizL]
      rw [h4, h3]
      simp only [List.length_cons]; omega
  have := key X hs
  rw [siz_kepts]; omega
theorem nameOk_len {s : List UInt8} (h : nameOk s = true) : s.length ≤ 12 := by
  simp only [nameOk, Bool.and_eq_true, decide_eq_true_eq] at h
  exact h.2.1
theorem add_siz (X : Lib) (s : List UInt8) (p : Pan) : siz shKepts (addAns X s p).1 ≤ 16777216 := by
  unfold addAns
  split
  · rename_i h
    simp only [Bool.and_eq_true] at h
    have ok := keptOk_iff.1 h.1
    have okp := canonP_ok (okP_iff.1 h.2)
    split
    · rename_i hn
      split
      · rw [siz_kepts]; simp [sizL]
      · split
        · rw [siz_kepts]; simp [sizL]
        · have := small_siz (X := insK (s, canonP p) X) (n := 41) (by rw [insK_len]; have := ok.len; omega) (by
            intro y hy
            rcases mem_insK.1 hy with e | e
            · rw [e]; exact ⟨nameOk_len hn, okp.siz⟩
            · exact ok.small y e)
          simp only
          omega
    · rw [siz_kepts]; simp [sizL]
  · rw [siz_kepts]; simp [sizL]
theorem c61 (h : Heap) (hp : 0 < h.length) (v0 : Value) (X : Lib) (hv0 : Vr h shKepts v0 X) (hs0 : siz shKepts X ≤ 1048576) (s : List UInt8) (hs1 : s.length ≤ 1048576) (v2 : Value) (P : Pan) (hv2 : Vr h shPanel v2 P) (hs2 : siz shPanel P ≤ 1048576) :
    ACall Gam 61 [v0, S s, v2] h fun r h' => Grows h h' ∧ ∃ r0, r = .tuple #[r0, I (addAns X s P).2] ∧ Vo h' h.length h'.length shKepts r0 (addAns X s P).1 ∧ siz shKepts (addAns X s P).1 ≤ 16777216 := by
  have hsz := add_siz X s P
  obtain ⟨b, o, z, rfl, hX⟩ := hv0.kat
  have hv2' := hv2
  obtain ⟨pa, pb, pc, rfl⟩ := hv2.panel3
  have hm := hX.1.1
  rw [maxLen_eq] at hm
  refine ACall_intro g61 rfl ?_
  unfold fn61
  simp (disch := omega)
  refine callW_of (c139 h hp b o z X hX fun k hk => KAt.short hs0 hk) ?_
  rintro _ h1 ⟨rfl, G1⟩
  have l1 := G1.le
  cases e1 : keptOk X
  · have e : addAns X s P = ([], 1) := by simp [addAns, e1]
    rw [e] at hsz ⊢
    simp (disch := omega) [resOf, resAll, resOne, aField]
    exact ⟨G1, Vo.no_kepts, hsz⟩
  simp (disch := omega)
  refine callW_of (c140 _ P h1 (hv2'.grow G1)) ?_
  rintro _ h1 ⟨rfl, rfl⟩
  cases e2 : okP P
  · have e : addAns X s P = ([], 1) := by simp [addAns, e1, e2]
    rw [e] at hsz ⊢
    simp (disch := omega) [resOf, resAll, resOne, aField]
    exact ⟨G1, Vo.no_kepts, hsz⟩
  have ok := keptOk_iff.1 e1
  have okc := canonP_ok (okP_iff.1 e2)
  simp (disch := omega)
  refine callW_of (c147 h1 (by omega) _ P (hv2'.grow G1) (okP_iff.1 e2)) ?_
  rintro v3 h2 ⟨G2, o2⟩
  have l2 := G2.le
  obtain ⟨Y, hY⟩ : ∃ Y, Y = canonP P := ⟨_, rfl⟩
  have ans : addAns X s P = if nameOk s then (if nameN X s < X.length ∨ likeN X Y < X.length then ([], 4) else if 40 ≤ X.length then ([], 5) else (insK (s, Y) X, 0)) else ([], 7) := by
    simp [addAns, e1, e2, hY]
  rw [← hY] at o2 okc
  rw [ans] at hsz ⊢
  obtain ⟨W2, H2, br2⟩ := Y
  have o2v := o2.vr
  obtain ⟨s3, rfl, u1, u2, r3⟩ := o2.panel
  simp (disch := omega)
  refine callW_of (c90 h2 s hs1) ?_
  rintro _ h2 ⟨rfl, rfl⟩
  have G12 := G1.trans G2
  cases e3 : nameOk s
  · rw [e3] at hsz
    simp (disch := omega) [resOf, resAll, resOne, aField]
    exact ⟨G12, Vo.no_kepts, by simpa using hsz⟩
  rw [e3] at hsz
  simp only [if_true] at hsz ⊢
  simp (disch := omega)
  refine callW_of (c159 h2 b o z X (hX.grow G12) s) ?_
  rintro _ h3 ⟨rfl, G3⟩
  have l3 := G3.le
  have G13 := G12.trans G3
  try refine ⟨fun e => (by cases e), ?_⟩
  by_cases e4 : nameN X s < X.length
  · have n0 : (0 : Int) ≤ ((nameN X s : Nat) : Int) := by omega
    rw [if_pos (.inl e4)] at hsz ⊢
    simp (disch := omega) [ix_lt e4, n0, resOf, resAll, resOne, aField]
    exact ⟨G13, Vo.no_kepts, hsz⟩
  have n1 : ¬ (0 : Int) ≤ -1 := by omega
  simp (disch := omega) [ix_no e4, n1]
  refine callW_of (c161 h3 b o z X (hX.grow G13) _ (W2, H2, br2) (o2v.grow G3)) ?_
  rintro _ h4 ⟨rfl, G4⟩
  have l4 := G4.le
  have G14 := G13.trans G4
  try refine ⟨fun e => (by cases e), ?_⟩
  by_cases e5 : likeN X (W2, H2, br2) < X.length
  · have n0 : (0 : Int) ≤ ((likeN X (W2, H2, br2) : Nat) : Int) := by omega
    rw [if_pos (.inr e5)] at hsz ⊢
    simp (disch := omega) [ix_lt e5, n0, resOf, resAll, resOne, aField]
    exact ⟨G14, Vo.no_kepts, hsz⟩
  rw [if_neg (by rintro (q | q); exact e4 q; exact e5 q)] at hsz ⊢
  have h40 := ok.len
  by_cases e6 : 40 ≤ X.length
  · have n2 : (X.length : Int) = 40 := by omega
    rw [if_pos e6] at hsz ⊢
    simp (disch := omega) [ix_no e5, n1, n2, resOf, resAll, resOne, aField]
    exact ⟨G14, Vo.no_kepts, hsz⟩
  rw [if_neg e6] at hsz ⊢
  have n2 : ¬ (X.length : Int) = 40 := by omega
  simp (disch := omega) [ix_no e5, n1, n2]
  refine callW_of (c149 h4 (by omega) b o z X (hX.grow G14) (by omega) fun i hi => by have := ok.small _ (List.getElem_mem hi); omega) ?_
  rintro v5 h5 ⟨G5, L, hL, kb⟩
  have l5 := G5.le
  try refine ⟨fun e => (by cases e), ?_⟩
  have hLl : L.length = X.length := by rw [← hL]; simp
  obtain ⟨bi, zi, rfl, qz, qm, qx, qb⟩ := r3.ints
  obtain ⟨r, hr⟩ : ∃ r : Row, r = ((s, W2, H2, br2), bi, zi) := ⟨_, rfl⟩
  have er2 : EntO h2 r := by rw [hr]; exact ⟨qz, qm, qx, qb.imp id fun q => q.1, u1, u2, by rw [maxLen_eq]; show s.length ≤ _; omega⟩
  have er : EntO h5 r := er2.frame fun c hc => ((G3.trans G4).trans G5).look (er2.lt c hc)
  have rr : ∀ c ∈ rowB r, h1.length ≤ c ∧ c < h2.length := by
    intro c hc
    rw [hr] at hc
    unfold rowB at hc
    split at hc
    · simp at hc
    · rename_i h0
      simp at hc
      rw [hc]; exact (qb.resolve_left h0).2
  have hc := c200 h h5 hp (G14.trans G5) v5 L (kb.low G14) (by omega) (by rw [hL]; exact ok.sorted) r (by
      rw [hL, hr]
      intro y hy e
      exact e4 (nameN_lt.2 ⟨y, hy, e⟩)) er (fun c hc => by have := rr c hc; omega) (fun q hq c hc hc' => by
      have := kb.rg q hq c hc
      have := rr c hc'
      omega) (fun m => by
      by_cases h0 : rbr r = []
      · exact .inr h0
      · left
        have := rr r.2.1 (by rw [rowB, if_neg h0]; simp)
        exact kb_apart kb (by omega) (by omega) m)
  have ea : (Value.agg #[S r.1.1, I r.1.2.1, I r.1.2.2.1, rowS r]) = .agg #[S s, I W2, I H2, sl bi 0 br2.length zi] := by rw [hr]; rfl
  rw [ea] at hc
  try simp (disch := omega)
  refine callW_of hc ?_
  rintro w h6 ⟨G6, _, L', kb', hL', _, hl'⟩
  have vo := kb'.vo (by rw [maxLen_eq]; omega)
  rw [hL', hL, hr] at vo
  obtain ⟨b6, e7⟩ := kb'.len
  subst e7
  simp (disch := omega) [resOf, resAll, resOne, aField]
  exact ⟨G6, vo, hsz⟩

theorem c329 (h : Heap) (hp : 0 < h.length) (v0 : Value) (X : Lib) (hv0 : Vr h shKepts v0 X) (hs0 : siz shKepts X ≤ 1048576) (s : List UInt8) (hs1 : s.length ≤ 1048576) (v2 : Value) (P : Pan) (hv2 : Vr h shPanel v2 P) (hs2 : siz shPanel P ≤ 1048576) :
    ACall Gam 329 [v0, S s, v2] h fun r h' => Grows h h' ∧ ∃ r0, r = .tuple #[r0, I (addAns X s P).2] ∧ Vo h' h.length h'.length shKepts r0 (addAns X s P).1 ∧ siz shKepts (addAns X s P).1 ≤ 16777216 := by
  have hsz := add_siz X s P
  obtain ⟨b, o, z, rfl, hX, hz⟩ := hv0.kat4
  obtain ⟨W, H, br⟩ := P
  obtain ⟨sp, rfl, w1, w2, r⟩ := hv2.panel
  have hm := hX.1.1
  rw [maxLen_eq] at hm
  refine ACall_intro g329 rfl ?_
  unfold fn329
  simp (disch := omega)
  obtain ⟨h0, e0⟩ : ∃ h0, h0 = h ++ [⟨[I W, I H, sp], true⟩] := ⟨_, rfl⟩
  rw [← e0]
  have G0 : Grows h h0 := ⟨_, e0⟩
  have kb0 : h0[h.length]? = some ⟨[I W, I H, sp], true⟩ := by rw [e0]; simp
  have pp : PtP h0 (pt h.length 0) (W, H, br) := PtP.at kb0 (r.grow G0) w1 w2
  have l0 := G0.le
  refine callW_of (c541 h0 (by omega) b o z X (hX.grow G0) fun k hk => KAt.short hs0 hk) ?_
  rintro _ h1 ⟨rfl, G1'⟩
  have G1 := G0.trans G1'
  have l1 := G1.le
  try refine ⟨fun e => (by cases e), ?_⟩
  cases e1 : keptOk X
  · have e : addAns X s (W, H, br) = ([], 1) := by simp [addAns, e1]
    rw [e] at hsz ⊢
    simp (disch := omega) [resOf, resAll, resOne, aField]
    exact ⟨G1, Vo.no_kepts, hsz⟩
  simp (disch := omega)
  refine callW_of (c452 _ (W, H, br) h1 (pp.grow G1')) ?_
  rintro _ h1 ⟨rfl, rfl⟩
  try refine ⟨fun e => (by cases e), ?_⟩
  cases e2 : okP (W, H, br)
  · have e : addAns X s (W, H, br) = ([], 1) := by simp [addAns, e1, e2]
    rw [e] at hsz ⊢
    simp (disch := omega) [resOf, resAll, resOne, aField]
    exact ⟨G1, Vo.no_kepts, hsz⟩
  have ok := keptOk_iff.1 e1
  have okc := canonP_ok (okP_iff.1 e2)
  obtain ⟨Y, hY⟩ : ∃ Y, Y = canonP (W, H, br) := ⟨_, rfl⟩
  have ans : addAns X s (W, H, br) = if nameOk s then (if nameN X s < X.length ∨ likeN X Y < X.length then ([], 4) else if 40 ≤ X.length then ([], 5) else (insK (s, Y) X, 0)) else ([], 7) := by
    simp [addAns, e1, e2, hY]
  rw [← hY] at okc
  rw [ans] at hsz ⊢
  simp (disch := omega)
  refine callW_of (c383 h1 s hs1) ?_
  rintro _ h1 ⟨rfl, rfl⟩
  try refine ⟨fun e => (by cases e), ?_⟩
  cases e3 : nameOk s
  · rw [e3] at hsz
    simp (disch := omega) [resOf, resAll, resOne, aField]
    exact ⟨G1, Vo.no_kepts, by simpa using hsz⟩
  rw [e3] at hsz
  simp only [if_true] at hsz ⊢
  simp (disch := omega)
  refine callW_of (c476 h1 (by omega) _ (W, H, br) (pp.grow G1') (okP_iff.1 e2)) ?_
  rintro v3 h2 ⟨G2, o2⟩
  try refine ⟨fun e => (by cases e), ?_⟩
  rw [← hY] at o2
  obtain ⟨W2, H2, br2⟩ := Y
  obtain ⟨s3, rfl, u1, u2, r3⟩ := o2.panel
  have st2 := store_box (h := h2) (cs := [I 0, I 0, sl 0 0 0 0]) (xs := [I W2, I H2, s3]) rfl
  simp (disch := omega) [st2]
  obtain ⟨h3, e3'⟩ : ∃ h3, h3 = h2 ++ [⟨[I W2, I H2, s3], true⟩] := ⟨_, rfl⟩
  rw [← e3']
  have g23 : Grows h2 h3 := ⟨_, e3'⟩
  have kb3 : h3[h2.length]? = some ⟨[I W2, I H2, s3], true⟩ := by rw [e3']; simp
  have G3 := G1.trans (G2.trans g23)
  have l3 := G3.le
  have pp3 : PtP h3 (pt h2.length 0) (W2, H2, br2) := PtP.at kb3 (r3.vr.grow g23) u1 u2
  refine callW_of (c538 h3 b o z X (hX.grow G3) s) ?_
  rintro _ h3 ⟨rfl, rfl⟩
  try refine ⟨fun e => (by cases e), ?_⟩
  by_cases e4 : nameN X s < X.length
  · have n0 : (0 : Int) ≤ ((nameN X s : Nat) : Int) := by omega
    rw [if_pos (.inl e4)] at hsz ⊢
    simp (disch := omega) [ix_lt e4, n0, resOf, resAll, resOne, aField]
    exact ⟨G3, Vo.no_kepts, hsz⟩
  have n1 : ¬ (0 : Int) ≤ -1 := by omega
  simp (disch := omega) [ix_no e4, n1]
  refine callW_of (c539 h3 b o z X (hX.grow G3) _ (W2, H2, br2) pp3) ?_
  rintro _ h3 ⟨rfl, rfl⟩
  try refine ⟨fun e => (by cases e), ?_⟩
  by_cases e5 : likeN X (W2, H2, br2) < X.length
  · have n0 : (0 : Int) ≤ ((likeN X (W2, H2, br2) : Nat) : Int) := by omega
    rw [if_pos (.inr e5)] at hsz ⊢
    simp (disch := omega) [ix_lt e5, n0, resOf, resAll, resOne, aField]
    exact ⟨G3, Vo.no_kepts, hsz⟩
  rw [if_neg (by rintro (q | q); exact e4 q; exact e5 q)] at hsz ⊢
  have h40 := ok.len
  by_cases e6 : 40 ≤ X.length
  · have n2 : (40 : Int) ≤ (X.length : Int) := by omega
    rw [if_pos e6] at hsz ⊢
    simp (disch := omega) [ix_no e5, n1, n2, e6, resOf, resAll, resOne, aField]
    exact ⟨G3, Vo.no_kepts, hsz⟩
  rw [if_neg e6] at hsz ⊢
  have n2 : ¬ (40 : Int) ≤ (X.length : Int) := by omega
  have cl3 : cellsAt h3 h2.length 0 3 = some [I W2, I H2, s3] := cellsAt_all kb3 rfl
  simp (disch := omega) [ix_no e5, n1, n2, e6, cl3]
  refine callW_of (c544 h3 (by omega) b o z X (hX.grow G3) hz (by omega) ok.sorted s W2 H2 br2 s3 (r3.vr.grow g23) u1 u2 (by omega) (fun y hy e => e4 (nameN_lt.2 ⟨y, hy, e⟩))) ?_
  rintro w4 h4 ⟨G4, b4, rfl, hX4⟩
  try refine ⟨fun e => (by cases e), ?_⟩
  have l4 := G4.le
  have sm : ∀ y ∈ insK (s, W2, H2, br2) X, y.1.length ≤ 12 ∧ y.2.2.2.length ≤ 128 := by
    intro y hy
    rcases mem_insK.1 hy with e | e
    · rw [e]; exact ⟨nameOk_len e3, okc.siz⟩
    · exact ok.small y e
  have il : (insK ((s, W2, H2, br2) : Kpt) X).length = X.length + 1 := insK_len
  have hc := c542 h4 (by omega) b4 0 4 (insK (s, W2, H2, br2) X) hX4 (by omega) fun i hi => by have := sm _ (List.getElem_mem hi); omega
  rw [il] at hc
  refine callW_of hc ?_
  rintro v5 h5 ⟨G5, L, hL, kb⟩
  try refine ⟨fun e => (by cases e), ?_⟩
  have hLl : L.length = X.length + 1 := by rw [← il, ← hL]; simp
  have vo := kb.vo (by rw [maxLen_eq]; omega)
  rw [hL] at vo
  obtain ⟨b6, e7⟩ := kb.len
  subst e7
  simp (disch := omega) [resOf, resAll, resOne, aField]
  exact ⟨G3.trans (G4.trans G5), vo.wide (by omega) (Nat.le_refl _), hsz⟩
end Am
/-! AmY21 -/
set_option linter.unusedVariables false
set_option linter.unusedSimpArgs false
set_option maxHeartbeats 4000000
set_option maxRecDepth 4000
namespace Am
open Go

theorem mrg_mem {A : Lib} : ∀ {B out x : Lib}, mrg A out B = some x → (∀ y ∈ x, y ∈ out ∨ y ∈ B) ∧ x.length ≤ out.length + B.length
  | [], out, x, h => by simp only [mrg, Option.some.injEq] at h; subst h; exact ⟨fun y hy => .inl hy, by simp⟩
  | b :: B, out, x, h => by
    simp only [mrg] at h
    split at h
    · split at h
      · obtain ⟨h1, h2⟩ := mrg_mem h
        exact ⟨fun y hy => (h1 y hy).imp id fun q => by simp [q], by simp only [List.length_cons]; omega⟩
      · obtain ⟨h1, h2⟩ := mrg_mem h
        rw [insK_len] at h2
        refine ⟨fun y hy => ?_, by simp only [List.length_cons]; omega⟩
        rcases h1 y hy with q | q
        · rcases mem_insK.1 q with e | e
          · right; simp [e]
          · exact .inl e
        · right; simp [q]
    · cases h
theorem mergeK_siz (A B : Lib) : siz shKepts (mergeAnsK A B).1 ≤ 16777216 := by
  have z0 : siz shKepts ([] : Lib) ≤ 16777216 := by rw [siz_kepts]; simp [sizL]
  unfold mergeAnsK
  split
  · rename_i h
    simp only [Bool.and_eq_true] at h
    have a := keptOk_iff.1 h.1
    have b := keptOk_iff.1 h.2
    cases q : mrg A A B with
    | none => exact z0
    | some x =>
      obtain ⟨h1, h2⟩ := mrg_mem q
      simp only [mergeRes]
      split
      · exact z0
      · rename_i h40
        have := small_siz (X := x) (n := 40) (by omega) fun y hy => (h1 y hy).elim (a.small y) (b.small y)
        simp only
        omega
  · exact z0
theorem kb_ints_apart {h0 h : Heap} {v : Value} {L : List Row} (hp : 0 < h0.length) (kb : KB h0 h v L) {r : Row} (er : EntO h r) (hr0 : ∀ c ∈ rowB r, h0.length ≤ c) (m : Nat) : v ≠ sl r.2.1 0 m 4 ∨ rbr r = [] := by
  by_cases h5 : rbr r = []
  · exact .inr h5
  · left
    have hb := er.b.resolve_left h5
    have h0' := hr0 r.2.1 (by rw [rowB, if_neg h5]; simp)
    intro e
    rcases kb.b with ⟨_, q⟩ | ⟨b, n, q, q2, q3, q4⟩
    · rw [q] at e
      simp only [sl, Value.slice.injEq, Option.some.injEq, Addr.mk.injEq] at e
      omega
    · rw [q] at e
      simp only [sl, Value.slice.injEq, Option.some.injEq, Addr.mk.injEq] at e
      rw [e.1.1, hb] at q4
      simp only [Option.some.injEq, Blk.mk.injEq, and_true] at q4
      cases L with
      | nil =>
        simp [rowsC] at q4
        exact h5 (by simpa [ints] using q4)
      | cons x L =>
        rw [rowsC_cons] at q4
        cases hx : rbr r with
        | nil => exact h5 hx
        | cons a l => rw [hx] at q4; simp [ints, rowC] at q4
/-- Short names, no more breaks than panels have. -/
def SmallK (X : Lib) : Prop := ∀ y ∈ X, y.1.length ≤ 12 ∧ y.2.2.2.length ≤ 128
theorem SmallK.ins {X : Lib} {k : Kpt} (a : SmallK X) (b : k.1.length ≤ 12 ∧ k.2.2.2.length ≤ 128) : SmallK (insK k X) := by
  intro y hy
  rcases mem_insK.1 hy with e | e
  · rw [e]; exact b
  · exact a y e
theorem c390 (h : Heap) (hp : 0 < h.length) (v0 : Value) (A : Lib) (hv0 : Vr h shKepts v0 A) (hs0 : siz shKepts A ≤ 1048576) (v1 : Value) (B : Lib) (hv1 : Vr h shKepts v1 B) (hs1 : siz shKepts B ≤ 1048576) :
    ACall Gam 390 [v0, v1] h fun r h' => Grows h h' ∧ ∃ r0, r = .tuple #[r0, I (mergeAnsK A B).2] ∧ Vo h' h.length h'.length shKepts r0 (mergeAnsK A B).1 ∧ siz shKepts (mergeAnsK A B).1 ≤ 16777216 := by
  have hsz := mergeK_siz A B
  obtain ⟨b, o, z, rfl, hA, hz⟩ := hv0.kat4
  obtain ⟨b', o', z', rfl, hB, hz'⟩ := hv1.kat4
  have hmB := hB.1.1
  rw [maxLen_eq] at hmB
  refine ACall_intro g390 rfl ?_
  unfold fn390
  simp (disch := omega)
  refine callW_of (c541 h hp b o z A hA fun k hk => KAt.short hs0 hk) ?_
  rintro _ h1 ⟨rfl, G1⟩
  have l1 := G1.le
  try refine ⟨fun e => (by cases e), ?_⟩
  cases e1 : keptOk A
  · have e : mergeAnsK A B = ([], 1) := by simp [mergeAnsK, e1]
    rw [e] at hsz ⊢
    simp (disch := omega) [resOf, resAll, resOne, aField]
    exact ⟨G1, Vo.no_kepts, hsz⟩
  simp (disch := omega)
  refine callW_of (c541 h1 (by omega) b' o' z' B (hB.grow G1) fun k hk => KAt.short hs1 hk) ?_
  rintro _ h2 ⟨rfl, G2'⟩
  have G2 := G1.trans G2'
  have l2 := G2.le
  try refine ⟨fun e => (by cases e), ?_⟩
  cases e2 : keptOk B
  · have e : mergeAnsK A B = ([], 1) := by simp [mergeAnsK, e1, e2]
    rw [e] at hsz ⊢
    simp (disch := omega) [resOf, resAll, resOne, aField]
    exact ⟨G2, Vo.no_kepts, hsz⟩
  have okA := keptOk_iff.1 e1
  have okB := keptOk_iff.1 e2
  have lA := okA.len
  have lB := okB.len
  have ans : mergeAnsK A B = mergeRes (mrgS A B) := by simp [mergeAnsK, e1, e2, merge_spec okA okB]
  rw [ans] at hsz ⊢
  simp (disch := omega)
  refine awp_loop (fun (k : Nat) σ h' => Grows h h' ∧ k ≤ B.length ∧ σ 1 = sl b' o' B.length z' ∧ σ 7 = I k ∧ ∃ out bo oo zo, σ 6 = sl bo oo out.length zo ∧ KAt h' bo oo zo out ∧ (zo = 4 ∨ out = []) ∧ SortK out ∧ out.length ≤ 40 + k ∧ SmallK out ∧ mrgS out (B.drop k) = mrgS A B) (fun k => B.length - k) 0 ?_ ?_
  · exact ⟨G2, by omega, by simp, by simp, A, b, o, z, by simp, hA.grow G2, hz, okA.sorted, by omega, okA.small, by simp⟩
  · rintro k σ h' ⟨g, hk, q1, q7, out, bo, oo, zo, q6, hO, hzo, srt, lo, sm, hmr⟩
    have l' := g.le
    simp (disch := omega) [q1, q7]
    refine fork_dec (fun hlt => ?_) (fun hge => ?_)
    · have k1 : k < B.length := by omega
      obtain ⟨s, c, c1, vp, pp, rs, w1, w2⟩ := (hB.grow g).cells k1
      have hw0 : B[k].1.length ≤ 12 := (okB.small _ (List.getElem_mem k1)).1
      rw [List.drop_eq_getElem_cons k1, mrgS] at hmr
      simp (disch := omega) [q1, q6, q7, k1, c1]
      refine callW_of (c538 h' bo oo zo out hO B[k].1) ?_
      rintro _ h' ⟨rfl, rfl⟩
      try refine ⟨fun e => (by cases e), ?_⟩
      try simp (disch := omega) [q1, q6, q7, k1]
      refine callW_of (c539 h' bo oo zo out hO _ B[k].2 pp) ?_
      rintro _ h' ⟨rfl, rfl⟩
      try refine ⟨fun e => (by cases e), ?_⟩
      have hle := nameN_le out B[k].1
      by_cases e3 : ixI (nameN out B[k].1) out.length = ixI (likeN out B[k].2) out.length
      · rw [if_pos e3] at hmr
        by_cases e4 : nameN out B[k].1 < out.length
        · rw [if_pos e4] at hmr
          have n0 : ¬ ixI (nameN out B[k].1) out.length < 0 := by rw [ix_lt e4]; omega
          simp (disch := omega) [e3.symm, n0, q1, q6, q7, wrap64]
          exact ⟨k + 1, ⟨g, by omega, by omega, out, bo, oo, zo, by simp, hO, hzo, srt, by omega, sm, hmr⟩, by omega⟩
        · rw [if_neg e4] at hmr
          have n0 : ixI (nameN out B[k].1) out.length < 0 := by rw [ix_no e4]; omega
          simp (disch := omega) [e3.symm, n0, q1, q6, q7, k1, c]
          refine callW_of (c544 h' (by omega) bo oo zo out hO hzo (by omega) srt B[k].1 B[k].2.1 B[k].2.2.1 B[k].2.2.2 s rs w1 w2 (by omega) (fun y hy e => e4 (nameN_lt.2 ⟨y, hy, e⟩))) ?_
          rintro w h3 ⟨G3, b3, rfl, hO3⟩
          try refine ⟨fun e => (by cases e), ?_⟩
          simp (disch := omega) [q1, q7, wrap64]
          refine ⟨k + 1, ⟨g.trans G3, by omega, by omega, insK B[k] out, b3, 0, 4, ?_, hO3, .inl rfl, insK_sorted srt (fun y hy e => e4 (nameN_lt.2 ⟨y, hy, e⟩)), by rw [insK_len]; omega, sm.ins (okB.small _ (List.getElem_mem k1)), hmr⟩, by omega⟩
          rw [insK_len]; simp
      · rw [if_neg e3] at hmr
        rw [← hmr] at hsz ⊢
        have e3' : ¬ ixI (nameN out B[k].1) out.length = ixI (likeN out B[k].2) out.length := e3
        simp (disch := omega) [e3', resOf, resAll, resOne, aField, mergeRes]
        exact ⟨g, Vo.no_kepts, by simpa [mergeRes] using hsz⟩
    · have ek : k = B.length := by omega
      rw [ek, List.drop_length, mrgS] at hmr
      rw [← hmr] at hsz ⊢
      have em : mergeRes (some out) = if 40 < out.length then ([], 5) else (out, 0) := rfl
      rw [em] at hsz ⊢
      by_cases e5 : 40 < out.length
      · have e5' : (40 : Int) < out.length := by omega
        rw [if_pos e5] at hsz ⊢
        simp (disch := omega) [q6, e5, e5', resOf, resAll, resOne, aField]
        exact ⟨g, Vo.no_kepts, hsz⟩
      · have e5' : ¬ (40 : Int) < out.length := by omega
        rw [if_neg e5] at hsz ⊢
        simp (disch := omega) [q6, e5, e5']
        refine callW_of (c542 h' (by omega) bo oo zo out hO (by omega) fun i hi => by have := sm _ (List.getElem_mem hi); omega) ?_
        rintro v5 h5 ⟨G5, L, hL, kb⟩
        try refine ⟨fun e => (by cases e), ?_⟩
        have hLl : L.length = out.length := by rw [← hL]; simp
        have vo := kb.vo (by rw [maxLen_eq]; omega)
        rw [hL] at vo
        obtain ⟨b6, e7⟩ := kb.len
        subst e7
        simp (disch := omega) [resOf, resAll, resOne, aField]
        exact ⟨g.trans G5, vo.wide (by omega) (Nat.le_refl _), hsz⟩
end Am
/-! AmY22 -/
set_option linter.unusedVariables false
set_option linter.unusedSimpArgs false
set_option maxHeartbeats 4000000
set_option maxRecDepth 4000
namespace Am
open Go

theorem EntO.vr {h : Heap} {r : Row} (e : EntO h r) : Vr h shPanel (.agg #[I r.1.2.1, I r.1.2.2.1, rowS r]) r.1.2 := by
  obtain ⟨lo, hi, vo, _⟩ := e.vo
  exact Vr.of_panel e.w e.h vo.vr
/-- Rows that are of a list, or of the first of another. -/
def FromTwo (L L0 LB : List Row) (k : Nat) : Prop := ∀ q ∈ L, q ∈ L0 ∨ ∃ j, j < k ∧ ∃ hj : j < LB.length, q = LB[j]
/-- The rows that are put in are there. -/
def RowsThere (h : Heap) (bw : Nat) (LB : List Row) : Prop := (LB = [] ∨ h[bw]? = some ⟨rowsC LB, true⟩) ∧ ∀ r ∈ LB, EntO h r
theorem RowsThere.grow {h h' : Heap} {bw : Nat} {LB : List Row} (x : RowsThere h bw LB) (g : Grows h h') : RowsThere h' bw LB :=
  ⟨x.1.imp id fun q => g.at q, fun r hr => (x.2 r hr).frame fun c hc => g.look ((x.2 r hr).lt c hc)⟩
/-- A list's own block lies outside a range. -/
def Outside (v : Value) (lo hi : Nat) : Prop := ∀ c m, v = sl c 0 m 4 → c = 0 ∨ c < lo ∨ hi ≤ c
theorem c97 (h : Heap) (hp : 0 < h.length) (v0 : Value) (A : Lib) (hv0 : Vr h shKepts v0 A) (hs0 : siz shKepts A ≤ 1048576) (v1 : Value) (B : Lib) (hv1 : Vr h shKepts v1 B) (hs1 : siz shKepts B ≤ 1048576) :
    ACall Gam 97 [v0, v1] h fun r h' => Grows h h' ∧ ∃ r0, r = .tuple #[r0, I (mergeAnsK A B).2] ∧ Vo h' h.length h'.length shKepts r0 (mergeAnsK A B).1 ∧ siz shKepts (mergeAnsK A B).1 ≤ 16777216 := by
  have hsz := mergeK_siz A B
  obtain ⟨b, o, z, rfl, hA⟩ := hv0.kat
  obtain ⟨b', o', z', rfl, hB⟩ := hv1.kat
  have hmA := hA.1.1
  rw [maxLen_eq] at hmA
  refine ACall_intro g97 rfl ?_
  unfold fn97
  simp (disch := omega)
  refine callW_of (c139 h hp b o z A hA fun k hk => KAt.short hs0 hk) ?_
  rintro _ h1 ⟨rfl, G1⟩
  have l1 := G1.le
  try refine ⟨fun e => (by cases e), ?_⟩
  cases e1 : keptOk A
  · have e : mergeAnsK A B = ([], 1) := by simp [mergeAnsK, e1]
    rw [e] at hsz ⊢
    simp (disch := omega) [resOf, resAll, resOne, aField]
    exact ⟨G1, Vo.no_kepts, hsz⟩
  simp (disch := omega)
  refine callW_of (c139 h1 (by omega) b' o' z' B (hB.grow G1) fun k hk => KAt.short hs1 hk) ?_
  rintro _ h2 ⟨rfl, G2'⟩
  have G2 := G1.trans G2'
  have l2 := G2.le
  try refine ⟨fun e => (by cases e), ?_⟩
  cases e2 : keptOk B
  · have e : mergeAnsK A B = ([], 1) := by simp [mergeAnsK, e1, e2]
    rw [e] at hsz ⊢
    simp (disch := omega) [resOf, resAll, resOne, aField]
    exact ⟨G2, Vo.no_kepts, hsz⟩
  have okA := keptOk_iff.1 e1
  have okB := keptOk_iff.1 e2
  have lA := okA.len
  have lB := okB.len
  have ans : mergeAnsK A B = mergeRes (mrg A A B) := by simp [mergeAnsK, e1, e2]
  rw [ans] at hsz ⊢
  simp (disch := omega)
  refine callW_of (c149 h2 (by omega) b o z A (hA.grow G2) (by omega) fun i hi => by have := okA.small _ (List.getElem_mem hi); omega) ?_
  rintro v3 h3 ⟨G3', L0, hL0, kb0⟩
  have G3 := G2.trans G3'
  have l3 := G3.le
  try refine ⟨fun e => (by cases e), ?_⟩
  try simp (disch := omega)
  refine callW_of (c149 h3 (by omega) b' o' z' B (hB.grow G3) (by omega) fun i hi => by have := okB.small _ (List.getElem_mem hi); omega) ?_
  rintro w h4 ⟨G4', LB, hLB, kbB⟩
  have G4 := G3.trans G4'
  have l4' := G4'.le
  try refine ⟨fun e => (by cases e), ?_⟩
  have nA : L0.length = A.length := by rw [← hL0]; simp
  have nB : LB.length = B.length := by rw [← hLB]; simp
  obtain ⟨bw, rfl, koB⟩ := kbB.ko (by rw [maxLen_eq]; omega)
  have rgB : ∀ r ∈ LB, ∀ c ∈ rowB r, h3.length ≤ c ∧ c < h4.length := koB.rg
  have there0 : RowsThere h4 bw LB := ⟨koB.blk.imp id fun q => q.1, kbB.el⟩
  have kbO := (kb0.grow G4').low G2
  have out0 : Outside v3 h3.length h4.length := by
    intro c m e
    rcases kb0.b with ⟨_, q⟩ | ⟨b5, n5, q, _, _, q4⟩
    · rw [q] at e
      simp only [sl, Value.slice.injEq, Option.some.injEq, Addr.mk.injEq] at e
      omega
    · rw [q] at e
      simp only [sl, Value.slice.injEq, Option.some.injEq, Addr.mk.injEq] at e
      have := at_lt q4
      omega
  rw [nB]
  simp (disch := omega)
  refine awp_loop (fun (k : Nat) σ h' => Grows h h' ∧ h4.length ≤ h'.length ∧ k ≤ B.length ∧ σ 0 = sl b o A.length z ∧ σ 22 = sl bw 0 B.length 4 ∧ σ 23 = I B.length ∧ σ 24 = I k ∧ RowsThere h' bw LB ∧ Outside (σ 6) h3.length h4.length ∧ ∃ L, KB h h' (σ 6) L ∧ FromTwo L L0 LB k ∧ SortK (L.map (·.1)) ∧ L.length ≤ 40 + k ∧ mrg A (L.map (·.1)) (B.drop k) = mrg A A B) (fun k => B.length - k) 0 ?_ ?_
  · exact ⟨G4, Nat.le_refl _, by omega, by simp, by simp, by simp, by simp, there0, by simpa using out0, L0, by simpa using kbO, fun q hq => .inl hq, by rw [hL0]; exact okA.sorted, by omega, by rw [hL0]; simp⟩
  · rintro k σ h' ⟨g, lh, hk, q0, q22, q23, q24, th, ou, L, kb, ft, srt, ll, hmr⟩
    have l' := g.le
    simp (disch := omega) [q23, q24]
    refine fork_dec (fun hlt => ?_) (fun hge => ?_)
    · have k1 : k < B.length := by omega
      have k2 : k < LB.length := by omega
      have hne : LB ≠ [] := by intro e; rw [e] at k2; simp at k2
      have ek : LB[k].1 = B[k] := by
        have : (LB.map (·.1))[k]'(by rw [List.length_map]; exact k2) = B[k] := by simp [hLB]
        simpa using this
      obtain ⟨r, hr⟩ : ∃ r, r = LB[k] := ⟨_, rfl⟩
      have hrm : r ∈ LB := by rw [hr]; exact List.getElem_mem k2
      have er := th.2 r hrm
      have cl : cellsAt h' bw (k * 4) 4 = some [S r.1.1, I r.1.2.1, I r.1.2.2.1, rowS r] := by
        have hb := th.1.resolve_left hne
        rw [cellsAt_of hb (by simp only; rw [rowsC_len]; omega), rowsC_get k2, ← hr]; rfl
      rw [← hr] at ek
      have hw0 : B[k].1.length ≤ 12 := (okB.small _ (List.getElem_mem k1)).1
      rw [List.drop_eq_getElem_cons k1, mrg, ← ek] at hmr
      simp (disch := omega) [q0, q22, q24, k1, cl]
      refine callW_of (c159 h' b o z A (hA.grow g) r.1.1) ?_
      rintro _ h5 ⟨rfl, G5⟩
      try refine ⟨fun e => (by cases e), ?_⟩
      try simp (disch := omega) [q0]
      refine callW_of (c161 h5 b o z A (hA.grow (g.trans G5)) _ r.1.2 (er.vr.grow G5)) ?_
      rintro _ h6 ⟨rfl, G6'⟩
      have G6 := G5.trans G6'
      have l6 := G6.le
      have g6 := g.trans G6
      try refine ⟨fun e => (by cases e), ?_⟩
      have hle := nameN_le A r.1.1
      by_cases e3 : ixI (nameN A r.1.1) A.length = ixI (likeN A r.1.2) A.length
      · rw [if_pos e3] at hmr
        by_cases e4 : nameN A r.1.1 < A.length
        · rw [if_pos e4] at hmr
          have n0 : ¬ ixI (nameN A r.1.1) A.length < 0 := by rw [ix_lt e4]; omega
          simp (disch := omega) [e3.symm, n0, q0, q22, q23, q24, wrap64]
          exact ⟨k + 1, ⟨g6, by omega, by omega, by omega, th.grow G6, ou, L, kb.grow G6, fun q hq => (ft q hq).imp id fun ⟨j, a, b, c⟩ => ⟨j, by omega, b, c⟩, srt, by omega, hmr⟩, by omega⟩
        · rw [if_neg e4] at hmr
          have n0 : ixI (nameN A r.1.1) A.length < 0 := by rw [ix_no e4]; omega
          have er6 := er.frame fun c hc => G6.look (er.lt c hc)
          have hdis : ∀ q ∈ L, ∀ c ∈ rowB q, c ∉ rowB r := by
            intro q hq c hc hc'
            rcases ft q hq with e | ⟨j, a, hj, e⟩
            · have h1 := (kb0.el q e).lt c hc
              have h2 := rgB r hrm c hc'
              omega
            · rw [e] at hc
              rw [hr] at hc'
              exact nodup_flat kbB.nd hj k2 (by omega) c hc hc'
          have hnm : ∀ y ∈ L.map (·.1), y.1 ≠ r.1.1 := by
            intro y hy e
            obtain ⟨q, hq, rfl⟩ := List.mem_map.1 hy
            rcases ft q hq with e5 | ⟨j, a, hj, e5⟩
            · refine e4 (nameN_lt.2 ⟨q.1, ?_, e⟩)
              rw [← hL0]; exact List.mem_map.2 ⟨q, e5, rfl⟩
            · have hjB : j < B.length := by omega
              have e6 : LB[j].1 = B[j] := by
                have : (LB.map (·.1))[j]'(by rw [List.length_map]; exact hj) = B[j] := by simp [hLB]
                simpa using this
              have := okB.lt k j a k1
              rw [kN_of hjB, kN_of k1, ← ek, ← e6, ← e5] at this
              exact lexLt_ne this e
          have hc := c200 h h6 hp g6 (σ 6) L (kb.grow G6) (by omega) srt r hnm er6 (fun c hc => by have := rgB r hrm c hc; omega) hdis (fun m => kb_ints_apart hp (kb.grow G6) er6 (fun c hc => by have := rgB r hrm c hc; omega) m)
          simp (disch := omega) [e3.symm, n0, q0, q22, q23, q24, wrap64]
          refine callW_of hc ?_
          rintro w7 h7 ⟨G7, fr, L7, kb7, hL7, om, ln7⟩
          try refine ⟨fun e => (by cases e), ?_⟩
          obtain ⟨f1, ⟨b8, n8, e8, f2⟩, f3⟩ := fr
          have keep : ∀ c, h3.length ≤ c → c < h4.length → h7[c]? = h6[c]? := fun c h1 h2 => f3 c (by omega) fun m e => by
            have := ou c m e
            omega
          have th6 := th.grow G6
          have th7 : RowsThere h7 bw LB := by
            refine ⟨th6.1.imp id fun q => ?_, fun q hq => (th6.2 q hq).frame fun c hc => keep c (rgB q hq c hc).1 (rgB q hq c hc).2⟩
            rw [keep bw (koB.blk.resolve_left hne).2.1 (koB.blk.resolve_left hne).2.2]; exact q
          have ou7 : Outside w7 h3.length h4.length := by
            intro c m e
            rw [e8] at e
            simp only [sl, Value.slice.injEq, Option.some.injEq, Addr.mk.injEq] at e
            omega
          have ft7 : FromTwo L7 L0 LB (k + 1) := by
            intro q hq
            rcases om q hq with e | e
            · exact .inr ⟨k, by omega, k2, by rw [e, hr]⟩
            · exact (ft q e).imp id fun ⟨j, a, b, c⟩ => ⟨j, by omega, b, c⟩
          have srt7 : SortK (L7.map (·.1)) := by rw [hL7]; exact insK_sorted srt hnm
          rw [← hL7] at hmr
          try simp (disch := omega) [q0, q22, q23, q24, wrap64]
          exact ⟨k + 1, ⟨G7, by omega, by omega, by omega, th7, ou7, L7, kb7, ft7, srt7, by omega, hmr⟩, by omega⟩
      · rw [if_neg e3] at hmr
        rw [← hmr] at hsz ⊢
        have e3' : ¬ ixI (nameN A r.1.1) A.length = ixI (likeN A r.1.2) A.length := e3
        simp (disch := omega) [e3', resOf, resAll, resOne, aField, mergeRes]
        exact ⟨g6, Vo.no_kepts, by simpa [mergeRes] using hsz⟩
    · have ek : k = B.length := by omega
      rw [ek, List.drop_length, mrg] at hmr
      rw [← hmr] at hsz ⊢
      have em : mergeRes (some (L.map (·.1))) = if 40 < (L.map (·.1)).length then ([], 5) else (L.map (·.1), 0) := rfl
      rw [em, List.length_map] at hsz ⊢
      have vo := kb.vo (by rw [maxLen_eq]; omega)
      obtain ⟨b6, e7⟩ := kb.len
      rw [e7] at vo
      by_cases e5 : 40 < L.length
      · have e5' : (40 : Int) < L.length := by omega
        rw [if_pos e5] at hsz ⊢
        simp (disch := omega) [e7, e5, e5', resOf, resAll, resOne, aField]
        exact ⟨g, Vo.no_kepts, hsz⟩
      · have e5' : ¬ (40 : Int) < L.length := by omega
        rw [if_neg e5] at hsz ⊢
        simp (disch := omega) [e7, e5, e5', resOf, resAll, resOne, aField]
        exact ⟨g, vo, hsz⟩
end Am
/-! AmY23 -/
set_option linter.unusedVariables false
set_option linter.unusedSimpArgs false
set_option maxHeartbeats 4000000
set_option maxRecDepth 4000
namespace Am
open Go

theorem packP_len {X : Pan} (ok : OkP X) : 5 ≤ (packP X).length ∧ (packP X).length ≤ 40 := by
  have := ok.siz
  unfold packP packBody
  rw [ended_len, List.length_append, packB_len]
  simp only [List.length_cons, List.length_nil]
  omega
theorem packE_len {k : Kpt} (ok : OkP k.2) (hn : k.1.length ≤ 12) : (packE k).length ≤ 60 := by
  have := packP_len ok
  simp only [packE, List.length_cons, List.length_append]; omega
theorem packBodyK_len {X : Lib} (ok : KeptOk X) : ∀ k, k ≤ X.length → (packBodyK (X.take k)).length ≤ 60 * k
  | 0, _ => by simp [packBodyK]
  | k + 1, hk => by
    obtain ⟨h1, h2⟩ := ok.getOk (i := k) (by omega)
    have := packBodyK_len ok k (by omega)
    have := packE_len h1 h2
    rw [packBodyK_take (by omega), List.length_append]; omega
theorem byte_val {n : Nat} (h : n < 256) : ((byteI (n : Int)).toNat : Int) = n := byteI_toNat ⟨by omega, by omega⟩
theorem c569 (h : Heap) (hp : 0 < h.length) (b o z : Nat) (X : Lib) (hX : KAt h b o z X) (ok : KeptOk X) : ACall Gam 569 [sl b o X.length z] h fun r h' => r = S (packK X) ∧ Grows h h' := by
  have h40 := ok.len
  refine ACall_intro g569 rfl ?_
  unfold fn569
  have e0 : aBuildSlice 1 2 h [(0, Value.agg #[U 0, U 0]), (1, U 76), (1001, U (IntKind.u8.wrap (X.length : Int)))] = some (sl h.length 0 2 1, h ++ [⟨bytesV [76, byteI X.length], true⟩]) := by
    rw [wrap8 (by omega) (by omega)]
    simp [aBuildSlice, bytesV, byte_val (show X.length < 256 by omega)]
  simp (disch := omega) [e0]
  have hb0 : Buf h (h ++ [⟨bytesV [76, byteI X.length], true⟩]) (sl h.length 0 2 1) 1 (bytesV ([76, byteI X.length] ++ packBodyK (X.take 0))) := .inr ⟨h.length, 2, rfl, by simp [bytesV, packBodyK], Nat.le_refl _, by simp [packBodyK]⟩
  refine awp_loop (fun k σ h' => Grows h h' ∧ k ≤ X.length ∧ Buf h h' (σ 3) 1 (bytesV ([76, byteI X.length] ++ packBodyK (X.take k))) ∧ σ 0 = sl b o X.length z ∧ σ 4 = I k) (fun k => X.length - k) 0 ?_ ?_
  · exact ⟨⟨_, rfl⟩, by omega, by simpa using hb0, by simp, by simp⟩
  · rintro k σ h' ⟨g, hk, B, q0, q4⟩
    simp (disch := omega) [q0, q4]
    refine fork_dec (fun hlt => ?_) (fun hge => ?_)
    · have k1 : k < X.length := by omega
      obtain ⟨s, c, c1, vp, pp, _⟩ := (hX.grow g).cells k1
      obtain ⟨okp, hn⟩ := ok.getOk k1
      have hlen := packBodyK_len ok k hk
      have hpl := packP_len okp
      have hl := g.le
      have hlt2 : ([76, byteI X.length] ++ packBodyK (X.take k)).length ≤ 2 + 60 * k := by simp; omega
      have w8 : IntKind.u8.wrap (X[k].1.length : Int) = X[k].1.length := wrap8 (by omega) (by omega)
      simp (disch := omega) [q0, q4, k1, c1, w8]
      refine append_bytes hp (xs := [byteI (X[k].1.length : Int)]) (n := 1) (by simp only [List.length_cons, List.length_nil]; omega) g B (by simp) rfl (one_byte (by omega)) fun v2 h2 g2 b2 => ?_
      obtain ⟨s', c', c1', _, pp2, _⟩ := (hX.grow g2).cells k1
      simp (disch := omega) [q0, q4, k1, c1']
      have hne : X[k].1 ≠ [] := by
        have := (ok.name12 k1).2
        rw [kN_of k1] at this
        intro e; rw [e] at this; simp at this
      refine append_text hp (by simp only [List.length_append, List.length_cons, List.length_nil] at hlt2 ⊢; omega) g2 b2 hne fun v3 h3 g3 b3 => ?_
      obtain ⟨s3, c3, c13, _, pp3, _⟩ := (hX.grow g3).cells k1
      have l3 := g3.le
      try simp (disch := omega) [q0, q4, k1]
      refine callW_of (c571 _ X[k].2 h3 (by omega) pp3 okp) ?_
      rintro _ h4 ⟨rfl, g4⟩
      try refine ⟨fun e => (by cases e), ?_⟩
      have hne2 : packP X[k].2 ≠ [] := by intro e; rw [e] at hpl; simp at hpl
      try simp (disch := omega)
      refine append_text hp (by simp only [List.length_append, List.length_cons, List.length_nil] at hlt2 ⊢; omega) (g3.trans g4) (b3.grow g4) hne2 fun v5 h5 g5 b5 => ?_
      simp (disch := omega) [q0, q4, wrap64]
      refine ⟨k + 1, ⟨g5, by omega, ?_, by omega⟩, by omega⟩
      rw [packBodyK_take k1]
      simpa [packE] using b5
    · have : k = X.length := by omega
      subst this
      have hlen := packBodyK_len ok X.length (Nat.le_refl _)
      rw [List.take_length] at B hlen
      simp (disch := omega)
      refine callW_of (c568 _ (by simp; omega) h h' hp _ g B) ?_
      rintro _ h2 ⟨rfl, g2⟩
      simp [packK]
      exact g2
theorem c106 (h : Heap) (hp : 0 < h.length) (v : Value) (X : Lib) (hv : Vr h shKepts v X) (hs : siz shKepts X ≤ 1048576) : ACall Gam 106 [v] h fun r h' => Grows h h' ∧ r = .tuple #[S (packAnsK X).1, I (packAnsK X).2] := by
  obtain ⟨b, o, z, rfl, hX⟩ := hv.kat
  refine ACall_intro g106 rfl ?_
  unfold fn106
  simp (disch := omega)
  refine callW_of (c139 h hp b o z X hX fun k hk => KAt.short hs hk) ?_
  rintro _ h1 ⟨rfl, g1⟩
  have l1 := g1.le
  cases q : keptOk X
  · simp (disch := omega) [packAnsK, q, resOf, resAll, resOne, aField, g1]
  have ok := keptOk_iff.1 q
  have h40 := ok.len
  have w8 : IntKind.u8.wrap (X.length : Int) = X.length := wrap8 (by omega) (by omega)
  have ob := one_byte (h' := h1) (x := (X.length : Int)) ⟨by omega, by omega⟩
  have tb : aConv 21 (sl h1.length 0 1 1) (h1 ++ [⟨bytesV [byteI (X.length : Int)], true⟩]) = some (S [byteI (X.length : Int)], h1 ++ [⟨bytesV [byteI (X.length : Int)], true⟩]) := text_buf (h0 := h1) (.inr ⟨h1.length, 1, rfl, rfl, Nat.le_refl _, by simp⟩)
  simp (disch := omega) [w8, ob, tb]
  have pre : ∀ k, k ≤ X.length → ([76, byteI (X.length : Int)] ++ packBodyK (X.take k)).length ≤ 2 + 60 * k := by
    intro k hk
    have := packBodyK_len ok k hk
    simp; omega
  have gb : Grows h (h1 ++ [⟨bytesV [byteI (X.length : Int)], true⟩]) := g1.push _
  refine awp_loop (fun k σ h' => Grows h h' ∧ k ≤ X.length ∧ σ 4 = S ([76, byteI (X.length : Int)] ++ packBodyK (X.take k)) ∧ σ 16 = sl b o X.length z ∧ σ 17 = I X.length ∧ σ 18 = I k) (fun k => X.length - k) 0 ?_ ?_
  · exact ⟨gb, by omega, by simp [packBodyK], by simp, by simp, by simp⟩
  · rintro k σ h' ⟨g, hk, q4, q16, q17, q18⟩
    simp (disch := omega) [q17, q18]
    refine fork_dec (fun hlt => ?_) (fun hge => ?_)
    · have k1 : k < X.length := by omega
      obtain ⟨s, c, c1, vp, pp, _⟩ := (hX.grow g).cells k1
      obtain ⟨okp, hn⟩ := ok.getOk k1
      have hpl := packP_len okp
      have hl := g.le
      have hp4 := pre k hk
      have w8n : IntKind.u8.wrap (X[k].1.length : Int) = X[k].1.length := wrap8 (by omega) (by omega)
      have obn := one_byte (h' := h') (x := (X[k].1.length : Int)) ⟨by omega, by omega⟩
      have tbn : aConv 21 (sl h'.length 0 1 1) (h' ++ [⟨bytesV [byteI (X[k].1.length : Int)], true⟩]) = some (S [byteI (X[k].1.length : Int)], h' ++ [⟨bytesV [byteI (X[k].1.length : Int)], true⟩]) := text_buf (h0 := h') (.inr ⟨h'.length, 1, rfl, rfl, Nat.le_refl _, by simp⟩)
      have n1 : 1 + X[k].1.length ≤ 4611686018427387904 := by omega
      have n1' : X[k].1.length + 1 ≤ 4611686018427387904 := by omega
      have n1'' : X[k].1.length ≤ 4611686018427387903 := by omega
      obtain ⟨pr, hpr⟩ : ∃ pr, pr = [76, byteI (X.length : Int)] ++ packBodyK (X.take k) := ⟨_, rfl⟩
      rw [← hpr] at q4 hp4
      simp (disch := omega) [q4, q16, q18, k1, c, w8n, obn, tbn, n1, n1', n1'']
      refine callW_of (c180 _ X[k].2 _ (by simp) (vp.grow ⟨_, rfl⟩) okp) ?_
      rintro _ h3 ⟨rfl, g3⟩
      refine ⟨fun _ => g3, ?_⟩
      have n2 : X[k].1.length + 1 + (packP X[k].2).length ≤ 4611686018427387904 := by omega
      have n3 : pr.length + (packE X[k]).length ≤ 4611686018427387904 := by have := packE_len okp hn; omega
      have ee : byteI (X[k].1.length : Int) :: (X[k].1 ++ packP X[k].2) = packE X[k] := rfl
      simp (disch := omega) [n2, ee, n3, q17, wrap64]
      refine ⟨k + 1, ⟨g.trans (Grows.trans ⟨_, rfl⟩ g3), by omega, ?_, by omega⟩, by omega⟩
      rw [packBodyK_take k1, hpr]; simp
    · have : k = X.length := by omega
      subst this
      have hp4 := pre X.length (Nat.le_refl _)
      rw [List.take_length] at q4 hp4
      have hp5 : (76 :: byteI (X.length : Int) :: packBodyK X).length ≤ 2 + 60 * X.length := hp4
      simp (disch := omega) [q4]
      refine callW_of (c191 _ (by omega) h') ?_
      rintro _ h2 ⟨rfl, g2⟩
      simp (disch := omega) [packAnsK, q, packK, resOf, resAll, resOne, aField]
      exact g.trans g2
theorem c397 (h : Heap) (hp : 0 < h.length) (v : Value) (X : Lib) (hv : Vr h shKepts v X) (hs : siz shKepts X ≤ 1048576) : ACall Gam 397 [v] h fun r h' => Grows h h' ∧ r = .tuple #[S (packAnsK X).1, I (packAnsK X).2] := by
  obtain ⟨b, o, z, rfl, hX⟩ := hv.kat
  refine ACall_intro g397 rfl ?_
  unfold fn397
  simp (disch := omega)
  refine callW_of (c541 h hp b o z X hX fun k hk => KAt.short hs hk) ?_
  rintro _ h1 ⟨rfl, g1⟩
  have l1 := g1.le
  cases q : keptOk X
  · simp (disch := omega) [packAnsK, q, resOf, resAll, resOne, aField, g1]
  simp (disch := omega)
  refine callW_of (c569 h1 (by omega) b o z X (hX.grow g1) (keptOk_iff.1 q)) ?_
  rintro _ h2 ⟨rfl, g2⟩
  simp (disch := omega) [packAnsK, q, resOf, resAll, resOne, aField]
  exact g1.trans g2
end Am

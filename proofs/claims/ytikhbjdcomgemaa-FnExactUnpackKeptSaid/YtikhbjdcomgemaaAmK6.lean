/- Contracts: AmY3, AmY4. -/
import Derived.Test.YtikhbjdcomgemaaAmK5
/-! AmY3 -/
set_option linter.unusedVariables false
set_option linter.unusedSimpArgs false
set_option maxHeartbeats 4000000
set_option maxRecDepth 4000
namespace Am
open Go

theorem bit4' : ∀ {s : Nat}, s < 8 → IntKind.i64.wrap ((BitVec.ofInt IntKind.i64.bits (s : Int) &&& BitVec.ofInt IntKind.i64.bits 4).toNat : Int) = (if 4 ≤ s then 4 else 0) := by decide +kernel
theorem bit1' : ∀ {s : Nat}, s < 8 → IntKind.i64.wrap ((BitVec.ofInt IntKind.i64.bits (s : Int) &&& BitVec.ofInt IntKind.i64.bits 1).toNat : Int) = (if s % 2 = 1 then 1 else 0) := by decide +kernel
theorem bit2' : ∀ {s : Nat}, s < 8 → IntKind.i64.wrap ((BitVec.ofInt IntKind.i64.bits (s : Int) &&& BitVec.ofInt IntKind.i64.bits 2).toNat : Int) = (if s / 2 % 2 = 1 then 2 else 0) := by decide +kernel
theorem bitr' : ∀ {s : Nat}, s < 8 → IntKind.i64.wrap ((BitVec.ofInt IntKind.i64.bits ((s : Int).fdiv 2) &&& BitVec.ofInt IntKind.i64.bits 1).toNat : Int) = (if s / 2 % 2 = 1 then 1 else 0) := by decide +kernel
theorem bit4 {s : Nat} (h : s < 8) : bitsOp .i64 (fun x y => x &&& y) (s : Int) 4 = I (if 4 ≤ s then 4 else 0) := congrArg (Value.int .i64) (bit4' h)
theorem bit1 {s : Nat} (h : s < 8) : bitsOp .i64 (fun x y => x &&& y) (s : Int) 1 = I (if s % 2 = 1 then 1 else 0) := congrArg (Value.int .i64) (bit1' h)
theorem bit2 {s : Nat} (h : s < 8) : bitsOp .i64 (fun x y => x &&& y) (s : Int) 2 = I (if s / 2 % 2 = 1 then 2 else 0) := congrArg (Value.int .i64) (bit2' h)
theorem bitr {s : Nat} (h : s < 8) : bitsOp .i64 (fun x y => x &&& y) ((s : Int).fdiv (2 ^ min 1 IntKind.i64.bits)) 1 = I (if s / 2 % 2 = 1 then 1 else 0) := congrArg (Value.int .i64) (bitr' h)
theorem c479 (h : Heap) (W H x y s : Nat) (w8 : W < 9) (h8 : H < 9) (hx : 1 ≤ x ∧ x < 2 * W) (hy : 1 ≤ y ∧ y < 2 * H) (hs : s < 8) :
    ACall Gam 479 [I W, I H, .agg #[I x, I y], I s] h fun r h' => r = .agg #[I (mapX W H x y s), I (mapY W H x y s)] ∧ h' = h := by
  refine ACall_intro g479 rfl ?_
  unfold fn479
  rw [awp_seq, awp_reg]
  generalize hK : seqQ Gam _ _ 0 = K
  simp (disch := omega)
  subst hK
  simp only [seqQ_zero]
  rw [awp_seq, awp_reg]
  generalize hK : seqQ Gam _ _ 0 = K
  simp (disch := omega)
  subst hK
  simp only [seqQ_zero]
  rw [awp_seq]
  generalize hK : seqQ Gam _ (retQ _ _) = K
  have main : ∀ σ (w' h' x' y' : Nat), σ 0 = I w' → σ 1 = I h' → σ 3 = I s → σ 8 = .agg #[I 0, I 0] → σ 9 = .agg #[I x', I y'] → w' < 9 → h' < 9 → x' < 2 * w' → y' < 2 * h' → (if s % 2 = 1 then 2 * w' - x' else x') = mapX W H x y s → (if s / 2 % 2 = 1 then 2 * h' - y' else y') = mapY W H x y s → K 0 σ h := by
    intro σ w' h' x' y' p0 p1 p3 p8 p9 hw' hh' hx' hy' ex ey
    subst hK
    simp only [seqQ_zero]
    rw [awp_seq]
    generalize hK : seqQ Gam _ (retQ _ _) = K
    have main2 : ∀ σ (x' y' : Nat), σ 0 = I w' → σ 1 = I h' → σ 3 = I s → σ 8 = .agg #[I 0, I 0] → σ 9 = .agg #[I x', I y'] → y' < 2 * h' → x' = mapX W H x y s → (if s / 2 % 2 = 1 then 2 * h' - y' else y') = mapY W H x y s → K 0 σ h := by
      intro σ x' y' p0 p1 p3 p8 p9 hy' ex ey
      subst hK
      simp only [seqQ_zero]
      by_cases c : s / 2 % 2 = 1
      · simp only [c, if_true] at ey
        simp (disch := omega) [p0, p1, p3, p8, p9, bit2 hs, c, wrap64, resOf_box, aField]
        omega
      · simp only [c, if_false] at ey
        simp (disch := omega) [p0, p1, p3, p8, p9, bit2 hs, c, wrap64, resOf_box, aField]
        omega
    by_cases b : s % 2 = 1
    · simp only [b, if_true] at ex
      simp (disch := omega) [p0, p1, p3, p8, p9, bit1 hs, b, wrap64]
      exact main2 _ (2 * w' - x') y' (by simp [p0]) (by simp [p1]) (by simp [p3]) (by simp [p8]) (by simp [p9]; omega) hy' ex ey
    · simp only [b, if_false] at ex
      simp (disch := omega) [p0, p1, p3, p8, p9, bit1 hs, b, wrap64]
      exact main2 _ x' y' (by simp [p0]) (by simp [p1]) (by simp [p3]) (by simp [p8]) (by simp [p9]) hy' ex ey
  by_cases a : 4 ≤ s
  · have a' : (4 : Int) ≤ s := by omega
    simp (disch := omega) [bit4 hs, a, a']
    exact main _ H W y x (by simp) (by simp) (by simp) (by simp) (by simp) (by omega) (by omega) (by omega) (by omega) (by simp [mapX, a]) (by simp [mapY, a])
  · have a' : ¬ (4 : Int) ≤ s := by omega
    simp (disch := omega) [bit4 hs, a, a']
    exact main _ W H x y (by simp) (by simp) (by simp) (by simp) (by simp) (by omega) (by omega) (by omega) (by omega) (by simp [mapX, a]) (by simp [mapY, a])
theorem c38 (h : Heap) (W H x y s : Nat) (z : Value) (w8 : W < 9) (h8 : H < 9) (hx : 1 ≤ x ∧ x < 2 * W) (hy : 1 ≤ y ∧ y < 2 * H) (hs : s < 8) :
    ACall Gam 38 [.agg #[I W, I H, z], .agg #[I x, I y], I s] h fun r h' => r = .agg #[I (mapX W H x y s), I (mapY W H x y s)] ∧ h' = h := by
  refine ACall_intro g38 rfl ?_
  unfold fn38
  rw [awp_seq, awp_reg]
  generalize hK : seqQ Gam _ _ 0 = K
  simp (disch := omega)
  subst hK
  simp only [seqQ_zero]
  rw [awp_seq, awp_reg]
  generalize hK : seqQ Gam _ _ 0 = K
  simp (disch := omega)
  subst hK
  simp only [seqQ_zero]
  rw [awp_seq]
  generalize hK : seqQ Gam _ (retQ _ _) = K
  have main : ∀ σ (w' h' x' y' : Nat), σ 7 = I w' → σ 8 = I h' → σ 2 = I s → σ 6 = .agg #[I 0, I 0] → σ 4 = .agg #[I x', I y'] → w' < 9 → h' < 9 → x' < 2 * w' → y' < 2 * h' → (if s % 2 = 1 then 2 * w' - x' else x') = mapX W H x y s → (if s / 2 % 2 = 1 then 2 * h' - y' else y') = mapY W H x y s → K 0 σ h := by
    intro σ w' h' x' y' p0 p1 p3 p8 p9 hw' hh' hx' hy' ex ey
    subst hK
    simp only [seqQ_zero]
    rw [awp_seq]
    generalize hK : seqQ Gam _ (retQ _ _) = K
    have main2 : ∀ σ (x' y' : Nat), σ 7 = I w' → σ 8 = I h' → σ 2 = I s → σ 6 = .agg #[I 0, I 0] → σ 4 = .agg #[I x', I y'] → y' < 2 * h' → x' = mapX W H x y s → (if s / 2 % 2 = 1 then 2 * h' - y' else y') = mapY W H x y s → K 0 σ h := by
      intro σ x' y' p0 p1 p3 p8 p9 hy' ex ey
      subst hK
      simp only [seqQ_zero]
      by_cases c : s / 2 % 2 = 1
      · simp only [c, if_true] at ey
        simp (disch := omega) [p0, p1, p3, p8, p9, bitr hs, c, wrap64, resOf_box, aField]
        omega
      · simp only [c, if_false] at ey
        simp (disch := omega) [p0, p1, p3, p8, p9, bitr hs, c, wrap64, resOf_box, aField]
        omega
    by_cases b : s % 2 = 1
    · simp only [b, if_true] at ex
      simp (disch := omega) [p0, p1, p3, p8, p9, bit1 hs, b, wrap64]
      exact main2 _ (2 * w' - x') y' (by simp [p0]) (by simp [p1]) (by simp [p3]) (by simp [p8]) (by simp [p9]; omega) hy' ex ey
    · simp only [b, if_false] at ex
      simp (disch := omega) [p0, p1, p3, p8, p9, bit1 hs, b, wrap64]
      exact main2 _ x' y' (by simp [p0]) (by simp [p1]) (by simp [p3]) (by simp [p8]) (by simp [p9]) hy' ex ey
  by_cases a : 4 ≤ s
  · have a' : (4 : Int) ≤ s := by omega
    simp (disch := omega) [bit4 hs, a, a']
    exact main _ H W y x (by simp) (by simp) (by simp) (by simp) (by simp) (by omega) (by omega) (by omega) (by omega) (by simp [mapX, a]) (by simp [mapY, a])
  · have a' : ¬ (4 : Int) ≤ s := by omega
    simp (disch := omega) [bit4 hs, a, a']
    exact main _ W H x y (by simp) (by simp) (by simp) (by simp) (by simp) (by omega) (by omega) (by omega) (by omega) (by simp [mapX, a]) (by simp [mapY, a])
theorem c475 (h : Heap) (k : Int) (s : Nat) (hk : 0 ≤ k ∧ k ≤ 2) (hs : s < 8) : ACall Gam 475 [I k, I s] h fun r h' => r = I (kindM k s) ∧ h' = h := by
  refine ACall_intro g475 rfl ?_
  unfold fn475
  by_cases a : 4 ≤ s <;> by_cases b : k = 0
  all_goals
    simp (disch := omega) [bit4 hs, a, b, wrap64, kindM]
theorem c172 (h : Heap) (k : Int) (s : Nat) (hk : 0 ≤ k ∧ k ≤ 2) (hs : s < 8) : ACall Gam 172 [I k, I s] h fun r h' => r = I (kindM k s) ∧ h' = h := by
  refine ACall_intro g172 rfl ?_
  unfold fn172
  by_cases a : 4 ≤ s
  · have a' : (4 : Int) ≤ s := by omega
    by_cases b : k = 0 <;> simp (disch := omega) [a, a', b, wrap64, kindM]
  · have a' : ¬ (4 : Int) ≤ s := by omega
    by_cases b : k = 0 <;> simp (disch := omega) [a, a', b, wrap64, kindM]
/-- A break stored. -/
theorem store_map {h : Heap} {b k : Nat} {l : List Int} {v : Int} (hb : h[b]? = some ⟨ints l, true⟩) (hk : k < l.length) : storeAt h b k [I v] = some (h.set b ⟨ints (l.set k v), true⟩) := by
  rw [store_one hb (by simp [ints]; exact hk)]
  simp [ints, List.map_set]

/-- What is done to make a moved panel: its box, or its own value, and the block of its breaks. -/
theorem map_done {h : Heap} {lo bb zz W H s : Nat} {br : List Int} {n : Nat} (hb : ∀ x ∈ br, 0 ≤ x ∧ x ≤ 2) (w8 : mapW W H s < 9) (h8 : mapH W H s < 9) (hz : zz = 1 ∨ bb = 0 ∧ rowN (mapW W H s) (2 * mapH W H s) = 0) (hc : rowN (mapW W H s) (2 * mapH W H s) = 0 ∨ h[bb]? = some ⟨ints (mapSt W H s br n), true⟩ ∧ lo ≤ bb) :
    Vo h lo h.length shPanel (.agg #[I (mapW W H s), I (mapH W H s), sl bb 0 (rowN (mapW W H s) (2 * mapH W H s)) zz]) ((mapW W H s : Nat), (mapH W H s : Nat), mapSt W H s br n) := by
  have hl := mapSt_len (W := W) (H := H) (s := s) (br := br) n
  have h128 := rowN_le w8 (y := 2 * mapH W H s) (by omega)
  refine Vo.of_panel (by unfold I64; omega) (by unfold I64; omega) ?_
  have := Vo.of_ints (h := h) (b := bb) (lo := lo) (hi := h.length) (z := zz) (X := mapSt W H s br n) (by
    rcases hz with e | ⟨e, e'⟩
    · exact .inl e
    · exact .inr ⟨e, List.length_eq_zero_iff.1 (by rw [hl, e'])⟩) (by rw [hl, maxLen_eq]; omega) (by
    intro x hx
    have := mapSt_rng hb n x hx
    unfold I64; omega) (by
    rcases hc with e | e
    · exact .inl (List.length_eq_zero_iff.1 (by rw [hl, e]))
    · exact .inr ⟨e.1, e.2, at_lt e.1⟩)
  rw [hl] at this
  exact this

theorem c477 (h : Heap) (hp : 0 < h.length) (v : Value) (X : Pan) (s : Nat) (hv : PtP h v X) (ok : OkP X) (hs : s < 8) : ACall Gam 477 [v, I s] h fun r h' => Grows h h' ∧ Vo h' h.length h'.length shPanel r (mapP X s) := by
  have hrow := ok.row
  obtain ⟨W, H, br⟩ := X
  obtain ⟨okW, okH, okn, okb⟩ := ok
  simp only at okW okH okn okb hrow
  obtain ⟨Wn, rfl⟩ := Int.eq_ofNat_of_zero_le (show 0 ≤ W by omega)
  obtain ⟨Hn, rfl⟩ := Int.eq_ofNat_of_zero_le (show 0 ≤ H by omega)
  rw [Int.toNat_natCast, Int.toNat_natCast] at hrow
  have eP : mapP ((Wn : Int), (Hn : Int), br) s = (((mapW Wn Hn s : Nat) : Int), ((mapH Wn Hn s : Nat) : Int), mapSt Wn Hn s br br.length) := rfl
  rw [eP]
  have a1 : 1 ≤ mapW Wn Hn s ∧ mapW Wn Hn s < 9 := by unfold mapW; split <;> omega
  have a2 : 1 ≤ mapH Wn Hn s ∧ mapH Wn Hn s < 9 := by unfold mapH; split <;> omega
  obtain ⟨N, hN⟩ : ∃ N, N = rowN (mapW Wn Hn s) (2 * mapH Wn Hn s) := ⟨_, rfl⟩
  have hN128 : N ≤ 128 := by rw [hN]; exact rowN_le a1.2 (by omega)
  have hbl : br.length = N := by
    have e1 := rowN_end (W := Wn) (by omega) (H := Hn) (by omega) (by omega) (by omega)
    have e2 := rowN_end a1.2 a2.2 a1.1 a2.1
    rw [← hrow] at e1
    rw [← hN] at e2
    unfold mapW mapH at e2
    have : ((Wn : Int) * (Hn - 1) + Hn * (Wn - 1)) = Hn * (Wn - 1) + Wn * (Hn - 1) := Int.add_comm _ _
    split at e2 <;> omega
  have hv0 := hv
  obtain ⟨b, o, sv, rfl, y1, y2, y3, r0, v1, v2⟩ := hv
  obtain ⟨b0, o0, z0, rfl, hz0, hm0, hx0, hc0⟩ := r0.ints
  simp only at y1 y2 y3 hv0
  refine ACall_intro g477 rfl ?_
  unfold fn477
  rw [awp_seq, awp_reg]
  generalize hK0 : seqQ Gam _ _ 0 = K0
  simp (disch := omega)
  subst hK0
  simp only [seqQ_zero]
  rw [awp_seq, awp_reg]
  generalize hK : seqQ Gam _ _ 0 = K
  simp (disch := omega) [y1, y2]
  have hi : (inner (Wn : Int) (Hn : Int)).toNat = rowN Wn (2 * Hn) := inner_row (by omega) (by omega) (by omega) (by omega)
  refine callW_of (c450 h Wn Hn ⟨by omega, by omega⟩ ⟨by omega, by omega⟩ hp) ?_
  rintro r1 h1 ⟨g1, o1⟩
  refine ⟨fun _ => g1, ?_⟩
  unfold newP at o1
  rw [hi, ← hrow, hbl] at o1
  obtain ⟨s1, rfl, _, _, o1⟩ := o1.panel
  obtain ⟨bb, zz, rfl, hzz, _, _, hbb⟩ := o1.ints
  rw [List.length_replicate]
  have st1 := store_box (h := h1) (cs := [I 0, I 0, sl 0 0 0 0]) (xs := [I Wn, I Hn, sl bb 0 N zz]) rfl
  simp (disch := omega) [st1]
  obtain ⟨h2, eh2⟩ : ∃ h2, h2 = h1 ++ [⟨[I Wn, I Hn, sl bb 0 N zz], true⟩] := ⟨_, rfl⟩
  rw [← eh2]
  have g2 : Grows h h2 := g1.trans ⟨_, eh2⟩
  have kb2 : h2[h1.length]? = some ⟨[I Wn, I Hn, sl bb 0 N zz], true⟩ := by rw [eh2]; simp
  have nz : ∀ {b z : Nat}, (z = 1 ∨ b = 0 ∧ List.replicate N (0 : Int) = []) → (z = 1 ∨ b = 0 ∧ N = 0) := by
    intro b z q
    exact q.imp id fun q => ⟨q.1, by simpa using q.2⟩
  have nb2 : N = 0 ∨ h2[bb]? = some ⟨ints (List.replicate N 0), true⟩ ∧ h.length ≤ bb := by
    rcases hbb with q | q
    · exact .inl (by simpa using q)
    · exact .inr ⟨by rw [eh2, List.getElem?_append_left q.2.2]; exact q.1, q.2.1⟩
  have ne2 : 0 < N → bb ≠ h1.length := by
    intro hn
    rcases hbb with q | q
    · simp at q; omega
    · omega
  subst hK
  simp only [seqQ_zero]
  rw [awp_seq]
  generalize hK : seqQ Gam _ (retQ _ _) = K
  have main : ∀ σ h2 (bo bb zz : Nat), σ 0 = pt b o → σ 1 = I s → σ 4 = .agg #[I 0, I 0, sl 0 0 0 0] → σ 5 = pt bo 0 → Grows h h2 → h.length ≤ bo → h2[bo]? = some ⟨[I (mapW Wn Hn s), I (mapH Wn Hn s), sl bb 0 N zz], true⟩ → (N = 0 ∨ h2[bb]? = some ⟨ints (List.replicate N 0), true⟩ ∧ h.length ≤ bb) → (0 < N → bb ≠ bo) → (zz = 1 ∨ bb = 0 ∧ N = 0) → K 0 σ h2 := by
    intro σ h2 bo bb zz p0 p1 p4 p5 g2 hbo kbo kbb hne hzz
    subst hK
    simp only [seqQ_zero]
    rw [awp_seq]
    generalize hK : seqQ Gam _ (retQ _ _) = K
    simp (disch := omega)
    refine awp_loop (fun (k : Nat) σ h' => k ≤ N ∧ σ 0 = pt b o ∧ σ 1 = I s ∧ σ 4 = .agg #[I 0, I 0, sl 0 0 0 0] ∧ σ 5 = pt bo 0 ∧ σ 6 = I k ∧ (N = 0 ∧ h' = h2 ∨ N ≠ 0 ∧ Mod bb (bb + 1) h2 h' ∧ h'[bb]? = some ⟨ints (mapSt Wn Hn s br k), true⟩)) (fun k => N - k) 0 ?_ ?_
    · refine ⟨by omega, by simp [p0], by simp [p1], by simp [p4], by simp [p5], by simp, ?_⟩
      rcases kbb with q | q
      · exact .inl ⟨q, rfl⟩
      · by_cases e : N = 0
        · exact .inl ⟨e, rfl⟩
        · right
          exact ⟨e, Mod.refl _ _ _, by rw [q.1, hN]; rfl⟩
    · rintro k σ h' ⟨hk, q0, q1, q4, q5, q6, hb⟩
      have gB : Grows h h' := by
        rcases hb with q | ⟨hn, hmd, _⟩
        · rw [q.2]; exact g2
        · rcases kbb with q | q
          · exact absurd q hn
          · exact hmd.grows g2 q.2
      have c3 := gB.cell y3
      have c1 := gB.cell y1
      have c2 := gB.cell y2
      simp (disch := omega) [q0, q6, c3]
      refine fork_dec (fun hlt => ?_) (fun hge => ?_)
      · have k1 : k < br.length := by omega
        obtain ⟨hn, hmd, hb⟩ := hb.resolve_left (by omega)
        have hbb := (kbb.resolve_left hn).2
        obtain ⟨x, y, hpt⟩ := IsPt.ex (W := Wn) (H := Hn) (k := k) (by omega) (by omega) (by omega)
        simp (disch := omega) [q0, q1, q6, c1, c2]
        refine callW_of (c454 h' _ _ Wn Hn k (hv0.grow gB) rfl rfl (by omega) (by omega) (by omega) (by omega) (by omega)) ?_
        rintro _ h' ⟨⟨x', y', hpt', rfl⟩, rfl⟩
        obtain ⟨rfl, rfl⟩ := hpt.uniq hpt'
        refine ⟨fun _ => Grows.refl _, ?_⟩
        obtain ⟨d1, d2, d3⟩ := hpt.bd
        have d4 := hpt.y1
        have d5 := hpt.y2
        refine callW_of (c479 h' Wn Hn x y s (by omega) (by omega) ⟨by omega, by omega⟩ ⟨by omega, by omega⟩ hs) ?_
        rintro _ h' ⟨rfl, rfl⟩
        obtain ⟨X', hX'⟩ : ∃ X', X' = mapX Wn Hn x y s := ⟨_, rfl⟩
        obtain ⟨Y', hY'⟩ : ∃ Y', Y' = mapY Wn Hn x y s := ⟨_, rfl⟩
        obtain ⟨m1, m2, m3⟩ := map_pt (s := s) ⟨d1, d2⟩ ⟨d4, d5⟩ d3
        rw [← hX'] at m1 m3
        rw [← hY'] at m2 m3
        have hix : idxM Wn Hn s k = numP (mapW Wn Hn s) X' Y' := by
          unfold idxM; rw [thePt_eq hpt, hX', hY']
        have hnum := numP_lt m1 m2 m3
        rw [← hN, ← hix] at hnum
        have hml := mapSt_len (W := Wn) (H := Hn) (s := s) (br := br) k
        rw [← hN] at hml
        have kbo' : h'[bo]? = some ⟨[I (mapW Wn Hn s), I (mapH Wn Hn s), sl bb 0 N zz], true⟩ := by
          rw [hmd.2 bo (at_lt kbo) (by have := hne (by omega); omega)]; exact kbo
        have hz1 : zz = 1 := by
          rcases hzz with q | q
          · exact q
          · omega
        have hvo : Vr h' shInts (sl bb 0 N zz) (mapSt Wn Hn s br k) := by
          have := Vr.of_ints (h := h') (b := bb) (o := 0) (z := zz) (X := mapSt Wn Hn s br k) (.inl hz1) (by rw [hml, maxLen_eq]; omega) (by
            intro a ha
            have := mapSt_rng okb k a ha
            unfold I64; omega) (.inr (by rw [cellsAt_of hb (by simp [ints])]; simp [ints, List.take_of_length_le]))
          rw [hml] at this
          exact this
        have hpo : PtP h' (pt bo 0) ((mapW Wn Hn s : Nat), (mapH Wn Hn s : Nat), mapSt Wn Hn s br k) := PtP.at kbo' hvo (by unfold I64; omega) (by unfold I64; omega)
        have cl : cell h' bo 2 = some (sl bb 0 N zz) := by simp [cell, kbo']
        have hcell := ints_cell (hc0.imp id (grows_cellsAt gB)) k1
        have hcell : cell h' b0 (o0 + k) = some (I br[k]) := hcell
        have hbk := okb _ (List.getElem_mem k1)
        rw [← hX', ← hY']
        simp (disch := omega) [q0, q1, q5, q6, cl]
        refine callW_of (c451 h' _ _ (mapW Wn Hn s) X' Y' hpo rfl (by omega) (by omega) (by omega) (by omega)) ?_
        rintro _ h' ⟨rfl, rfl⟩
        refine ⟨fun _ => Grows.refl _, ?_⟩
        rw [← hix]
        simp (disch := omega) [q0, q1, q5, q6, c3, k1, hcell]
        refine callW_of (c475 h' br[k] s hbk hs) ?_
        rintro _ h' ⟨rfl, rfl⟩
        refine ⟨fun _ => Grows.refl _, ?_⟩
        have hst := store_map (v := kindM br[k] s) hb (k := idxM Wn Hn s k) (by omega)
        have eS : mapSt Wn Hn s br (k + 1) = (mapSt Wn Hn s br k).set (idxM Wn Hn s k) (kindM br[k] s) := by
          rw [mapSt, at0_of k1]
        simp (disch := omega) [q4, q5, hnum, hst, wrap64]
        refine ⟨k + 1, ⟨by omega, by omega, .inr ⟨hn, hmd.put (by omega) _, ?_⟩⟩, by omega⟩
        rw [eS]; simp [at_lt hb]
      · have hkn : k = N := by omega
        have kbo' : h'[bo]? = some ⟨[I (mapW Wn Hn s), I (mapH Wn Hn s), sl bb 0 N zz], true⟩ := by
          rcases hb with q | ⟨hn, hmd, _⟩
          · rw [q.2]; exact kbo
          · rw [hmd.2 bo (at_lt kbo) (by have := hne (by omega); omega)]; exact kbo
        have hcl : cellsAt h' bo 0 3 = some [I (mapW Wn Hn s), I (mapH Wn Hn s), sl bb 0 N zz] := cellsAt_all kbo' rfl
        have hdone := map_done (h := h') (lo := h.length) (bb := bb) (zz := zz) (W := Wn) (H := Hn) (s := s) (br := br) (n := k) okb (by omega) (by omega) (by rw [← hN]; exact hzz) (by
          rw [← hN]
          rcases hb with q | ⟨hn, hmd, q⟩
          · exact .inl q.1
          · exact .inr ⟨q, (kbb.resolve_left hn).2⟩)
        rw [← hN, show k = br.length by omega] at hdone
        subst hK
        simp (disch := omega) [q4, q5, hcl]
        exact ⟨gB, hdone⟩
  by_cases a : 4 ≤ s
  · have e1 : mapW Wn Hn s = Hn := by simp [mapW, a]
    have e2 : mapH Wn Hn s = Wn := by simp [mapH, a]
    have cy1 := g2.cell y1
    have cy2 := g2.cell y2
    simp (disch := omega) [bit4 hs, a, cy1, cy2]
    refine callW_of (c450 h2 Hn Wn ⟨by omega, by omega⟩ ⟨by omega, by omega⟩ (by have := g2.le; omega)) ?_
    rintro r3 h3 ⟨g3, o3⟩
    have hi2 : (inner (Hn : Int) (Wn : Int)).toNat = N := by
      rw [inner_row (by omega) (by omega) (by omega) (by omega), hN, e1, e2]
    unfold newP at o3
    rw [hi2] at o3
    obtain ⟨s3, rfl, _, _, o3⟩ := o3.panel
    obtain ⟨bb3, zz3, rfl, hzz3, _, _, hbb3⟩ := o3.ints
    rw [List.length_replicate]
    have kb3 : h3[h1.length]? = some ⟨[I Wn, I Hn, sl bb 0 N zz], true⟩ := g3.at kb2
    have st3 : storeAt h3 h1.length 0 [I Hn, I Wn, sl bb3 0 N zz3] = some (h3.set h1.length ⟨[I Hn, I Wn, sl bb3 0 N zz3], true⟩) := by
      simp [storeAt, kb3, splice]
    simp (disch := omega) [st3]
    have hlt3 := at_lt kb3
    have l2 : h2.length = h1.length + 1 := by rw [eh2]; simp
    refine main _ _ h1.length bb3 zz3 (by simp) (by simp) (by simp) (by simp) ((g2.trans g3).put g1.le _) g1.le (by rw [e1, e2]; simp [hlt3]) ?_ ?_ (nz hzz3)
    · rcases hbb3 with q | q
      · exact .inl (by simpa using q)
      · exact .inr ⟨by rw [List.getElem?_set_ne (by omega)]; exact q.1, by have := g2.le; omega⟩
    · intro hn
      rcases hbb3 with q | q
      · simp at q; omega
      · omega
  · have e1 : mapW Wn Hn s = Wn := by simp [mapW, a]
    have e2 : mapH Wn Hn s = Hn := by simp [mapH, a]
    simp (disch := omega) [bit4 hs, a]
    exact main _ h2 h1.length bb zz (by simp) (by simp) (by simp) (by simp) g2 g1.le (by rw [e1, e2]; exact kb2) nb2 ne2 (nz hzz)

theorem c173 (h : Heap) (hp : 0 < h.length) (v : Value) (X : Pan) (s : Nat) (hv : Vr h shPanel v X) (ok : OkP X) (hs : s < 8) : ACall Gam 173 [v, I s] h fun r h' => Grows h h' ∧ Vo h' h.length h'.length shPanel r (mapP X s) := by
  have hrow := ok.row
  obtain ⟨W, H, br⟩ := X
  obtain ⟨okW, okH, okn, okb⟩ := ok
  simp only at okW okH okn okb hrow
  obtain ⟨Wn, rfl⟩ := Int.eq_ofNat_of_zero_le (show 0 ≤ W by omega)
  obtain ⟨Hn, rfl⟩ := Int.eq_ofNat_of_zero_le (show 0 ≤ H by omega)
  rw [Int.toNat_natCast, Int.toNat_natCast] at hrow
  have eP : mapP ((Wn : Int), (Hn : Int), br) s = (((mapW Wn Hn s : Nat) : Int), ((mapH Wn Hn s : Nat) : Int), mapSt Wn Hn s br br.length) := rfl
  rw [eP]
  have a1 : 1 ≤ mapW Wn Hn s ∧ mapW Wn Hn s < 9 := by unfold mapW; split <;> omega
  have a2 : 1 ≤ mapH Wn Hn s ∧ mapH Wn Hn s < 9 := by unfold mapH; split <;> omega
  obtain ⟨N, hN⟩ : ∃ N, N = rowN (mapW Wn Hn s) (2 * mapH Wn Hn s) := ⟨_, rfl⟩
  have hN128 : N ≤ 128 := by rw [hN]; exact rowN_le a1.2 (by omega)
  have hbl : br.length = N := by
    have e1 := rowN_end (W := Wn) (by omega) (H := Hn) (by omega) (by omega) (by omega)
    have e2 := rowN_end a1.2 a2.2 a1.1 a2.1
    rw [← hrow] at e1
    rw [← hN] at e2
    unfold mapW mapH at e2
    have : ((Wn : Int) * (Hn - 1) + Hn * (Wn - 1)) = Hn * (Wn - 1) + Wn * (Hn - 1) := Int.add_comm _ _
    split at e2 <;> omega
  obtain ⟨sv, rfl, v1, v2, r0⟩ := hv.panel
  obtain ⟨b0, o0, z0, rfl, hz0, hm0, hx0, hc0⟩ := r0.ints
  have hi : (inner (Wn : Int) (Hn : Int)).toNat = rowN Wn (2 * Hn) := inner_row (by omega) (by omega) (by omega) (by omega)
  have nz : ∀ {b z : Nat}, (z = 1 ∨ b = 0 ∧ List.replicate N (0 : Int) = []) → (z = 1 ∨ b = 0 ∧ N = 0) := by
    intro b z q
    exact q.imp id fun q => ⟨q.1, by simpa using q.2⟩
  refine ACall_intro g173 rfl ?_
  unfold fn173
  rw [awp_seq, awp_reg]
  generalize hK0 : seqQ Gam _ _ 0 = K0
  simp (disch := omega)
  subst hK0
  simp only [seqQ_zero]
  rw [awp_seq, awp_reg]
  generalize hK : seqQ Gam _ _ 0 = K
  simp (disch := omega)
  refine callW_of (c177 h Wn Hn ⟨by omega, by omega⟩ ⟨by omega, by omega⟩ hp) ?_
  rintro r1 h1 ⟨g1, o1⟩
  unfold newP at o1
  rw [hi, ← hrow, hbl] at o1
  obtain ⟨s1, rfl, _, _, o1⟩ := o1.panel
  obtain ⟨bb, zz, rfl, hzz, _, _, hbb⟩ := o1.ints
  rw [List.length_replicate]
  simp (disch := omega)
  have nb1 : N = 0 ∨ h1[bb]? = some ⟨ints (List.replicate N 0), true⟩ ∧ h.length ≤ bb := by
    rcases hbb with q | q
    · exact .inl (by simpa using q)
    · exact .inr ⟨q.1, q.2.1⟩
  subst hK
  simp only [seqQ_zero]
  rw [awp_seq]
  generalize hK : seqQ Gam _ (retQ _ _) = K
  have main : ∀ σ h2 (bb zz : Nat), σ 1 = I s → σ 2 = .agg #[I Wn, I Hn, sl b0 o0 br.length z0] → σ 4 = .agg #[I 0, I 0, sl 0 0 0 0] → σ 5 = .agg #[I (mapW Wn Hn s), I (mapH Wn Hn s), sl bb 0 N zz] → Grows h h2 → (N = 0 ∨ h2[bb]? = some ⟨ints (List.replicate N 0), true⟩ ∧ h.length ≤ bb) → (zz = 1 ∨ bb = 0 ∧ N = 0) → K 0 σ h2 := by
    intro σ h2 bb zz p1 p2 p4 p5 g2 kbb hzz
    subst hK
    simp only [seqQ_zero]
    rw [awp_seq]
    generalize hK : seqQ Gam _ (retQ _ _) = K
    have l2 := g2.le
    simp (disch := omega) [p2]
    refine callW_of (c49 h2 Wn Hn (sl b0 o0 br.length z0) (by omega) (by omega) (by omega) (by omega) (by omega)) ?_
    rintro v h3 ⟨g3, l, hl, hll, hbuf⟩
    rw [← hrow] at hll
    obtain ⟨pb, pz, rfl, hpc⟩ : ∃ pb pz, v = sl pb 0 br.length pz ∧ (br.length = 0 ∨ cellsAt h3 pb 0 (br.length * 2) = some (pairsV l) ∧ h2.length ≤ pb ∧ pb < h3.length) := by
      rcases hbuf with ⟨e1, rfl⟩ | ⟨b, m, rfl, e2, e3, e4⟩
      · have : br.length = 0 := by
          have := congrArg List.length e1
          rw [pairsV_len] at this; simp at this; omega
        exact ⟨0, 2, by rw [this], .inl this⟩
      · rw [pairsV_len] at e2
        have : m = br.length := by omega
        subst this
        exact ⟨b, 2, rfl, .inr ⟨cellsAt_all e4 (by rw [pairsV_len]; omega), e3, at_lt e4⟩⟩
    have kbb3 : N = 0 ∨ h3[bb]? = some ⟨ints (List.replicate N 0), true⟩ ∧ h.length ≤ bb ∧ bb < h2.length := by
      rcases kbb with q | q
      · exact .inl q
      · exact .inr ⟨g3.at q.1, q.2, at_lt q.1⟩
    simp (disch := omega)
    refine awp_loop (fun (k : Nat) σ h' => k ≤ N ∧ σ 1 = I s ∧ σ 2 = .agg #[I Wn, I Hn, sl b0 o0 br.length z0] ∧ σ 4 = .agg #[I 0, I 0, sl 0 0 0 0] ∧ σ 5 = .agg #[I (mapW Wn Hn s), I (mapH Wn Hn s), sl bb 0 N zz] ∧ σ 21 = sl pb 0 br.length pz ∧ σ 22 = I br.length ∧ σ 23 = I k ∧
      (N = 0 ∧ h' = h3 ∨ N ≠ 0 ∧ Mod bb (bb + 1) h3 h' ∧ h'[bb]? = some ⟨ints (mapSt Wn Hn s br k), true⟩)) (fun k => N - k) 0 ?_ ?_
    · refine ⟨by omega, by simp [p1], by simp [p2], by simp [p4], by simp [p5], by simp, by simp, by simp, ?_⟩
      rcases kbb3 with q | q
      · exact .inl ⟨q, rfl⟩
      · by_cases e : N = 0
        · exact .inl ⟨e, rfl⟩
        · right
          exact ⟨e, Mod.refl _ _ _, by rw [q.1, hN]; rfl⟩
    · rintro k σ h' ⟨hk, q1, q2, q4, q5, q21, q22, q23, hb⟩
      have gB : Grows h h' := by
        rcases hb with q | ⟨hn, hmd, _⟩
        · rw [q.2]; exact g2.trans g3
        · rcases kbb with q | q
          · exact absurd q hn
          · exact hmd.grows (g2.trans g3) q.2
      simp (disch := omega) [q22, q23]
      refine fork_dec (fun hlt => ?_) (fun hge => ?_)
      · have k1 : k < br.length := by omega
        obtain ⟨hn, hmd, hb⟩ := hb.resolve_left (by omega)
        obtain ⟨_, hbb1, hbb2⟩ := kbb3.resolve_left hn
        obtain ⟨hpc, hp1, hp2⟩ := hpc.resolve_left (by omega)
        have hpc' : cellsAt h' pb 0 (br.length * 2) = some (pairsV l) := by
          unfold cellsAt at hpc ⊢
          rw [hmd.2 pb hp2 (by omega)]; exact hpc
        have hcp := cellsAt_in (i := k * 2) (m := 2) hpc' (by omega)
        rw [pairs_get l k (by omega)] at hcp
        have hpt := hl k (by omega)
        obtain ⟨x, hx⟩ : ∃ px, px = (l[k]'(by omega)).1 := ⟨_, rfl⟩
        obtain ⟨y, hy⟩ : ∃ py, py = (l[k]'(by omega)).2 := ⟨_, rfl⟩
        rw [← hx, ← hy] at hpt
        have hpv : pairV (l[k]'(by omega)) = [I x, I y] := by rw [hx, hy]; rfl
        rw [hpv] at hcp
        simp only [Nat.zero_add] at hcp
        obtain ⟨d1, d2, d3⟩ := hpt.bd
        have d4 := hpt.y1
        have d5 := hpt.y2
        obtain ⟨X', hX'⟩ : ∃ X', X' = mapX Wn Hn x y s := ⟨_, rfl⟩
        obtain ⟨Y', hY'⟩ : ∃ Y', Y' = mapY Wn Hn x y s := ⟨_, rfl⟩
        obtain ⟨m1, m2, m3⟩ := map_pt (s := s) ⟨d1, d2⟩ ⟨d4, d5⟩ d3
        rw [← hX'] at m1 m3
        rw [← hY'] at m2 m3
        have hix : idxM Wn Hn s k = numP (mapW Wn Hn s) X' Y' := by
          unfold idxM; rw [thePt_eq hpt, hX', hY']
        have hnum := numP_lt m1 m2 m3
        rw [← hN, ← hix] at hnum
        have hml := mapSt_len (W := Wn) (H := Hn) (s := s) (br := br) k
        rw [← hN] at hml
        have hcell := ints_cell (hc0.imp id (grows_cellsAt gB)) k1
        have hbk := okb _ (List.getElem_mem k1)
        simp (disch := omega) [q1, q2, q4, q5, q21, q23, k1, hcp]
        refine callW_of (c38 h' Wn Hn x y s _ (by omega) (by omega) ⟨by omega, by omega⟩ ⟨by omega, by omega⟩ hs) ?_
        rintro _ h' ⟨rfl, rfl⟩
        refine ⟨fun _ => Grows.refl _, ?_⟩
        rw [← hX', ← hY']
        refine callW_of (c40 h' (mapW Wn Hn s) (mapH Wn Hn s) X' Y' _ (by omega) (by omega) (by omega) (by omega) m3) ?_
        rintro _ h' ⟨rfl, rfl⟩
        refine ⟨fun _ => Grows.refl _, ?_⟩
        rw [← hix]
        simp (disch := omega) [q1, q2, q4, q5, q23, k1, hcell]
        refine callW_of (c172 h' br[k] s hbk hs) ?_
        rintro _ h' ⟨rfl, rfl⟩
        have hst := store_map (v := kindM br[k] s) hb (k := idxM Wn Hn s k) (by omega)
        have eS : mapSt Wn Hn s br (k + 1) = (mapSt Wn Hn s br k).set (idxM Wn Hn s k) (kindM br[k] s) := by
          rw [mapSt, at0_of k1]
        simp (disch := omega) [q1, q2, q4, q5, q21, q22, q23, hnum, hst, wrap64]
        refine ⟨k + 1, ⟨by omega, by omega, .inr ⟨hn, hmd.put (by omega) _, ?_⟩⟩, by omega⟩
        rw [eS]; simp [at_lt hb]
      · have hkn : k = N := by omega
        have hdone := map_done (h := h') (lo := h.length) (bb := bb) (zz := zz) (W := Wn) (H := Hn) (s := s) (br := br) (n := k) okb (by omega) (by omega) (by rw [← hN]; exact hzz) (by
          rw [← hN]
          rcases hb with q | ⟨hn, hmd, q⟩
          · exact .inl q.1
          · exact .inr ⟨q, (kbb.resolve_left hn).2⟩)
        rw [← hN, show k = br.length by omega] at hdone
        subst hK
        simp (disch := omega) [q4, q5]
        exact ⟨gB, hdone⟩
  by_cases a : 4 ≤ s
  · have a' : (4 : Int) ≤ s := by omega
    have e1 : mapW Wn Hn s = Hn := by simp [mapW, a]
    have e2 : mapH Wn Hn s = Wn := by simp [mapH, a]
    simp (disch := omega) [a']
    refine callW_of (c177 h1 Hn Wn ⟨by omega, by omega⟩ ⟨by omega, by omega⟩ (by have := g1.le; omega)) ?_
    rintro r3 h3 ⟨g3, o3⟩
    have hi2 : (inner (Hn : Int) (Wn : Int)).toNat = N := by
      rw [inner_row (by omega) (by omega) (by omega) (by omega), hN, e1, e2]
    unfold newP at o3
    rw [hi2] at o3
    obtain ⟨s3, rfl, _, _, o3⟩ := o3.panel
    obtain ⟨bb3, zz3, rfl, hzz3, _, _, hbb3⟩ := o3.ints
    rw [List.length_replicate]
    simp (disch := omega)
    refine main _ h3 bb3 zz3 (by simp) (by simp) (by simp) (by simp [e1, e2]) (g1.trans g3) ?_ (nz hzz3)
    rcases hbb3 with q | q
    · exact .inl (by simpa using q)
    · exact .inr ⟨q.1, by have := g1.le; omega⟩
  · have a' : ¬ (4 : Int) ≤ s := by omega
    have e1 : mapW Wn Hn s = Wn := by simp [mapW, a]
    have e2 : mapH Wn Hn s = Hn := by simp [mapH, a]
    simp (disch := omega) [a']
    exact main _ h1 bb zz (by simp) (by simp) (by simp) (by simp [e1, e2]) g1 nb1 (nz hzz)
end Am
/-! AmY4 -/
set_option linter.unusedVariables false
set_option linter.unusedSimpArgs false
set_option maxHeartbeats 4000000
set_option maxRecDepth 4000
namespace Am
open Go

theorem c152 (h : Heap) (a b : Int) : ACall Gam 152 [I a, I b] h fun r h' => r = I (cmpI a b) ∧ h' = h := by
  refine ACall_intro g152 rfl ?_
  unfold fn152
  simp (disch := omega)
  refine fork_dec (fun h1 => ?_) (fun h1 => ?_)
  · simp [cmpI, h1]
  · simp (disch := omega)
    refine fork_dec (fun h2 => ?_) (fun h2 => ?_)
    · simp [cmpI, h1, h2]
    · simp [cmpI, h1, h2]
theorem c60 (h : Heap) (a : Int) : ACall Gam 60 [I a] h fun r h' => r = B false ∧ h' = h := by
  refine ACall_intro g60 rfl ?_
  unfold fn60
  simp (disch := omega)
theorem c59 (h : Heap) (a b : Int) : ACall Gam 59 [I a, I b] h fun r h' => r = I (cmpI a b) ∧ h' = h := by
  refine ACall_intro g59 rfl ?_
  unfold fn59
  simp (disch := omega)
  refine callW_of (c60 h a) ?_
  rintro _ h' ⟨rfl, rfl⟩
  simp (disch := omega)
  refine callW_of (c60 h' b) ?_
  rintro _ h' ⟨rfl, rfl⟩
  simp (disch := omega)
  refine fork_dec (fun h1 => ?_) (fun h1 => ?_)
  · simp [cmpI, h1]
  · simp (disch := omega)
    refine fork_dec (fun h2 => ?_) (fun h2 => ?_)
    · simp [cmpI, h1, h2]
    · simp [cmpI, h1, h2]
theorem take_more {X Y : List Int} {k : Nat} (ht : X.take k = Y.take k) (h1 : k < X.length) (h2 : k < Y.length) (e : X[k] = Y[k]) : X.take (k + 1) = Y.take (k + 1) := by
  rw [List.take_succ_eq_append_getElem h1, List.take_succ_eq_append_getElem h2, ht, e]
theorem c309 (h : Heap) (v w : Value) (X Y : List Int) (hv : Vr h shInts v X) (hw : Vr h shInts w Y) : ACall Gam 309 [v, w] h fun r h' => r = I (cmpL X Y) ∧ h' = h := by
  obtain ⟨b1, o1, z1, rfl, _, hm1, _, hc1⟩ := hv.ints
  obtain ⟨b2, o2, z2, rfl, _, hm2, _, hc2⟩ := hw.ints
  rw [maxLen_eq] at hm1 hm2
  refine ACall_intro g309 rfl ?_
  unfold fn309
  simp (disch := omega)
  refine awp_loop (fun k σ h' => h' = h ∧ k ≤ X.length ∧ k ≤ Y.length ∧ X.take k = Y.take k ∧ σ 0 = sl b1 o1 X.length z1 ∧ σ 1 = sl b2 o2 Y.length z2 ∧ σ 9 = sl b1 o1 X.length z1 ∧ σ 10 = I X.length ∧ σ 11 = I k) (fun k => X.length - k) 0 ?_ ?_
  · simp
  · rintro k σ h' ⟨rfl, hk, hk2, ht, q0, q1, q9, q10, q11⟩
    simp (disch := omega) [q10, q11]
    refine fork_dec (fun hlt => ?_) (fun hge => ?_)
    · have k1 : k < X.length := by omega
      have d1 := ints_cell hc1 k1
      simp (disch := omega) [q0, q1, q9, q10, q11, k1, d1]
      refine fork_dec (fun hle => ?_) (fun hle => ?_)
      · have ek : k = Y.length := by omega
        have := cmpL_end ht hk hk2 (.inr ek)
        simp (disch := omega)
        rw [this]
        unfold cmpI; rw [if_neg (by omega), if_pos (by omega)]
      · have k2 : k < Y.length := by omega
        have d2 := ints_cell hc2 k2
        simp (disch := omega) [q0, q1, q9, q10, q11, k1, k2, d1, d2]
        refine callW_of (c59 h' X[k] Y[k]) ?_
        rintro _ h' ⟨rfl, rfl⟩
        simp (disch := omega) [q0, q1, q9, q10, q11]
        refine fork_dec (fun hz => ?_) (fun hz => ?_)
        · have he := cmpI_zero.1 hz
          simp (disch := omega) [q0, q1, q9, q10, q11, wrap64]
          exact ⟨k + 1, ⟨by omega, by omega, take_more ht k1 k2 he, by omega⟩, by omega⟩
        · simp (disch := omega)
          rw [cmpL_at ht k1 k2 (fun e => hz (cmpI_zero.2 e))]
    · have ek : k = X.length := by omega
      have hce := cmpL_end ht hk hk2 (.inl ek)
      simp (disch := omega) [q0, q1]
      refine fork_dec (fun hlt => ?_) (fun hge => ?_)
      · simp (disch := omega)
        rw [hce]; unfold cmpI; rw [if_pos (by omega)]
      · simp (disch := omega)
        rw [hce, cmpI_same (by omega)]
theorem c478 (h : Heap) (v w : Value) (X Y : List Int) (hv : Vr h shInts v X) (hw : Vr h shInts w Y) : ACall Gam 478 [v, w] h fun r h' => r = I (cmpL X Y) ∧ h' = h := by
  obtain ⟨b1, o1, z1, rfl, _, hm1, _, hc1⟩ := hv.ints
  obtain ⟨b2, o2, z2, rfl, _, hm2, _, hc2⟩ := hw.ints
  rw [maxLen_eq] at hm1 hm2
  refine ACall_intro g478 rfl ?_
  unfold fn478
  simp (disch := omega)
  refine awp_loop (fun k σ h' => h' = h ∧ k ≤ X.length ∧ k ≤ Y.length ∧ X.take k = Y.take k ∧ σ 0 = sl b1 o1 X.length z1 ∧ σ 1 = sl b2 o2 Y.length z2 ∧ σ 5 = I k) (fun k => X.length - k) 0 ?_ ?_
  · simp
  · rintro k σ h' ⟨rfl, hk, hk2, ht, q0, q1, q5⟩
    have out : (k = X.length ∨ k = Y.length) → cmpL X Y = cmpI X.length Y.length := fun e => cmpL_end ht hk hk2 e
    have fin : ∀ e : k = X.length ∨ k = Y.length, cmpI (X.length : Int) Y.length = cmpL X Y := fun e => (out e).symm
    by_cases hlt : k < X.length
    · have hl1 : (k : Int) < X.length := by omega
      by_cases hlt2 : k < Y.length
      · have hl2 : (k : Int) < Y.length := by omega
        have d1 := ints_cell hc1 hlt
        have d2 := ints_cell hc2 hlt2
        simp (disch := omega) [q0, q1, q5, hl1, hl2, hlt, hlt2, d1, d2]
        refine fork_dec (fun hl => ?_) (fun hl => ?_)
        · simp (disch := omega)
          rw [cmpL_at ht hlt hlt2 (by omega)]; unfold cmpI; rw [if_pos hl]
        · simp (disch := omega) [q0, q1, q5, hlt, hlt2, d1, d2]
          refine fork_dec (fun hg => ?_) (fun hg => ?_)
          · simp (disch := omega)
            rw [cmpL_at ht hlt hlt2 (by omega)]; unfold cmpI; rw [if_neg hl, if_pos hg]
          · simp (disch := omega) [q0, q1, q5, wrap64]
            exact ⟨k + 1, ⟨by omega, by omega, take_more ht hlt hlt2 (by omega), by omega⟩, by omega⟩
      · have hl2 : ¬ (k : Int) < Y.length := by omega
        have e := fin (.inr (by omega))
        have g1 : ¬ (X.length : Int) < Y.length := by omega
        have g2 : (Y.length : Int) < X.length := by omega
        simp (disch := omega) [q0, q1, q5, hl1, hl2, g1, g2]
        rw [← e]; unfold cmpI; rw [if_neg (by omega), if_pos (by omega)]
    · have hl1 : ¬ (k : Int) < X.length := by omega
      have e := fin (.inl (by omega))
      by_cases g1 : (X.length : Int) < Y.length
      · simp (disch := omega) [q0, q1, q5, hl1, g1]
        rw [← e]; unfold cmpI; rw [if_pos (by omega)]
      · have g2 : ¬ (Y.length : Int) < X.length := by omega
        simp (disch := omega) [q0, q1, q5, hl1, g1, g2]
        rw [← e, cmpI_same (by omega)]
theorem c70 (h : Heap) (v w : Value) (X Y : Pan) (hv : Vr h shPanel v X) (hw : Vr h shPanel w Y) : ACall Gam 70 [v, w] h fun r h' => r = I (cmpP X Y) ∧ h' = h := by
  obtain ⟨W, H, br⟩ := X
  obtain ⟨W', H', br'⟩ := Y
  obtain ⟨s, rfl, w1, w2, r⟩ := hv.panel
  obtain ⟨s', rfl, w1', w2', r'⟩ := hw.panel
  refine ACall_intro g70 rfl ?_
  unfold fn70
  simp (disch := omega)
  refine callW_of (c152 h W W') ?_
  rintro _ h' ⟨rfl, rfl⟩
  simp (disch := omega)
  refine fork_dec (fun h1 => ?_) (fun h1 => ?_)
  · simp (disch := omega)
    refine callW_of (c152 h' H H') ?_
    rintro _ h' ⟨rfl, rfl⟩
    simp (disch := omega)
    refine fork_dec (fun h2 => ?_) (fun h2 => ?_)
    · simp (disch := omega)
      refine callW_of (c309 h' _ _ br br' r r') ?_
      rintro _ h' ⟨rfl, rfl⟩
      simp [cmpP, h1, h2]
    · simp [cmpP, h1, h2]
  · simp [cmpP, h1]
theorem cmpL_two (a b c d : Int) : cmpL [a, b] [c, d] = if cmpI a c ≠ 0 then cmpI a c else cmpI b d := by
  simp only [cmpL]
  by_cases h1 : cmpI a c = 0
  · by_cases h2 : cmpI b d = 0
    · simp [h1, h2]
    · simp [h1, h2]
  · simp [h1]
theorem c474 (h : Heap) (v w : Value) (X Y : Pan) (hv : PtP h v X) (hw : PtP h w Y) : ACall Gam 474 [v, w] h fun r h' => r = I (cmpP X Y) ∧ Grows h h' := by
  have hv0 := hv
  have hw0 := hw
  obtain ⟨W, H, br⟩ := X
  obtain ⟨W', H', br'⟩ := Y
  obtain ⟨b, o, s, rfl, x1, x2, x3, r, w1, w2⟩ := hv
  obtain ⟨b', o', s', rfl, y1, y2, y3, r', w1', w2'⟩ := hw
  simp only at x1 x2 x3 r w1 w2 y1 y2 y3 r' w1' w2'
  refine ACall_intro g474 rfl ?_
  unfold fn474
  have gy : Grows h (h ++ [⟨[Value.int .i64 W, Value.int .i64 H], true⟩]) := ⟨_, rfl⟩
  have y1' := gy.cell y1
  have y2' := gy.cell y2
  simp (disch := omega) [x1, x2, y1', y2', aBuildSlice]
  obtain ⟨h2, e2⟩ : ∃ h2, h2 = h ++ [⟨[I W, I H], true⟩, ⟨[I W', I H'], true⟩] := ⟨_, rfl⟩
  have k1 : h2[h.length]? = some ⟨ints [W, H], true⟩ := by rw [e2]; simp [ints]
  have k2 : h2[h.length + 1]? = some ⟨ints [W', H'], true⟩ := by rw [e2]; simp [ints]
  have g2 : Grows h h2 := ⟨_, e2⟩
  rw [← e2]
  have vr : ∀ (c : Nat) (p q : Int), I64 p → I64 q → h2[c]? = some ⟨ints [p, q], true⟩ → Vr h2 shInts (sl c 0 2 1) [p, q] := by
    intro c p q hp hq hc
    exact Vr.of_ints (b := c) (o := 0) (z := 1) (X := [p, q]) (.inl rfl) (by simp [maxLen_eq]) (by
      intro x hx
      simp at hx
      rcases hx with e | e <;> rw [e] <;> assumption) (.inr (by rw [cellsAt_of hc (by simp [ints])]; simp [ints]))
  refine callW_of (c478 h2 _ _ [W, H] [W', H'] (vr _ _ _ w1 w2 k1) (vr _ _ _ w1' w2' k2)) ?_
  rintro _ h3 ⟨rfl, rfl⟩
  simp (disch := omega)
  rw [cmpL_two]
  obtain ⟨z, ez⟩ : ∃ z, z = (if cmpI W W' ≠ 0 then cmpI W W' else cmpI H H') := ⟨_, rfl⟩
  have e1 : cmpP (W, H, br) (W', H', br') = if z = 0 then cmpL br br' else z := by
    rw [ez]; unfold cmpP
    by_cases h1 : cmpI W W' = 0 <;> by_cases h2 : cmpI H H' = 0 <;> simp [h1, h2]
  rw [e1, ← ez]
  by_cases hz : z = 0
  · have x3' := g2.cell x3
    have y3' := g2.cell y3
    simp (disch := omega) [hz, x3', y3']
    refine callW_of (c478 h3 _ _ br br' (r.grow g2) (r'.grow g2)) ?_
    rintro _ h4 ⟨rfl, rfl⟩
    simp (disch := omega)
    exact g2
  · simp (disch := omega) [hz]
    exact g2

theorem c147 (h : Heap) (hp : 0 < h.length) (v : Value) (X : Pan) (hv : Vr h shPanel v X) (ok : OkP X) : ACall Gam 147 [v] h fun r h' => Grows h h' ∧ Vo h' h.length h'.length shPanel r (canonP X) := by
  have hv0 := hv
  obtain ⟨W, H, br⟩ := X
  obtain ⟨s0, rfl, w1, w2, r0⟩ := hv.panel
  refine ACall_intro g147 rfl ?_
  unfold fn147
  simp (disch := omega)
  refine callW_of (c173 h hp _ (W, H, br) 0 hv0 ok (by omega)) ?_
  rintro v1 h1 ⟨g1, o1⟩
  rw [mapP_none ok] at o1
  obtain ⟨s1, rfl, _, _, _⟩ := o1.panel
  simp (disch := omega)
  refine awp_loop (fun (k : Nat) σ h' => k ≤ 7 ∧ Grows h h' ∧ σ 1 = .agg #[I W, I H, s0] ∧ σ 2 = .agg #[I 0, I 0, sl 0 0 0 0] ∧ σ 4 = I ((k : Int) + 1) ∧ Vo h' h.length h'.length shPanel (σ 3) (canonF (W, H, br) k)) (fun k => 7 - k) 0 ?_ ?_
  · exact ⟨by omega, g1, by simp, by simp, by simp, by simpa [canonF] using o1⟩
  · rintro k σ h' ⟨hk, g, q1, q2, q4, o⟩
    simp (disch := omega) [q4]
    refine fork_dec (fun hlt => ?_) (fun hge => ?_)
    · have hl := g.le
      simp (disch := omega) [q1, q4]
      have hc := c173 h' (by omega) _ (W, H, br) (k + 1) (hv0.grow g) ok (by omega)
      rw [show ((k + 1 : Nat) : Int) = (k : Int) + 1 by omega] at hc
      refine callW_of hc ?_
      rintro v2 h2 ⟨g2, o2⟩
      obtain ⟨Y, hY⟩ : ∃ Y, Y = mapP (W, H, br) (k + 1) := ⟨_, rfl⟩
      obtain ⟨Z, hZ⟩ : ∃ Z, Z = canonF (W, H, br) k := ⟨_, rfl⟩
      have hn : canonF (W, H, br) (k + 1) = if cmpP Y Z < 0 then Y else Z := by rw [hY, hZ]; rfl
      rw [← hY] at o2
      rw [← hZ] at o
      have o' := o.grow g2
      obtain ⟨a, b, c, ev2⟩ := o2.vr.panel3
      obtain ⟨a', b', c', ev3⟩ := o.vr.panel3
      subst ev2
      simp (disch := omega) [q1, q2, q4, ev3]
      refine callW_of (c70 h2 _ _ Y Z o2.vr (by rw [← ev3]; exact o'.vr)) ?_
      rintro _ h2 ⟨rfl, rfl⟩
      simp (disch := omega)
      refine fork_dec (fun hc => ?_) (fun hc => ?_)
      · rw [if_pos hc] at hn
        simp (disch := omega) [q1, q2, q4, ev3, wrap64]
        refine ⟨k + 1, ⟨by omega, g.trans g2, by omega, ?_⟩, by omega⟩
        rw [hn]; exact o2.wide (by omega) (Nat.le_refl _)
      · rw [if_neg hc] at hn
        simp (disch := omega) [q1, q2, q4, ev3, wrap64]
        refine ⟨k + 1, ⟨by omega, g.trans g2, by omega, ?_⟩, by omega⟩
        rw [hn, ← ev3]; exact o'.wide (Nat.le_refl _) g2.le
    · have hk7 : k = 7 := by omega
      subst hk7
      obtain ⟨a', b', c', ev3⟩ := o.vr.panel3
      simp (disch := omega) [q2, ev3]
      rw [ev3] at o
      exact ⟨g, o⟩
theorem c476 (h : Heap) (hp : 0 < h.length) (v : Value) (X : Pan) (hv : PtP h v X) (ok : OkP X) : ACall Gam 476 [v] h fun r h' => Grows h h' ∧ Vo h' h.length h'.length shPanel r (canonP X) := by
  have hv0 := hv
  have h128 := ok.siz
  obtain ⟨b0, o0, s0, rfl, _⟩ := hv
  refine ACall_intro g476 rfl ?_
  unfold fn476
  simp (disch := omega)
  refine callW_of (c453 h _ X hp hv0 (by omega)) ?_
  rintro v1 h1 ⟨g1, o1⟩
  refine ⟨fun e => (by cases e), ?_⟩
  obtain ⟨a1, b1, c1, e1⟩ := o1.vr.panel3
  subst e1
  have st1 := store_box (h := h1) (cs := [I 0, I 0, sl 0 0 0 0]) (xs := [a1, b1, c1]) rfl
  simp (disch := omega) [st1]
  have gb1 : Grows h1 (h1 ++ [⟨[a1, b1, c1], true⟩]) := ⟨_, rfl⟩
  obtain ⟨bo, hbo⟩ : ∃ bo, bo = h1.length := ⟨_, rfl⟩
  have hlb : h.length ≤ bo := by rw [hbo]; exact g1.le
  rw [← hbo]
  refine awp_loop (fun (k : Nat) σ h' => k ≤ 7 ∧ Grows h h' ∧ σ 0 = pt b0 o0 ∧ σ 2 = .agg #[I 0, I 0, sl 0 0 0 0] ∧ σ 3 = pt bo 0 ∧ σ 4 = I ((k : Int) + 1) ∧ ∃ a b c lo hi, h'[bo]? = some ⟨[a, b, c], true⟩ ∧ h.length ≤ lo ∧ hi ≤ h'.length ∧ (hi ≤ bo ∨ bo + 1 ≤ lo) ∧ Vo h' lo hi shPanel (.agg #[a, b, c]) (canonF X k)) (fun k => 7 - k) 0 ?_ ?_
  · exact ⟨by omega, g1.trans gb1, by simp, by simp, by simp, by simp, a1, b1, c1, h.length, h1.length, by simp [hbo], Nat.le_refl _, by simp, .inl (by omega), by simpa [canonF] using o1.grow gb1⟩
  · rintro k σ h' ⟨hk, g, q0, q2, q3, q4, a, b, c, lo, hi, kb, hlo, hhi, hd, o⟩
    have hp' := h128
    have ptp : ∀ {h : Heap} {bo : Nat} {a b c : Value} {Y : Pan}, h[bo]? = some ⟨[a, b, c], true⟩ → Vr h shPanel (.agg #[a, b, c]) Y → PtP h (pt bo 0) Y := by
      intro h bo a b c Y hb hv
      obtain ⟨W, H, br⟩ := Y
      obtain ⟨s, e, w1, w2, r⟩ := hv.panel
      simp at e
      obtain ⟨rfl, rfl, rfl⟩ := e
      exact PtP.at hb r w1 w2
    simp (disch := omega) [q4]
    refine fork_dec (fun hlt => ?_) (fun hge => ?_)
    · have hl := g.le
      simp (disch := omega) [q0, q4]
      have hc := c477 h' (by omega) _ X (k + 1) (hv0.grow g) ok (by omega)
      rw [show ((k + 1 : Nat) : Int) = (k : Int) + 1 by omega] at hc
      refine callW_of hc ?_
      rintro v2 h2 ⟨g2, o2⟩
      refine ⟨fun e => (by cases e), ?_⟩
      obtain ⟨Y, hY⟩ : ∃ Y, Y = mapP X (k + 1) := ⟨_, rfl⟩
      obtain ⟨Z, hZ⟩ : ∃ Z, Z = canonF X k := ⟨_, rfl⟩
      have hn : canonF X (k + 1) = if cmpP Y Z < 0 then Y else Z := by rw [hY, hZ]; rfl
      rw [← hY] at o2
      rw [← hZ] at o
      obtain ⟨a2, b2, c2, e2⟩ := o2.vr.panel3
      subst e2
      have st2 := store_box (h := h2) (cs := [I 0, I 0, sl 0 0 0 0]) (xs := [a2, b2, c2]) rfl
      simp (disch := omega) [q3, st2]
      have gb2 : Grows h2 (h2 ++ [⟨[a2, b2, c2], true⟩]) := ⟨_, rfl⟩
      have kx : (h2 ++ [⟨[a2, b2, c2], true⟩])[h2.length]? = some ⟨[a2, b2, c2], true⟩ := by simp
      have kb2 := gb2.at (g2.at kb)
      have g3 := g2.trans gb2
      refine callW_of (c474 _ _ _ Y Z (ptp kx (o2.vr.grow gb2)) (ptp kb2 (o.vr.grow g3))) ?_
      rintro _ h3 ⟨rfl, g4⟩
      have kx3 := g4.at kx
      have kb3 := g4.at kb2
      have hl2 := g2.le
      have hl3 := g4.le
      rw [List.length_append] at hl3
      have hblt := at_lt kb
      have cx3 : cellsAt h3 h2.length 0 3 = some [a2, b2, c2] := cellsAt_all kx3 rfl
      simp (disch := omega)
      refine fork_dec (fun hc => ?_) (fun hc => ?_)
      · rw [if_pos hc] at hn
        have st3 : storeAt h3 bo 0 [a2, b2, c2] = some (h3.set bo ⟨[a2, b2, c2], true⟩) := by simp [storeAt, kb3, splice]
        simp (disch := omega) [q0, q2, q3, q4, cx3, st3, wrap64]
        refine ⟨k + 1, ⟨by omega, (g.trans (g3.trans g4)).put hlb _, by omega, a2, b2, c2, by first | trivial | simp [at_lt kb3] | (intro; rfl), h'.length, by omega, h2.length, by first | omega | (simp; omega), .inr (by omega), ?_⟩, by omega⟩
        rw [hn]
        have hm : Mod bo (bo + 1) h3 (h3.set bo ⟨[a2, b2, c2], true⟩) := (Mod.refl _ _ _).put (by omega) _
        exact ((o2.grow gb2).grow g4).mod hm (.inr (by omega))
      · rw [if_neg hc] at hn
        have kv3 : h3[bo]'(at_lt kb3) = ⟨[a, b, c], true⟩ := (List.getElem?_eq_some_iff.1 kb3).2
        simp (disch := omega) [q0, q2, q3, q4, wrap64]
        refine ⟨k + 1, ⟨by omega, g.trans (g3.trans g4), by omega, a, b, c, kv3, lo, hlo, hi, by omega, hd, ?_⟩, by omega⟩
        rw [hn]; exact (o.grow g3).grow g4
    · have hk7 : k = 7 := by omega
      subst hk7
      have cb : cellsAt h' bo 0 3 = some [a, b, c] := cellsAt_all kb rfl
      simp (disch := omega) [q2, q3, cb]
      exact ⟨g, o.wide hlo hhi⟩
end Am

/- Contracts: differences between panels, clashes, merged panels. -/
import Derived.Test.YtljclhpcpjkihaaAmP3
import Derived.Test.YtljclhpcpjkihaaAmC7
set_option linter.unusedVariables false
set_option linter.unusedSimpArgs false
set_option maxHeartbeats 4000000
namespace Am
open Go

theorem PtP.of_block {h : Heap} {b : Nat} {W H : Int} {s : Value} {br : List Int} {r : Bool} (hb : h[b]? = some ⟨[I W, I H, s], r⟩) (hs : Vr h shInts s br) (hW : I64 W) (hH : I64 H) : PtP h (pt b 0) (W, H, br) :=
  ⟨b, 0, s, rfl, by simp [Am.cell, hb], by simp [Am.cell, hb], by simp [Am.cell, hb], hs, hW, hH⟩
theorem sameSz_comm (X Y : Pan) : sameSz X Y = sameSz Y X := by
  unfold sameSz; rw [decide_eq_decide.2 (eq_comm (a := X.1)), decide_eq_decide.2 (eq_comm (a := X.2.1))]
theorem same_len {X Y : Pan} (hx : OkP X) (hy : OkP Y) (hs : sameSz X Y = true) : X.2.2.length = Y.2.2.length := by
  obtain ⟨h1, h2⟩ := sameSz_iff.1 hs
  have a := hx.n; have b := hy.n
  rw [h1, h2] at a
  omega

/-! ### differences -/
def dpre (a b : List Int) (n : Nat) : List Trip := (List.range n).flatMap fun i => if at0 a i = at0 b i then [] else [((i : Int), at0 a i, at0 b i)]
theorem dpre_succ (a b : List Int) (n : Nat) : dpre a b (n + 1) = dpre a b n ++ if at0 a n = at0 b n then [] else [((n : Int), at0 a n, at0 b n)] := by simp [dpre, List.range_succ]
theorem dpre_len (a b : List Int) (n : Nat) : (dpre a b n).length ≤ n := by
  induction n with
  | zero => simp [dpre]
  | succ n ih => rw [dpre_succ]; simp; split <;> simp <;> omega
theorem at0wide {a : List Int} (h : ∀ x ∈ a, I64 x) (i : Nat) : I64 (at0 a i) := by
  unfold at0
  rw [List.getD_eq_getElem?_getD]
  by_cases hi : i < a.length
  · rw [List.getElem?_eq_getElem hi]; exact h _ (List.getElem_mem hi)
  · rw [List.getElem?_eq_none (by omega)]; simp [I64]
theorem dpre_64 {a b : List Int} (ha : ∀ x ∈ a, I64 x) (hb : ∀ x ∈ b, I64 x) {n : Nat} (hn : n ≤ 1048576) : ∀ x ∈ dpre a b n, T64 x := by
  intro x hx
  obtain ⟨i, hi, hx⟩ := List.mem_flatMap.1 hx
  have := List.mem_range.1 hi
  split at hx
  · simp at hx
  · simp at hx; subst hx
    exact ⟨by unfold I64; simp; omega, at0wide ha i, at0wide hb i⟩
def diffAns (X Y : Pan) : List Trip × Int := if okP X && okP Y then (if sameSz X Y then (dpre X.2.2 Y.2.2 X.2.2.length, 0) else ([], 6)) else ([], 1)
theorem diff_siz (X Y : Pan) (hs : X.2.2.length ≤ 1048576) : siz shTrips (diffAns X Y).1 ≤ 16777216 := by
  rw [siz_trips]
  unfold diffAns
  split
  · split
    · have := dpre_len X.2.2 Y.2.2 X.2.2.length; simp only; omega
    · simp
  · simp
theorem Vo.no_trips {h : Heap} {lo hi : Nat} : Vo h lo hi shTrips (sl 0 0 0 0) ([] : List Trip) := Vo.of_trips (X := []) (.inr ⟨rfl, rfl⟩) (by simp) (by simp) (.inl rfl)
theorem Vo.no_ints {h : Heap} {lo hi : Nat} : Vo h lo hi shInts (sl 0 0 0 0) ([] : List Int) := Vo.of_ints (X := []) (.inr ⟨rfl, rfl⟩) (by simp) (by simp) (.inl rfl)

theorem c346 (h : Heap) (hp : 0 < h.length) (v0 : Value) (X0 : Pan) (hv0 : Vr h shPanel v0 X0) (hs0 : siz shPanel X0 ≤ 1048576) (v1 : Value) (X1 : Pan) (hv1 : Vr h shPanel v1 X1) (hs1 : siz shPanel X1 ≤ 1048576) :
    ACall Gam 346 [v0, v1] h fun r h' => Grows h h' ∧ ∃ r0, r = .tuple #[r0, I (diffAns X0 X1).2] ∧ Vo h' h.length h'.length shTrips r0 (diffAns X0 X1).1 ∧ siz shTrips (diffAns X0 X1).1 ≤ 16777216 := by
  obtain ⟨W0, H0, a⟩ := X0
  obtain ⟨W1, H1, b⟩ := X1
  rw [siz_panel] at hs0 hs1
  have hsz := diff_siz (W0, H0, a) (W1, H1, b) hs0
  obtain ⟨s0, rfl, w0, x0, hr0⟩ := hv0.panel
  obtain ⟨s1, rfl, w1, x1, hr1⟩ := hv1.panel
  refine ACall_intro g346 rfl ?_
  unfold fn346
  simp (disch := omega) [aBuildSlice]
  obtain ⟨hh, ehh⟩ : ∃ hh, hh = h ++ [⟨[I W0, I H0, s0], true⟩, ⟨[I W1, I H1, s1], true⟩, ⟨[pt h.length 0, pt (h.length + 1) 0], true⟩] := ⟨_, rfl⟩
  rw [← ehh]
  have G : Grows h hh := ⟨_, ehh⟩
  have k0 : hh[h.length]? = some ⟨[I W0, I H0, s0], true⟩ := by rw [ehh]; simp
  have k1 : hh[h.length + 1]? = some ⟨[I W1, I H1, s1], true⟩ := by rw [ehh, List.getElem?_append_right (by omega)]; simp
  have k2 : hh[h.length + 2]? = some ⟨[pt h.length 0, pt (h.length + 1) 0], true⟩ := by rw [ehh, List.getElem?_append_right (by omega)]; simp
  have p0 : PtP hh (pt h.length 0) (W0, H0, a) := PtP.of_block k0 (hr0.grow G) w0 x0
  have p1 : PtP hh (pt (h.length + 1) 0) (W1, H1, b) := PtP.of_block k1 (hr1.grow G) w1 x1
  refine callW_of (c552 hh (h.length + 2) 0 [pt h.length 0, pt (h.length + 1) 0] [(W0, H0, a), (W1, H1, b)] (by simp) (by simp) rfl (by rw [cellsAt_of k2 (by simp)]; simp) (fun i hi => by
    have : i = 0 ∨ i = 1 := by simp at hi; omega
    rcases this with rfl | rfl
    · exact ⟨_, rfl, p0⟩
    · exact ⟨_, rfl, p1⟩)) ?_
  rintro _ h1 ⟨rfl, rfl⟩
  have eC : sizesCode [(W0, H0, a), (W1, H1, b)] = (diffAns (W0, H0, a) (W1, H1, b)).2 := by
    simp only [sizesCode, diffAns, List.all_cons, List.all_nil, Bool.and_true, List.drop_succ_cons, List.drop_zero, List.headD_cons]
    rw [sameSz_comm (W1, H1, b)]
    split
    · split <;> rfl
    · rfl
  rw [eC]
  by_cases hc : okP (W0, H0, a) = true ∧ okP (W1, H1, b) = true ∧ sameSz (W0, H0, a) (W1, H1, b) = true
  rotate_left
  · have eD : (diffAns (W0, H0, a) (W1, H1, b)).1 = [] ∧ (diffAns (W0, H0, a) (W1, H1, b)).2 ≠ 0 := by
      unfold diffAns
      cases h1 : okP (W0, H0, a) <;> cases h2 : okP (W1, H1, b) <;> cases h3 : sameSz (W0, H0, a) (W1, H1, b) <;> simp_all
    obtain ⟨e1, e2⟩ := eD
    rw [e1] at hsz ⊢
    simp [e2]
    exact ⟨G, Vo.no_trips, hsz⟩
  · obtain ⟨q0, q1, q2⟩ := hc
    have eD : diffAns (W0, H0, a) (W1, H1, b) = (dpre a b a.length, 0) := by simp [diffAns, q0, q1, q2]
    have ok0 := okP_iff.1 q0
    have ok1 := okP_iff.1 q1
    have hll : a.length = b.length := same_len ok0 ok1 q2
    rw [eD] at hsz ⊢
    obtain ⟨b0, o0, z0, rfl, _, hm0, hx0, hc0⟩ := hr0.ints
    obtain ⟨b1, o1, z1, rfl, _, hm1, hx1, hc1⟩ := hr1.ints
    simp (disch := omega)
    have cx0 : cell h1 h.length 2 = some (sl b0 o0 a.length z0) := by simp [cell, k0]
    have cx1 : cell h1 (h.length + 1) 2 = some (sl b1 o1 b.length z1) := by simp [cell, k1]
    refine awp_loop (fun k σ h' => k ≤ a.length ∧ Grows h1 h' ∧ σ 2 = pt h.length 0 ∧ σ 3 = pt (h.length + 1) 0 ∧ σ 8 = I k ∧ Buf h1 h' (σ 7) 3 (trips (dpre a b k))) (fun k => a.length - k) 0 ?_ ?_
    · exact ⟨by omega, Grows.refl _, by simp, by simp, by simp, by simp [dpre, trips_nil]; exact Buf.nil⟩
    · rintro k σ h' ⟨hk, hg, t2, t3, t8, hb⟩
      have d0 := hg.cell cx0
      have d1 := hg.cell cx1
      simp (disch := omega) [t2, t8, d0]
      refine fork_dec (fun hlt => ?_) (fun hge => ?_)
      · have l0 : k < a.length := by omega
        have l1 : k < b.length := by omega
        have f0 := ints_cell (hc0.imp id (grows_cellsAt (G.trans hg))) l0
        have f1 := ints_cell (hc1.imp id (grows_cellsAt (G.trans hg))) l1
        rw [← at0_of l0] at f0
        rw [← at0_of l1] at f1
        simp (disch := omega) [t2, t3, t8, d0, d1, l0, l1, f0, f1]
        refine fork_dec (fun he => ?_) (fun he => ?_)
        · simp (disch := omega) [t2, t3, t8, wrap64]
          exact ⟨k + 1, ⟨by omega, hg, by omega, by rw [dpre_succ, if_pos he]; simpa using hb⟩, by omega⟩
        · simp (disch := omega) [t2, t3, t8, d0, d1, l0, l1, f0, f1]
          refine append_trip (h := h1) (pos_of hp G) (by have := dpre_len a b k; omega) hg hb fun v' h'' g1 b1 _ => ?_
          simp (disch := omega) [t2, t3, t8, wrap64]
          exact ⟨k + 1, ⟨by omega, g1, by omega, by rw [dpre_succ, if_neg he]; exact b1⟩, by omega⟩
      · have : k = a.length := by omega
        subst this
        have hvo := hb.trips (by have := dpre_len a b a.length; rw [maxLen_eq]; omega) (dpre_64 hx0 hx1 hs0)
        obtain ⟨bb, zz, e, _⟩ := hvo.trips
        have hlo := hvo.wide (lo' := h.length) (hi' := h'.length) G.le (Nat.le_refl _)
        rw [e] at hlo
        simp (disch := omega) [t2, t3, t8, e]
        exact ⟨G.trans hg, hlo, hsz⟩

theorem c79 (h : Heap) (hp : 0 < h.length) (v0 : Value) (X0 : Pan) (hv0 : Vr h shPanel v0 X0) (hs0 : siz shPanel X0 ≤ 1048576) (v1 : Value) (X1 : Pan) (hv1 : Vr h shPanel v1 X1) (hs1 : siz shPanel X1 ≤ 1048576) :
    ACall Gam 79 [v0, v1] h fun r h' => Grows h h' ∧ ∃ r0, r = .tuple #[r0, I (diffAns X0 X1).2] ∧ Vo h' h.length h'.length shTrips r0 (diffAns X0 X1).1 ∧ siz shTrips (diffAns X0 X1).1 ≤ 16777216 := by
  obtain ⟨W0, H0, a⟩ := X0
  obtain ⟨W1, H1, b⟩ := X1
  rw [siz_panel] at hs0 hs1
  have hsz := diff_siz (W0, H0, a) (W1, H1, b) hs0
  have hv0' := hv0
  have hv1' := hv1
  obtain ⟨s0, rfl, w0, x0, hr0⟩ := hv0.panel
  obtain ⟨s1, rfl, w1, x1, hr1⟩ := hv1.panel
  refine ACall_intro g79 rfl ?_
  unfold fn79
  simp (disch := omega)
  refine callW_of (c140 _ _ h hv0') ?_
  rintro _ h1 ⟨rfl, rfl⟩
  cases q0 : okP (W0, H0, a)
  · have eD : diffAns (W0, H0, a) (W1, H1, b) = ([], 1) := by simp [diffAns, q0]
    rw [eD] at hsz ⊢
    simp
    exact ⟨Grows.refl _, Vo.no_trips, hsz⟩
  · simp (disch := omega)
    refine callW_of (c140 _ _ h1 hv1') ?_
    rintro _ h1 ⟨rfl, rfl⟩
    cases q1 : okP (W1, H1, b)
    · have eD : diffAns (W0, H0, a) (W1, H1, b) = ([], 1) := by simp [diffAns, q1]
      rw [eD] at hsz ⊢
      simp
      exact ⟨Grows.refl _, Vo.no_trips, hsz⟩
    · simp (disch := omega)
      refine callW_of (c186 h1 _ _ _ _ hv0' hv1') ?_
      rintro _ h1 ⟨rfl, rfl⟩
      cases q2 : sameSz (W0, H0, a) (W1, H1, b)
      · have eD : diffAns (W0, H0, a) (W1, H1, b) = ([], 6) := by simp [diffAns, q0, q1, q2]
        rw [eD] at hsz ⊢
        simp
        exact ⟨Grows.refl _, Vo.no_trips, hsz⟩
      · have eD : diffAns (W0, H0, a) (W1, H1, b) = (dpre a b a.length, 0) := by simp [diffAns, q0, q1, q2]
        have ok0 := okP_iff.1 q0
        have ok1 := okP_iff.1 q1
        have hll : a.length = b.length := same_len ok0 ok1 q2
        rw [eD] at hsz ⊢
        obtain ⟨b0, o0, z0, rfl, _, hm0, hx0, hc0⟩ := hr0.ints
        obtain ⟨b1, o1, z1, rfl, _, hm1, hx1, hc1⟩ := hr1.ints
        simp (disch := omega)
        refine awp_loop (fun k σ h' => k ≤ a.length ∧ Grows h1 h' ∧ σ 3 = .agg #[I W1, I H1, sl b1 o1 b.length z1] ∧ σ 23 = sl b0 o0 a.length z0 ∧ σ 24 = I a.length ∧ σ 25 = I k ∧ Buf h1 h' (σ 6) 3 (trips (dpre a b k))) (fun k => a.length - k) 0 ?_ ?_
        · exact ⟨by omega, Grows.refl _, by simp, by simp, by simp, by simp, by simp [dpre, trips_nil]; exact Buf.nil⟩
        · rintro k σ h' ⟨hk, hg, t3, t23, t24, t25, hb⟩
          simp (disch := omega) [t24, t25]
          refine fork_dec (fun hlt => ?_) (fun hge => ?_)
          · have l0 : k < a.length := by omega
            have l1 : k < b.length := by omega
            have f0 := ints_cell (hc0.imp id (grows_cellsAt hg)) l0
            have f1 := ints_cell (hc1.imp id (grows_cellsAt hg)) l1
            rw [← at0_of l0] at f0
            rw [← at0_of l1] at f1
            simp (disch := omega) [t3, t23, t24, t25, l0, l1, f0, f1]
            refine fork_dec (fun he => ?_) (fun he => ?_)
            · simp (disch := omega) [t3, t23, t24, t25, wrap64]
              exact ⟨k + 1, ⟨by omega, hg, by omega, by rw [dpre_succ, if_pos he]; simpa using hb⟩, by omega⟩
            · simp (disch := omega) [t3, t23, t24, t25, l0, l1, f0, f1]
              refine append_trip (h := h1) hp (by have := dpre_len a b k; omega) hg hb fun v' h'' g1 b1 _ => ?_
              simp (disch := omega) [t3, t23, t24, t25, wrap64]
              exact ⟨k + 1, ⟨by omega, g1, by omega, by rw [dpre_succ, if_neg he]; exact b1⟩, by omega⟩
          · have : k = a.length := by omega
            subst this
            have hvo := hb.trips (by have := dpre_len a b a.length; rw [maxLen_eq]; omega) (dpre_64 hx0 hx1 hs0)
            obtain ⟨bb, zz, e, _⟩ := hvo.trips
            rw [e] at hvo
            simp (disch := omega) [t3, t23, t24, t25, e]
            exact ⟨hg, hvo, hsz⟩
end Am

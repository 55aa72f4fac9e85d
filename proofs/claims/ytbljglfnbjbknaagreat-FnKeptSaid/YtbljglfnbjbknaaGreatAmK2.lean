/- Contracts: AmP4, AmP7, AmP8, AmP2, AmP5, AmP6, AmP9, AmP10, AmP11, AmP12, AmP13, AmP14, AmP16, AmD1, AmD2, AmD3, AmJ1, AmJ2, AmJ3, AmJ4, AmJ5, AmJ6, AmJ7. -/
import Derived.Test.YtbljglfnbjbknaaGreatAmK1
set_option linter.unusedVariables false
set_option linter.unusedSimpArgs false
set_option maxHeartbeats 4000000
set_option maxRecDepth 40000
namespace Am
open Go
theorem Vo.no_ints {h : Heap} {lo hi : Nat} : Vo h lo hi shInts (sl 0 0 0 0) ([] : List Int) := Vo.of_ints (X := []) (.inr ⟨rfl, rfl⟩) (by simp) (by simp) (.inl rfl)
theorem take_ne {α : Type} {X Y : List α} {k : Nat} (h1 : k < X.length) (h2 : k < Y.length) (hne : ¬ X[k] = Y[k]) : ¬ X = Y := fun e => by subst e; exact hne rfl
theorem c436 (h : Heap) (v w : Value) (X Y : List Int) (hv : Vr h shInts v X) (hw : Vr h shInts w Y) : ACall Gam 436 [v, w] h fun r h' => r = B (decide (X = Y)) ∧ h' = h := by
 obtain ⟨b1, o1, z1, rfl, _, hm1, _, hc1⟩ := hv.ints
 obtain ⟨b2, o2, z2, rfl, _, hm2, _, hc2⟩ := hw.ints
 rw [maxLen_eq] at hm1 hm2
 refine ACall_intro g436 rfl ?_
 unfold fn436
 simp (disch := omega)
 refine fork_dec (fun heq => ?_) (fun hne => ?_)
 ·simp (disch := omega)
  refine awp_loop (fun k σ h' => h' = h ∧ k ≤ X.length ∧ X.take k = Y.take k ∧ σ 0 = sl b1 o1 X.length z1 ∧ σ 1 = sl b2 o2 Y.length z2 ∧ σ 5 = I k) (fun k => X.length - k) 0 ?_ ?_
  ·simp
  ·rintro k σ h' ⟨rfl, hk, ht, h0, h1, h5⟩
   simp (disch := omega) [h0, h1, h5]
   refine fork_dec (fun hlt => ?_) (fun hge => ?_)
   ·have k1 : k < X.length := by omega
    have k2 : k < Y.length := by omega
    simp (disch := omega) [h0, h1, h5, ints_cell hc1 k1, ints_cell hc2 k2, k1, k2]
    refine fork_dec (fun he => ?_) (fun he => ?_)
    ·simp (disch := omega) [h0, h1, h5]
     refine ⟨k + 1, ⟨by omega, ?_, ?_⟩, by omega⟩
     ·rw [List.take_succ_eq_append_getElem k1, List.take_succ_eq_append_getElem k2, ht, he]
     ·rw [wrap64 (by omega) (by omega)]; simp
    ·simp (disch := omega) [h0, h1, h5]
     exact take_ne k1 k2 he
   ·simp (disch := omega) [h0, h1, h5]
    have q1 : k = X.length := by omega
    have q2 : X.length = Y.length := by omega
    subst q1
    rw [List.take_length, q2, List.take_length] at ht
    exact ht
 ·simp (disch := omega)
  intro e; apply hne; rw [e]
theorem c314 (h : Heap) (v w : Value) (X Y : List Int) (hv : Vr h shInts v X) (hw : Vr h shInts w Y) : ACall Gam 314 [v, w] h fun r h' => r = B (decide (X = Y)) ∧ h' = h := by
 obtain ⟨b1, o1, z1, rfl, _, hm1, _, hc1⟩ := hv.ints
 obtain ⟨b2, o2, z2, rfl, _, hm2, _, hc2⟩ := hw.ints
 rw [maxLen_eq] at hm1 hm2
 refine ACall_intro g314 rfl ?_
 unfold fn314
 simp (disch := omega)
 refine fork_dec (fun heq => ?_) (fun hne => ?_)
 ·simp (disch := omega)
  refine awp_loop (fun k σ h' => h' = h ∧ k ≤ X.length ∧ X.take k = Y.take k ∧ σ 0 = sl b1 o1 X.length z1 ∧ σ 1 = sl b2 o2 Y.length z2 ∧ σ 12 = I X.length ∧ σ 13 = I k) (fun k => X.length - k) 0 ?_ ?_
  ·simp
  ·rintro k σ h' ⟨rfl, hk, ht, h0, h1, h12, h13⟩
   simp (disch := omega) [h0, h1, h12, h13]
   refine fork_dec (fun hlt => ?_) (fun hge => ?_)
   ·have k1 : k < X.length := by omega
    have k2 : k < Y.length := by omega
    simp (disch := omega) [h0, h1, h12, h13, ints_cell hc1 k1, ints_cell hc2 k2, k1, k2]
    refine fork_dec (fun he => ?_) (fun he => ?_)
    ·simp (disch := omega) [h0, h1, h12, h13]
     refine ⟨k + 1, ⟨by omega, ?_, ?_⟩, by omega⟩
     ·rw [List.take_succ_eq_append_getElem k1, List.take_succ_eq_append_getElem k2, ht, he]
     ·rw [wrap64 (by omega) (by omega)]; simp
    ·simp (disch := omega) [h0, h1, h12, h13]
     exact take_ne k1 k2 he
   ·simp (disch := omega) [h0, h1, h12, h13]
    have q1 : k = X.length := by omega
    have q2 : X.length = Y.length := by omega
    subst q1
    rw [List.take_length, q2, List.take_length] at ht
    exact ht
 ·simp (disch := omega)
  intro e; apply hne; rw [e]
def samP (X Y : Pan) : Bool := decide (X = Y)
theorem samP_mk (W H W2 H2 : Int) (br br2 : List Int) : samP (W, H, br) (W2, H2, br2) = (decide (W = W2) && (decide (H = H2) && decide (br = br2))) := by
 simp only [samP, Prod.mk.injEq, Bool.decide_and]
theorem c456 (h : Heap) (v w : Value) (X Y : Pan) (hv : PtP h v X) (hw : PtP h w Y) : ACall Gam 456 [v, w] h fun r h' => r = B (samP X Y) ∧ h' = h := by
 obtain ⟨W, H, br⟩ := X
 obtain ⟨W2, H2, br2⟩ := Y
 obtain ⟨b, o, s, rfl, x1, x2, x3, hs, _⟩ := hv
 obtain ⟨b', o', s', rfl, y1, y2, y3, hs', _⟩ := hw
 rw [samP_mk]
 refine ACall_intro g456 rfl ?_
 unfold fn456
 simp (disch := omega) [x1, x2, x3, y1, y2, y3]
 refine fork_dec (fun e1 => ?_) (fun e1 => ?_)
 ·simp (disch := omega) [x1, x2, x3, y1, y2, y3, e1]
  refine fork_dec (fun e2 => ?_) (fun e2 => ?_)
  ·simp (disch := omega) [x1, x2, x3, y1, y2, y3, e1, e2]
   refine callW_of (c436 h _ _ br br2 hs hs') ?_
   rintro _ h' ⟨rfl, rfl⟩
   simp [e1, e2]
  ·simp (disch := omega) [x1, x2, x3, y1, y2, y3, e1, e2]
 ·simp (disch := omega) [x1, x2, x3, y1, y2, y3, e1]
theorem c130 (h : Heap) (v w : Value) (X Y : Pan) (hv : Vr h shPanel v X) (hw : Vr h shPanel w Y) : ACall Gam 130 [v, w] h fun r h' => r = B (samP X Y) ∧ h' = h := by
 obtain ⟨W, H, br⟩ := X
 obtain ⟨W2, H2, br2⟩ := Y
 obtain ⟨s, rfl, _, _, hs⟩ := hv.panel
 obtain ⟨s', rfl, _, _, hs'⟩ := hw.panel
 rw [samP_mk]
 refine ACall_intro g130 rfl ?_
 unfold fn130
 simp (disch := omega)
 refine fork_dec (fun e1 => ?_) (fun e1 => ?_)
 ·simp (disch := omega) [e1]
  refine fork_dec (fun e2 => ?_) (fun e2 => ?_)
  ·simp (disch := omega) [e1, e2]
   refine callW_of (c314 h _ _ br br2 hs hs') ?_
   rintro _ h' ⟨rfl, rfl⟩
   simp [e1, e2]
  ·simp (disch := omega) [e1, e2]
 ·simp (disch := omega) [e1]
def samK (X Y : List Kpt) : Bool := decide (X = Y)
theorem kpt_eq (x y : Kpt) : x = y ↔ x.1 = y.1 ∧ samP x.2 y.2 = true := by
 obtain ⟨a, b⟩ := x
 obtain ⟨c, d⟩ := y
 simp [samP]
theorem c419 (h : Heap) (hp : 0 < h.length) (v0 : Value) (X0 : List Kpt) (hv0 : Vr h shKepts v0 X0) (hs0 : siz shKepts X0 ≤ 1048576) (v1 : Value) (X1 : List Kpt) (hv1 : Vr h shKepts v1 X1) (hs1 : siz shKepts X1 ≤ 1048576) :
  ACall Gam 419 [v0, v1] h fun r h' => Grows h h' ∧ r = B (samK X0 X1) := by
 obtain ⟨b1, o1, z1, rfl, hm1, hc1⟩ := kepts_at hv0
 obtain ⟨b2, o2, z2, rfl, hm2, hc2⟩ := kepts_at hv1
 rw [maxLen_eq] at hm1 hm2
 have cel : ∀ {b o : Nat} {x y z w : Value}, cellsAt h b o 4 = some [x, y, z, w] → cell h b o = some x ∧ cell h b (o + 1) = some y ∧ cell h b (o + 1 + 1) = some z ∧ cell h b (o + 1 + 2) = some w := by
  intro b o x y z w hh
  exact ⟨by have := (cell_in (i := 0) hh (by omega)).1; simpa using this, by have := (cell_in (i := 1) hh (by omega)).1; simpa using this, by have := (cell_in (i := 2) hh (by omega)).1; simpa [Nat.add_assoc] using this, by have := (cell_in (i := 3) hh (by omega)).1; simpa [Nat.add_assoc] using this⟩
 refine ACall_intro g419 rfl ?_
 unfold fn419
 simp (disch := omega)
 refine fork_dec (fun heq => ?_) (fun hne => ?_)
 ·simp (disch := omega)
  refine awp_loop (fun k σ h' => h' = h ∧ k ≤ X0.length ∧ X0.take k = X1.take k ∧ σ 0 = sl b1 o1 X0.length z1 ∧ σ 1 = sl b2 o2 X1.length z2 ∧ σ 5 = I k) (fun k => X0.length - k) 0 ?_ ?_
  ·simp
  ·rintro k σ h' ⟨rfl, hk, ht, h0, h1, h5⟩
   simp (disch := omega) [h0, h1, h5]
   refine fork_dec (fun hlt => ?_) (fun hge => ?_)
   ·have k1 : k < X0.length := by omega
    have k2 : k < X1.length := by omega
    obtain ⟨s, c1, r1, vk1⟩ := hc1 k k1
    obtain ⟨s', c2, r2, vk2⟩ := hc2 k k2
    obtain ⟨a1, a2, a3, a4⟩ := cel c1
    obtain ⟨d1, d2, d3, d4⟩ := cel c2
    obtain ⟨_, _, _, w1, x1, _⟩ := vk1.kept
    obtain ⟨_, _, _, w2, x2, _⟩ := vk2.kept
    simp (disch := omega) [h0, h1, h5, a1, d1, k1, k2]
    refine fork_dec (fun he => ?_) (fun he => ?_)
    ·simp (disch := omega) [h0, h1, h5, k1, k2, he]
     refine callW_of (c456 h' _ _ X0[k].2 X1[k].2 ⟨b1, o1 + k * 4 + 1, s, rfl, a2, a3, a4, r1, w1, x1⟩ ⟨b2, o2 + k * 4 + 1, s', rfl, d2, d3, d4, r2, w2, x2⟩) ?_
     rintro _ h' ⟨rfl, rfl⟩
     cases q : samP X0[k].2 X1[k].2
     ·simp (disch := omega) [h0, h1, h5, he]
      refine ⟨Grows.refl _, ?_⟩
      have := take_ne (X := X0) (Y := X1) k1 k2 (fun e => by rw [kpt_eq, q] at e; simp at e)
      simp [samK, this]
     ·simp (disch := omega) [h0, h1, h5, he]
      refine ⟨k + 1, ⟨by omega, ?_, ?_⟩, by omega⟩
      ·rw [List.take_succ_eq_append_getElem k1, List.take_succ_eq_append_getElem k2, ht, (kpt_eq _ _).2 ⟨he, q⟩]
      ·rw [wrap64 (by omega) (by omega)]; simp
    ·simp (disch := omega) [h0, h1, h5, he]
     refine ⟨Grows.refl _, ?_⟩
     have := take_ne (X := X0) (Y := X1) k1 k2 (fun e => he ((kpt_eq _ _).1 e).1)
     simp [samK, this]
   ·simp (disch := omega) [h0, h1, h5]
    have q1 : k = X0.length := by omega
    have q2 : X0.length = X1.length := by omega
    subst q1
    rw [List.take_length, q2, List.take_length] at ht
    exact ⟨Grows.refl _, by simp [samK, ht]⟩
 ·simp (disch := omega)
  refine ⟨Grows.refl _, ?_⟩
  have : ¬ X0 = X1 := by intro e; apply hne; rw [e]
  simp [samK, this]
theorem Vo.no_panel {h : Heap} {lo hi : Nat} : Vo h lo hi shPanel (.agg #[I 0, I 0, sl 0 0 0 0]) ((0, 0, []) : Pan) := Vo.of_panel (by unfold I64; omega) (by unfold I64; omega) Vo.no_ints
theorem Vo.zero_panel {h : Heap} {lo hi : Nat} : Vo h lo hi shPanel (.agg #[I 0, I 0, sl 0 0 0 0]) ((0, 0, []) : Pan) := Vo.of_panel (by unfold I64; omega) (by unfold I64; omega) (Vo.of_ints (X := []) (.inr ⟨rfl, rfl⟩) (by simp) (by simp) (.inl rfl))
theorem store_box {h : Heap} {cs xs : List Value} (hl : xs.length = cs.length) : storeAt (h ++ [⟨cs, true⟩]) h.length 0 xs = some (h ++ [⟨xs, true⟩]) := by
 unfold storeAt
 simp [hl]
theorem PtP.at {h : Heap} {b : Nat} {W H : Int} {s : Value} {br : List Int} {r : Bool} (hb : h[b]? = some ⟨[I W, I H, s], r⟩) (hs : Vr h shInts s br) (hW : I64 W) (hH : I64 H) : PtP h (pt b 0) (W, H, br) :=
 ⟨b, 0, s, rfl, by simp [Am.cell, hb], by simp [Am.cell, hb], by simp [Am.cell, hb], hs, hW, hH⟩
/-- How many inner points lie above row y. -/
def rowN (W : Nat) : Nat → Nat
 | 0 => 0
 | y + 1 => rowN W y + if y = 0 then 0 else W - y % 2
theorem rowN_succ {W y : Nat} (h : 1 ≤ y) : rowN W (y + 1) = rowN W y + (W - y % 2) := by
 simp only [rowN]; rw [if_neg (by omega)]
theorem rowN_mono {W : Nat} : ∀ {y z : Nat}, y ≤ z → rowN W y ≤ rowN W z := by
  intro y z h
  induction z with
  | zero => have : y = 0 := by omega
            subst this; exact Nat.le_refl _
  | succ z ih =>
    by_cases e : y = z + 1
    · subst e; exact Nat.le_refl _
    · have := ih (by omega)
      simp only [rowN]; omega
theorem rowN_le : ∀ {W : Nat}, W < 9 → ∀ {y : Nat}, y < 17 → rowN W y ≤ 128 := by decide +kernel
theorem rowN_end : ∀ {W : Nat}, W < 9 → ∀ {H : Nat}, H < 9 → 1 ≤ W → 1 ≤ H → (rowN W (2 * H) : Int) = (W : Int) * (H - 1) + H * (W - 1) := by decide +kernel
theorem rowN_form : ∀ {W : Nat}, W < 9 → ∀ {y : Nat}, y < 17 → 1 ≤ W → 1 ≤ y → ((y / 2 : Nat) : Int) * ((W : Int) - 1) + ((y - 1) / 2 : Nat) * (W : Int) = rowN W y := by decide +kernel
/-- The number of a point. -/
def numP (W x y : Nat) : Nat := rowN W y + (x - 1) / 2
structure IsPt (W H k x y : Nat) : Prop where
 y1 : 1 ≤ y
 y2 : y < 2 * H
 lo : rowN W y ≤ k
 hi : k < rowN W (y + 1)
 x : x = 2 * (k - rowN W y) + 1 + y % 2
theorem IsPt.uniq {W H k x y x' y' : Nat} (a : IsPt W H k x y) (b : IsPt W H k x' y') : x = x' ∧ y = y' := by
 have e : y = y' := by
  rcases Nat.lt_trichotomy y y' with h | h | h
  ·have := rowN_mono (W := W) (show y + 1 ≤ y' by omega)
   have := a.hi; have := b.lo; omega
  ·exact h
  ·have := rowN_mono (W := W) (show y' + 1 ≤ y by omega)
   have := b.hi; have := a.lo; omega
 subst e
 exact ⟨by rw [a.x, b.x], rfl⟩
theorem IsPt.bd {W H k x y : Nat} (a : IsPt W H k x y) : 1 ≤ x ∧ x < 2 * W ∧ (x + y) % 2 = 1 := by
 have h1 := a.x; have h2 := a.lo; have h3 := a.hi; have h4 := a.y1
 rw [rowN_succ h4] at h3
 omega
theorem numP_lt {W H x y : Nat} (hx : 1 ≤ x ∧ x < 2 * W) (hy : 1 ≤ y ∧ y < 2 * H) (hp : (x + y) % 2 = 1) : numP W x y < rowN W (2 * H) := by
 have h1 := rowN_mono (W := W) (show y + 1 ≤ 2 * H by omega)
 rw [rowN_succ hy.1] at h1
 unfold numP; omega
theorem c455 (h : Heap) (v : Value) (X : Pan) (W y : Nat) (hv : PtP h v X) (hW : X.1 = W) (w1 : 1 ≤ W) (w8 : W < 9) (hy1 : 1 ≤ y) (hy : y < 17) : ACall Gam 455 [v, I y] h fun r h' => r = I (rowN W y) ∧ h' = h := by
 obtain ⟨b, o, s, rfl, h1, _⟩ := hv
 rw [hW] at h1
 refine ACall_intro g455 rfl ?_
 unfold fn455
 simp (disch := omega)
 refine awp_loop (fun (k : Nat) σ h' => h' = h ∧ 1 ≤ k ∧ k ≤ y ∧ σ 0 = pt b o ∧ σ 1 = I y ∧ σ 5 = I (rowN W k) ∧ σ 6 = I k) (fun k => y - k) 1 ?_ ?_
 ·refine ⟨rfl, Nat.le_refl _, hy1, by simp, by simp, by simp [rowN], by simp⟩
 ·rintro k σ h' ⟨rfl, hk1, hk, q0, q1, q5, q6⟩
  simp (disch := omega) [q1, q6]
  refine fork_dec (fun hlt => ?_) (fun hge => ?_)
  ·have hb := rowN_le w8 (y := k) (by omega)
   have hs := rowN_succ (W := W) hk1
   simp (disch := omega) [q0, q5, q6, h1, wrap64, tmod_pos]
   refine fork_dec (fun ho => ?_) (fun ho => ?_)
   ·simp (disch := omega) [q0, q1, q5, q6, wrap64]
    exact ⟨k + 1, ⟨by omega, by omega, by omega, by omega⟩, by omega⟩
   ·simp (disch := omega) [q0, q1, q5, q6, wrap64]
    exact ⟨k + 1, ⟨by omega, by omega, by omega, by omega⟩, by omega⟩
  ·have : k = y := by omega
   subst this
   simp (disch := omega) [q5]
theorem c451 (h : Heap) (v : Value) (X : Pan) (W x y : Nat) (hv : PtP h v X) (hW : X.1 = W) (w1 : 1 ≤ W) (w8 : W < 9) (hx : 1 ≤ x ∧ x < 17) (hy : 1 ≤ y ∧ y < 17) : ACall Gam 451 [v, .agg #[I x, I y]] h fun r h' => r = I (numP W x y) ∧ h' = h := by
 refine ACall_intro g451 rfl ?_
 unfold fn451
 have hb := rowN_le w8 (y := y) (by omega)
 simp (disch := omega)
 refine callW_of (c455 h v X W y hv hW w1 w8 hy.1 hy.2) ?_
 rintro _ h' ⟨rfl, rfl⟩
 simp (disch := omega) [wrap64, tdiv_pos]
 simp [numP]; omega
theorem c454 (h : Heap) (v : Value) (X : Pan) (W H k : Nat) (hv : PtP h v X) (hW : X.1 = W) (hH : X.2.1 = H) (w1 : 1 ≤ W) (w8 : W < 9) (h1 : 1 ≤ H) (h8 : H < 9) (hk : k < rowN W (2 * H)) : ACall Gam 454 [v, I k] h fun r h' => (∃ x y, IsPt W H k x y ∧ r = .agg #[I x, I y]) ∧ h' = h := by
 have hv0 := hv
 obtain ⟨b, o, s, rfl, _, h2, _⟩ := hv
 rw [hH] at h2
 have hk128 : k < 128 := by have := rowN_le w8 (y := 2 * H) (by omega); omega
 refine ACall_intro g454 rfl ?_
 unfold fn454
 simp (disch := omega)
 refine awp_loop (fun (y : Nat) σ h' => h' = h ∧ 1 ≤ y ∧ y < 2 * H ∧ rowN W y ≤ k ∧ σ 0 = pt b o ∧ σ 1 = I k ∧ σ 4 = .agg #[I 0, I 0] ∧ σ 5 = I y) (fun y => 2 * H - y) 1 ?_ ?_
 ·refine ⟨rfl, by omega, by omega, by simp [rowN], by simp, by simp, by simp, by simp⟩
 ·rintro y σ h' ⟨rfl, hy1, hy2, hlo, q0, q1, q4, q5⟩
  have fin : k < rowN W (y + 1) → ACall Gam 455 [pt b o, I y] h' (fun r h'' => r = I (rowN W y) ∧ h'' = h') ∧ IsPt W H k (2 * (k - rowN W y) + 1 + y % 2) y := fun hhi =>
   ⟨c455 h' _ X W y hv0 hW w1 w8 hy1 (by omega), ⟨hy1, hy2, hlo, hhi, rfl⟩⟩
  simp (disch := omega) [q0, q5, h2, wrap64]
  refine fork_dec (fun hlt => ?_) (fun hge => ?_)
  ·have hlt' : y + 1 < 2 * H := by omega
   simp (disch := omega) [q0, q1, q5, h2, hlt, wrap64]
   have hc := c455 h' _ X W (y + 1) hv0 hW w1 w8 (by omega) (by omega)
   rw [show ((y + 1 : Nat) : Int) = (y : Int) + 1 by omega] at hc
   refine callW_of hc ?_
   rintro _ h' ⟨rfl, rfl⟩
   simp (disch := omega) [q1, hlt]
   refine fork_dec (fun hle => ?_) (fun hle => ?_)
   ·simp (disch := omega) [q0, q1, q4, q5, wrap64]
    exact ⟨y + 1, ⟨by omega, by omega, by omega, by omega⟩, by omega⟩
   ·obtain ⟨f1, f2⟩ := fin (by omega)
    simp (disch := omega) [q0, q1, q4, q5]
    refine callW_of f1 ?_
    rintro _ h' ⟨rfl, rfl⟩
    simp (disch := omega) [q0, q1, q4, q5, wrap64, tmod_pos, resOf_box, aField]
    refine ⟨_, y, f2, ?_, rfl⟩
    omega
  ·have hye : y + 1 = 2 * H := by omega
   obtain ⟨f1, f2⟩ := fin (by rw [hye]; exact hk)
   simp (disch := omega) [q0, q1, q4, q5, hge]
   refine callW_of f1 ?_
   rintro _ h' ⟨rfl, rfl⟩
   simp (disch := omega) [q0, q1, q4, q5, wrap64, tmod_pos, resOf_box, aField]
   refine ⟨_, y, f2, ?_, rfl⟩
   omega
theorem c40v (h : Heap) (W H x y a W1 p y1 b q r c d e : Int) (s : Value) (h1 : IntKind.i64.wrap (y.tdiv 2) = a) (h2 : IntKind.i64.wrap (W - 1) = W1) (h3 : IntKind.i64.wrap (a * W1) = p) (h4 : IntKind.i64.wrap (y - 1) = y1) (h5 : IntKind.i64.wrap (y1.tdiv 2) = b) (h6 : IntKind.i64.wrap (b * W) = q)
  (h7 : IntKind.i64.wrap (p + q) = r) (h8 : IntKind.i64.wrap (x.tdiv 2) = c) (h9 : IntKind.i64.wrap (r + c) = d) (h10 : IntKind.i64.wrap (d - 1) = e) : ACall Gam 40 [.agg #[I W, I H, s], .agg #[I x, I y]] h fun v h' => v = I (if y.tmod 2 = 1 then e else d) ∧ h' = h := by
 refine ACall_intro g40 rfl ?_
 unfold fn40
 simp only []
 rw [awp_seq, awp_reg]
 generalize hK : seqQ Gam _ _ 0 = K
 simp
 subst hK
 simp only [seqQ_zero]
 rw [awp_seq, awp_reg]
 generalize hK : seqQ Gam _ _ 0 = K
 simp [h1, h2, h3, h4, h5, h6, h7]
 subst hK
 simp
 refine fork_dec (fun ho => ?_) (fun ho => ?_)
 ·simp [h8, h9, h10, ho]
 ·simp [h8, h9, h10, ho]
theorem c40 (h : Heap) (W H x y : Nat) (s : Value) (w1 : 1 ≤ W) (w8 : W < 9) (hx : 1 ≤ x ∧ x < 17) (hy : 1 ≤ y ∧ y < 17) (hp : (x + y) % 2 = 1) : ACall Gam 40 [.agg #[I W, I H, s], .agg #[I x, I y]] h fun r h' => r = I (numP W x y) ∧ h' = h := by
 have hb := rowN_le w8 (y := y) (by omega)
 have hf := rowN_form w8 (y := y) (by omega) w1 hy.1
 have e1 : (y : Int) / 2 = ((y / 2 : Nat) : Int) := by omega
 have e2 : ((y : Int) - 1) / 2 = (((y - 1) / 2 : Nat) : Int) := by omega
 have hf' : (y : Int) / 2 * ((W : Int) - 1) + ((y : Int) - 1) / 2 * (W : Int) = rowN W y := by rw [e1, e2]; exact hf
 have b1 : 0 ≤ (y : Int) / 2 * ((W : Int) - 1) := Int.mul_nonneg (by omega) (by omega)
 have b2 : 0 ≤ ((y : Int) - 1) / 2 * (W : Int) := Int.mul_nonneg (by omega) (by omega)
 have hrow : (rowN W y : Int) ≤ 128 := by omega
 have u0 : IntKind.i64.wrap ((W : Int) - 1) = (W : Int) - 1 := wrap64 (by omega) (by omega)
 have u1 : IntKind.i64.wrap ((y : Int) - 1) = (y : Int) - 1 := wrap64 (by omega) (by omega)
 have u2 : IntKind.i64.wrap ((y : Int) / 2) = (y : Int) / 2 := wrap64 (by omega) (by omega)
 have u3 : IntKind.i64.wrap (((y : Int) - 1) / 2) = ((y : Int) - 1) / 2 := wrap64 (by omega) (by omega)
 have u4 : IntKind.i64.wrap ((x : Int) / 2) = (x : Int) / 2 := wrap64 (by omega) (by omega)
 have u5 : IntKind.i64.wrap (IntKind.i64.wrap ((y : Int) / 2 * ((W : Int) - 1)) + IntKind.i64.wrap (((y : Int) - 1) / 2 * (W : Int))) = rowN W y := by
  rw [wrap64 (n := (y : Int) / 2 * ((W : Int) - 1)) (by omega) (by omega), wrap64 (n := ((y : Int) - 1) / 2 * (W : Int)) (by omega) (by omega), hf', wrap64 (by omega) (by omega)]
 have t1 : (y : Int).tdiv 2 = (y : Int) / 2 := tdiv_pos (by omega)
 have t2 : ((y : Int) - 1).tdiv 2 = ((y : Int) - 1) / 2 := tdiv_pos (by omega)
 have t3 : (x : Int).tdiv 2 = (x : Int) / 2 := tdiv_pos (by omega)
 have t4 : (y : Int).tmod 2 = (y : Int) % 2 := tmod_pos (by omega)
 refine (c40v h W H x y _ _ _ _ _ _ _ _ _ _ s rfl rfl rfl rfl rfl rfl rfl rfl rfl rfl).mono ?_
 rintro r h' ⟨rfl, rfl⟩
 rw [t1, t3, t4, u2, u0, u1, t2, u3, u5, u4]
 refine ⟨?_, rfl⟩
 split
 ·rw [wrap64 (n := (rowN W y : Int) + (x : Int) / 2) (by omega) (by omega), wrap64 (by omega) (by omega)]
  simp [numP]; omega
 ·rw [wrap64 (by omega) (by omega)]
  simp [numP]; omega
def pairV (p : Nat × Nat) : List Value := [I p.1, I p.2]
def pairsV (l : List (Nat × Nat)) : List Value := (l.map pairV).flatten
theorem pairsV_append (a b : List (Nat × Nat)) : pairsV (a ++ b) = pairsV a ++ pairsV b := by simp [pairsV]
theorem pairsV_len : ∀ l : List (Nat × Nat), (pairsV l).length = 2 * l.length
 | [] => rfl
 | a :: l => by
  have := pairsV_len l
  simp only [pairsV, List.map_cons, List.flatten_cons, List.length_append, List.length_cons] at this ⊢
  simp only [pairV, List.length_cons, List.length_nil] at this ⊢
  omega
theorem append_pair {h h' : Heap} {v : Value} {l : List (Nat × Nat)} {x y : Nat} {K : Value → Heap → Prop} (hp : 0 < h.length) (hl : l.length ≤ 1048576) (hg : Grows h h') (hv : Buf h h' v 2 (pairsV l))
  (hK : ∀ v' h'', Grows h h'' → Buf h h'' v' 2 (pairsV (l ++ [(x, y)])) → K v' h'') :
  bindW (aBuildSlice 2 1 h' [(0, .agg #[I 0, I 0]), (2, .agg #[I x, I y])]) fun y h'' => bindW (aAppend 2 h'' y v) K := by
 have e : aBuildSlice 2 1 h' [(0, .agg #[I 0, I 0]), (2, .agg #[I x, I y])] = some (sl h'.length 0 1 2, h' ++ [⟨[I x, I y], true⟩]) := by simp [aBuildSlice]
 rw [e]
 simp only [bindW_some]
 refine append_buf hp (hg.push _) (hv.grow ⟨_, rfl⟩) (new := [I x, I y]) ?_ (by omega) (by simp) (by simp) (by rw [pairsV_len]; simp [maxSize]; omega) ?_
 ·simp [newCells]
  rw [cellsAt_of (k := ⟨[I x, I y], true⟩) (by simp) (by simp)]
  simp
 ·intro v' h'' g1 b1 k1
  refine hK v' h'' g1 (by rw [pairsV_append]; exact b1)
theorem pairs_get : ∀ (l : List (Nat × Nat)) (k : Nat) (hk : k < l.length), ((pairsV l).drop (k * 2)).take 2 = pairV l[k]
 | a :: l, 0, _ => by simp [pairsV, pairV]
 | a :: l, k + 1, hk => by
  have := pairs_get l k (by simpa using hk)
  simp only [pairsV, List.map_cons, List.flatten_cons] at this ⊢
  rw [List.drop_append, List.drop_eq_nil_of_le (by simp [pairV]; omega)]
  simp only [pairV, List.length_cons, List.length_nil, List.nil_append] at this ⊢
  rw [show (k + 1) * 2 - (0 + 1 + 1) = k * 2 by omega]
  simpa using this
/-- The first m points, in order. -/
def PtsOk (W H : Nat) (l : List (Nat × Nat)) : Prop := ∀ k (hk : k < l.length), IsPt W H k l[k].1 l[k].2
theorem c49 (h : Heap) (W H : Nat) (s : Value) (hp : 0 < h.length) (w1 : 1 ≤ W) (w8 : W < 9) (h1 : 1 ≤ H) (h8 : H < 9) : ACall Gam 49 [.agg #[I W, I H, s]] h fun r h' => Grows h h' ∧ ∃ l, PtsOk W H l ∧ l.length = rowN W (2 * H) ∧ Buf h h' r 2 (pairsV l) := by
 refine ACall_intro g49 rfl ?_
 unfold fn49
 simp (disch := omega)
 refine awp_loop (fun (y : Nat) σ h' => 1 ≤ y ∧ y ≤ 2 * H ∧ Grows h h' ∧ σ 1 = .agg #[I W, I H, s] ∧ σ 4 = I y ∧ ∃ l, PtsOk W H l ∧ l.length = rowN W y ∧ Buf h h' (σ 3) 2 (pairsV l)) (fun y => 2 * H - y) 1 ?_ ?_
 ·exact ⟨by omega, by omega, Grows.refl _, by simp, by simp, [], fun k hk => by simp at hk, by simp [rowN], by simp [pairsV]; exact Buf.nil⟩
 ·rintro y σ h' ⟨hy1, hy2, hg, q1, q4, l, hl, hll, hb⟩
  simp (disch := omega) [q1, q4, wrap64]
  refine fork_dec (fun hlt => ?_) (fun hge => ?_)
  ·have hy : y < 2 * H := by omega
   have hrs := rowN_succ (W := W) hy1
   have hrb := rowN_le w8 (y := y + 1) (by omega)
   simp (disch := omega) [q1, q4, wrap64, tmod_pos]
   refine awp_loop (fun (j : Nat) σ' h'' => j ≤ W - y % 2 ∧ Grows h h'' ∧ σ' 1 = .agg #[I W, I H, s] ∧ σ' 4 = I y ∧ σ' 5 = I ((1 + y % 2 + 2 * j : Nat) : Int) ∧ ∃ l, PtsOk W H l ∧ l.length = rowN W y + j ∧ Buf h h'' (σ' 3) 2 (pairsV l)) (fun j => W - y % 2 - j) 0 ?_ ?_
   ·refine ⟨by omega, hg, by simp [q1], by simp [q4], by simp, l, hl, hll, by simpa using hb⟩
   ·rintro j σ' h'' ⟨hj, hg', r1, r4, r5, l, hl, hll, hb⟩
    simp (disch := omega) [r1, r5, wrap64]
    refine fork_dec (fun hlt2 => ?_) (fun hge2 => ?_)
    ·have hj2 : j < W - y % 2 := by omega
     obtain ⟨x, hx⟩ : ∃ x, x = 1 + y % 2 + 2 * j := ⟨_, rfl⟩
     rw [← hx] at r5
     simp (disch := omega) [r1, r4, r5]
     refine append_pair (x := x) (y := y) hp (by omega) hg' hb fun v' h3 g3 b3 => ?_
     simp (disch := omega) [r1, r4, r5, wrap64]
     refine ⟨j + 1, ⟨by omega, g3, by omega, l ++ [(x, y)], ?_, by simp [hll]; omega, b3⟩, by omega⟩
     intro k hk
     simp at hk
     by_cases e : k < l.length
     ·rw [List.getElem_append_left e]; exact hl k e
     ·have : k = l.length := by omega
      subst this
      simp
      refine ⟨hy1, hy, by omega, ?_, by omega⟩
      rw [hrs]; omega
    ·have : j = W - y % 2 := by omega
     simp (disch := omega) [r1, r4, wrap64]
     exact ⟨y + 1, ⟨by omega, by omega, hg', by omega, l, hl, by omega, hb⟩, by omega⟩
  ·have : y = 2 * H := by omega
   subst this
   have hb' := hb
   rcases hb with ⟨e1, e2⟩ | ⟨b, n, e2, _⟩
   ·simp (disch := omega) [e2]
    rw [e2] at hb'
    exact ⟨hg, l, hl, hll, hb'⟩
   ·simp (disch := omega) [e2]
    rw [e2] at hb'
    exact ⟨hg, l, hl, hll, hb'⟩
open Classical in
/-- The inner point with a number. -/
noncomputable def thePt (W H k : Nat) : Nat × Nat := if e : ∃ p : Nat × Nat, IsPt W H k p.1 p.2 then Classical.choose e else (0, 0)
theorem thePt_eq {W H k x y : Nat} (h : IsPt W H k x y) : thePt W H k = (x, y) := by
 have e : ∃ p : Nat × Nat, IsPt W H k p.1 p.2 := ⟨(x, y), h⟩
 unfold thePt
 rw [dif_pos e]
 have := (Classical.choose_spec e).uniq h
 exact Prod.ext this.1 this.2
theorem inner_row {w h : Nat} (w1 : 1 ≤ w) (w8 : w < 9) (h1 : 1 ≤ h) (h8 : h < 9) : (inner (w : Int) (h : Int)).toNat = rowN w (2 * h) := by
 have := rowN_end w8 h8 w1 h1
 unfold inner
 rw [← this]; simp
theorem at0_rng {br : List Int} (hb : ∀ x ∈ br, 0 ≤ x ∧ x ≤ 2) (i : Nat) : 0 ≤ at0 br i ∧ at0 br i ≤ 2 := by
 unfold at0
 rw [List.getD_eq_getElem?_getD]
 by_cases h : i < br.length
 ·rw [List.getElem?_eq_getElem h]
  exact hb _ (List.getElem_mem h)
 ·rw [List.getElem?_eq_none (by omega)]; simp
theorem numP_pt {W H x y : Nat} (hx : 1 ≤ x ∧ x < 2 * W) (hy : 1 ≤ y ∧ y < 2 * H) (hp : (x + y) % 2 = 1) : IsPt W H (numP W x y) x y := by
 have := rowN_succ (W := W) hy.1
 refine ⟨hy.1, hy.2, by unfold numP; omega, ?_, by unfold numP; omega⟩
 rw [this]; unfold numP; omega
theorem IsPt.num {W H k x y : Nat} (a : IsPt W H k x y) : numP W x y = k := by
 have h1 := a.x; have h2 := a.lo; have h3 := a.hi; have h4 := a.y1
 unfold numP; omega
theorem IsPt.ex {W H k : Nat} (w1 : 1 ≤ W) (h1 : 1 ≤ H) (hk : k < rowN W (2 * H)) : ∃ x y, IsPt W H k x y := by
 have key : ∀ m, k < rowN W (m + 1) → ∃ y, 1 ≤ y ∧ y ≤ m ∧ rowN W y ≤ k ∧ k < rowN W (y + 1) := by
  intro m
  induction m with
  | zero => intro h; simp [rowN] at h
  | succ m ih =>
   intro h
   by_cases e : k < rowN W (m + 1)
   ·obtain ⟨y, a, b, c, d⟩ := ih e
    exact ⟨y, a, by omega, c, d⟩
   ·exact ⟨m + 1, by omega, by omega, by omega, h⟩
 obtain ⟨y, a, b, c, d⟩ := key (2 * H - 1) (by rw [show 2 * H - 1 + 1 = 2 * H by omega]; exact hk)
 exact ⟨_, y, ⟨a, by omega, c, d, rfl⟩⟩
/-- The digits of a number; none for 0. -/
def decN (n : Nat) : List UInt8 := if h : n = 0 then [] else decN (n / 10) ++ [UInt8.ofNat (48 + n % 10)]
termination_by n
decreasing_by omega
theorem decN_zero : decN 0 = [] := by unfold decN; simp
theorem decN_pos {n : Nat} (h : n ≠ 0) : decN n = decN (n / 10) ++ [UInt8.ofNat (48 + n % 10)] := by
 rw [decN]; rw [dif_neg h]
theorem decN_len (k : Nat) : ∀ n, n < 10 ^ k → (decN n).length ≤ k := by
  induction k with
  | zero => intro n hn; have : n = 0 := by simpa using hn
            subst this; simp [decN_zero]
  | succ k ih =>
    intro n hn
    by_cases h0 : n = 0
    · subst h0; simp [decN_zero]
    · rw [decN_pos h0]
      have := ih (n / 10) (by rw [Nat.pow_succ] at hn; omega)
      simp; omega
theorem decN_pos_len {n : Nat} (h : n ≠ 0) : 0 < (decN n).length := by rw [decN_pos h]; simp
def decS (n : Int) : List UInt8 := if n = 0 then [48] else if n < 0 then 45 :: decN n.natAbs else decN n.natAbs
theorem decN_len64 {n : Int} (hn : I64 n) : (decN n.natAbs).length ≤ 19 := by
 unfold I64 at hn
 have e : 10 ^ 19 = 10000000000000000000 := by decide
 exact decN_len 19 _ (by omega)
theorem wrapU {n : Int} (a : 0 ≤ n) (b : n < 18446744073709551616) : IntKind.u64.wrap n = n := wrap_unsigned (M := 18446744073709551616) rfl (by decide) a b
/-- A byte before what there is. -/
theorem push_front {h h' : Heap} {v : Value} {l : List UInt8} {x : Int} {c : UInt8} {K : Value → Heap → Prop} (hp : 0 < h.length) (hl : l.length ≤ 1048576) (hg : Grows h h') (hv : Buf h h' v 1 (bytesV l)) (hx : x = c.toNat)
  (hK : ∀ v' h'', Grows h h'' → Buf h h'' v' 1 (bytesV (c :: l)) → K v' h'') :
  bindW (aBuildSlice 1 1 h' [(0, Value.agg #[U 0]), (1, U x)]) fun y h'' => bindW (aAppend 1 h'' v y) K := by
 subst hx
 have e : aBuildSlice 1 1 h' [(0, Value.agg #[U 0]), (1, U (c.toNat : Int))] = some (sl h'.length 0 1 1, h' ++ [⟨bytesV [c], true⟩]) := by simp [aBuildSlice, bytesV]
 rw [e]
 simp only [bindW_some]
 have hb : Buf h (h' ++ [⟨bytesV [c], true⟩]) (sl h'.length 0 1 1) 1 (bytesV [c]) := .inr ⟨h'.length, 1, rfl, by simp [bytesV], hg.le, by simp⟩
 have hn : newCells 1 (h' ++ [⟨bytesV [c], true⟩]) v = some (bytesV l) := by
  obtain ⟨b, o, n, rfl, hn, hr⟩ := (hv.grow (⟨_, rfl⟩ : Grows h' (h' ++ [⟨bytesV [c], true⟩]))).reads
  by_cases h0 : n = 0
  ·subst h0
   have : l = [] := by simp [bytesV] at hn; simpa using hn.symm
   subst this; simp [newCells, bytesV]
  ·have := hr.resolve_left h0
   simp only [newCells, h0, if_false]
   exact this
 by_cases h0 : l = []
 ·subst h0
  have : aAppend 1 (h' ++ [⟨bytesV [c], true⟩]) v (sl h'.length 0 1 1) = some (sl h'.length 0 1 1, h' ++ [⟨bytesV [c], true⟩]) := by
   simp only [aAppend, hn]
   simp [bytesV]
  rw [this]
  exact hK _ _ (hg.push _) hb
 ·refine append_buf hp (hg.push _) hb hn (by omega) (by simpa [bytesV] using h0) (by simp) (by simp [bytesV, maxSize]; omega) ?_
  intro v' h'' g1 b1 _
  exact hK v' h'' g1 (by simpa [bytesV] using b1)
theorem dig_eq {r : Int} (h : I64 r) : (0 ≤ r → IntKind.u8.wrap (IntKind.i64.wrap (48 + r.tmod 10)) = ((UInt8.ofNat (48 + r.natAbs % 10)).toNat : Int)) ∧ (r < 0 → IntKind.u8.wrap (IntKind.i64.wrap (48 + (0 - r.tmod 10))) = ((UInt8.ofNat (48 + r.natAbs % 10)).toNat : Int)) := by
 unfold I64 at h
 have e : ((UInt8.ofNat (48 + r.natAbs % 10)).toNat : Int) = 48 + (r.natAbs : Int) % 10 := by
  rw [UInt8.toNat_ofNat']
  omega
 rw [e]
 constructor
 ·intro h0
  rw [tmod_pos h0, wrap64 (by omega) (by omega), wrap8 (by omega) (by omega)]
  omega
 ·intro h0
  have : r.tmod 10 = -((r.natAbs : Int) % 10) := by
   have e : r = -(r.natAbs : Int) := by omega
   rw [e, Int.neg_tmod, tmod_pos (by omega)]
   omega
  rw [this, wrap64 (by omega) (by omega), wrap8 (by omega) (by omega)]
  omega
theorem quo_eq {r : Int} : (r.tdiv 10).natAbs = r.natAbs / 10 := by
 rw [Int.natAbs_tdiv]; rfl
theorem dec_next {m : Nat} {l acc : List UInt8} (h : decN m ++ acc = l) (h0 : m ≠ 0) : decN (m / 10) ++ (UInt8.ofNat (48 + m % 10) :: acc) = l := by
 rw [← h, decN_pos h0]; simp
theorem c437 (n : Int) (hn : I64 n) (h : Heap) (hp : 0 < h.length) : ACall Gam 437 [I n] h fun r h' => r = S (decS n) ∧ Grows h h' := by
 have hl := decN_len64 hn
 have hn' := hn
 unfold I64 at hn'
 refine ACall_intro g437 rfl ?_
 unfold fn437
 simp (disch := omega)
 refine awp_loop (fun (r : Int) σ h' => I64 r ∧ Grows h h' ∧ σ 0 = I n ∧ σ 4 = I r ∧ ∃ acc, decN r.natAbs ++ acc = decN n.natAbs ∧ Buf h h' (σ 3) 1 (bytesV acc)) (fun r => r.natAbs) n ?_ ?_
 ·exact ⟨hn, Grows.refl _, by simp, by simp, [], by simp, by simpa [bytesV] using Buf.nil⟩
 ·rintro r σ h' ⟨hr, hg, p0, p4, acc, he, p3⟩
  have hla : (decN r.natAbs).length + acc.length ≤ 19 := by
   have := congrArg List.length he
   rw [List.length_append] at this; omega
  simp (disch := omega) [p4]
  refine fork_dec (fun h0 => ?_) (fun hne => ?_)
  ·subst h0
   simp only [Int.natAbs_zero, decN_zero, List.nil_append] at he
   subst he
   have htb := text_buf p3
   obtain ⟨b, o, k, hk, hkn, hrd⟩ := p3.reads
   have hkn' : k = (decN n.natAbs).length := by simpa [bytesV] using hkn
   simp (disch := omega) [hk, p0]
   refine fork_dec (fun hz => ?_) (fun hz => ?_)
   ·have : n = 0 := by
     false_or_by_contra
     have := decN_pos_len (n := n.natAbs) (by omega)
     omega
    subst this
    simp (disch := omega) [decS, hg]
   ·have hn0 : n ≠ 0 := by
     intro e; subst e; simp [decN_zero] at hkn'; omega
    simp (disch := omega) [hk, p0]
    rw [hk] at htb
    refine fork_dec (fun hz => ?_) (fun hz => ?_)
    ·simp (disch := omega) [hk, p0, htb]
     rw [if_pos (by omega)]
     simp [decS, hn0, hz, hg]
    ·simp (disch := omega) [hk, p0, htb, decS, hn0, hz, hg]
  ·have hr' := hr
   unfold I64 at hr'
   have hm : r.natAbs ≠ 0 := by omega
   have hnx := dec_next he hm
   have hq := quo_eq (r := r)
   obtain ⟨d1, d2⟩ := dig_eq hr
   have hdec : (r.tdiv 10).natAbs < r.natAbs := by omega
   have hi : I64 (r.tdiv 10) := by unfold I64; omega
   have hw : IntKind.i64.wrap (r.tdiv 10) = r.tdiv 10 := wrap64 (by unfold I64 at hi; omega) (by unfold I64 at hi; omega)
   simp (disch := omega) [p4]
   refine fork_dec (fun hlt => ?_) (fun hge => ?_)
   ·simp (disch := omega) [p4]
    have hr0 : r < 0 := by
     false_or_by_contra
     rw [tmod_pos (by omega)] at hlt
     omega
    have ha : (r.tmod 10).natAbs = r.natAbs % 10 := Int.natAbs_tmod r 10
    refine push_front (c := UInt8.ofNat (48 + r.natAbs % 10)) hp (by omega) hg p3 (by rw [← d2 hr0, Int.zero_sub, wrap64 (n := -r.tmod 10) (by omega) (by omega)]) ?_
    intro v' h'' g1 b1
    simp (disch := omega) [p4, hw]
    exact ⟨_, ⟨hi, g1, p0, rfl, _, by rw [hq]; exact hnx, b1⟩, by omega⟩
   ·simp (disch := omega) [p4]
    have ha : (r.tmod 10).natAbs = r.natAbs % 10 := Int.natAbs_tmod r 10
    have hd : 0 ≤ r ∨ r.tmod 10 = 0 := by
     by_cases h0 : 0 ≤ r
     ·exact .inl h0
     ·right
      have e : r = -(r.natAbs : Int) := by omega
      rw [e, Int.neg_tmod, tmod_pos (by omega)] at hge ⊢
      omega
    refine push_front (c := UInt8.ofNat (48 + r.natAbs % 10)) hp (by omega) hg p3 (by
     rcases hd with h0 | h0
     ·exact d1 h0
     ·by_cases h1 : 0 ≤ r
      ·exact d1 h1
      ·rw [← d2 (by omega), h0]; rfl) ?_
    intro v' h'' g1 b1
    simp (disch := omega) [p4, hw]
    exact ⟨_, ⟨hi, g1, p0, rfl, _, by rw [hq]; exact hnx, b1⟩, by omega⟩
/-- Texts with a text between them. -/
def joinS (sep : List UInt8) : List (List UInt8) → List UInt8
 | [] => []
 | a :: r => a ++ r.flatMap fun x => sep ++ x
def signB (b : Int) : UInt8 := if b = 1 then 124 else if b = 2 then 45 else 43
/-- A text is appended to texts. -/
theorem append_word {h h' : Heap} {v : Value} {l : List (List UInt8)} {x : List UInt8} {K : Value → Heap → Prop} (hp : 0 < h.length) (hl : l.length ≤ 1048576) (hg : Grows h h') (hv : Buf h h' v 1 (texts l))
  (hK : ∀ v' h'', Grows h h'' → Buf h h'' v' 1 (texts (l ++ [x])) → K v' h'') :
  bindW (aBuildSlice 1 1 h' [(0, .agg #[S []]), (1, S x)]) fun y h'' => bindW (aAppend 1 h'' y v) K := by
 have e : aBuildSlice 1 1 h' [(0, .agg #[S []]), (1, S x)] = some (sl h'.length 0 1 1, h' ++ [⟨[S x], true⟩]) := by simp [aBuildSlice]
 rw [e]
 simp only [bindW_some]
 refine append_buf hp (hg.push _) (hv.grow ⟨_, rfl⟩) (new := [S x]) ?_ (by omega) (by simp) (by simp) (by simp [texts, maxSize]; omega) ?_
 ·simp [newCells]
  rw [cellsAt_of (k := ⟨[S x], true⟩) (by simp) (by simp)]
  simp
 ·intro v' h'' g1 b1 _
  exact hK v' h'' g1 (by rw [texts_append]; exact b1)
/-- A number written in a block of numbers. -/
theorem ints_set (l : List Int) (k : Nat) (v : Int) : (ints l).set k (I v) = ints (l.set k v) := by simp [ints, List.map_set]
theorem store_int {h : Heap} {b k : Nat} {l : List Int} {v : Int} (hb : h[b]? = some ⟨ints l, true⟩) (hk : k < l.length) : storeAt h b k [I v] = some (h.set b ⟨ints (l.set k v), true⟩) := by
 rw [store_one hb (by simp [ints]; exact hk), ints_set]
theorem cell_int {h : Heap} {b k : Nat} {l : List Int} {r : Bool} (hb : h[b]? = some ⟨ints l, r⟩) (hk : k < l.length) : cell h b k = some (I (at0 l k)) := by
 rw [at0_of hk]
 exact cell_of hb (by simp [ints, hk])
theorem ok_len {W H : Int} {br : List Int} (ok : OkP (W, H, br)) : br.length ≤ 112 := by
 have := inner_bd (a := W) (b := H) ok.w ok.h
 have := ok.n
 simp only at this
 omega
/-- A slice whose cells are these, in memory of our own; more cells may lie behind. -/
def Bf (h : Heap) (lo hi : Nat) (v : Value) (z : Nat) (cs : List Value) : Prop := (cs = [] ∧ ∃ y, v = sl 0 0 0 y) ∨ ∃ b n, v = sl b 0 n z ∧ n * z = cs.length ∧ lo ≤ b ∧ b < hi ∧ h[b]? = some ⟨cs, true⟩
theorem Bf.nil {h : Heap} {lo hi y z : Nat} : Bf h lo hi (sl 0 0 0 y) z [] := .inl ⟨rfl, y, rfl⟩
theorem Bf.sl {h : Heap} {lo hi : Nat} {v : Value} {z : Nat} {cs : List Value} (x : Bf h lo hi v z cs) : ∃ b n y, v = Am.sl b 0 n y := by
 rcases x with ⟨_, y, e⟩ | ⟨b, n, e, _⟩
 ·exact ⟨0, 0, y, e⟩
 ·exact ⟨b, n, z, e⟩
theorem Bf.wide {h : Heap} {lo hi lo' hi' : Nat} {v : Value} {z : Nat} {cs : List Value} (x : Bf h lo hi v z cs) (h1 : lo' ≤ lo) (h2 : hi ≤ hi') : Bf h lo' hi' v z cs := by
 rcases x with x | ⟨b, n, e, e2, e3, e4, e5⟩
 ·exact .inl x
 ·exact .inr ⟨b, n, e, e2, by omega, by omega, e5⟩
theorem Bf.grow {h h' : Heap} {lo hi : Nat} {v : Value} {z : Nat} {cs : List Value} (x : Bf h lo hi v z cs) (g : Grows h h') : Bf h' lo hi v z cs := by
 rcases x with x | ⟨b, n, e, e2, e3, e4, e5⟩
 ·exact .inl x
 ·exact .inr ⟨b, n, e, e2, e3, e4, g.at e5⟩
theorem Bf.ints {h : Heap} {lo hi : Nat} {v : Value} {X : List Int} (x : Bf h lo hi v 1 (Am.ints X)) (hm : X.length ≤ maxLen) (hx : ∀ x ∈ X, I64 x) : Vo h lo hi shInts v X := by
 rcases x with ⟨h1, y, rfl⟩ | ⟨b, n, rfl, h2, h3, h4, h5⟩
 ·have := ints_inj_nil h1
  subst this
  exact Vo.of_ints (X := []) (.inr ⟨rfl, rfl⟩) (by simp) (by simp) (.inl rfl)
 ·have : n = X.length := by simpa [Am.ints] using h2
  subst this
  exact Vo.of_ints (.inl rfl) hm hx (.inr ⟨h5, h3, h4⟩)
/-- APPENDING TO IT. -/
theorem append_bf {h : Heap} {lo hi : Nat} {v x : Value} {z : Nat} {cs new : List Value} {k : Value → Heap → Prop} (hp : 0 < lo) (hv : Bf h lo hi v z cs) (hn : newCells z h x = some new) (hz : 0 < z) (hne : new ≠ []) (hm : new.length / z * z = new.length)
  (hmax : cs.length + new.length ≤ maxSize) (hk : ∀ v' h', Mod lo hi h h' → Bf h' h.length h'.length v' z (cs ++ new) → k v' h') : bindW (aAppend z h x v) k := by
 rcases hv with ⟨rfl, y, rfl⟩ | ⟨b, n, rfl, h2, h3, h4, h5⟩
 ·have e : aAppend z h x (sl 0 0 0 y) = some (sl h.length 0 (new.length / z) z, h ++ [⟨new, true⟩]) := by
   simp only [aAppend, hn]
   rw [if_neg (by omega), if_neg hne, if_neg (by simp at hmax; omega), if_pos trivial]
  rw [e]
  exact hk _ _ (Grows.mod ⟨_, rfl⟩) (.inr ⟨h.length, _, rfl, hm, Nat.le_refl _, by simp, by simp⟩)
 ·have hnz : n ≤ cs.length := by rw [← h2]; exact Nat.le_mul_of_pos_right n hz
  have e : aAppend z h x (sl b 0 n z) = some (sl h.length 0 (n + new.length / z) z, h.set b ⟨[], false⟩ ++ [⟨cs ++ new, true⟩]) := by
   simp only [aAppend, hn]
   rw [if_neg (by omega), if_neg hne, if_neg (by omega), if_neg (by omega)]
   simp only [h5]
   rw [if_pos ⟨trivial, trivial⟩, cellsAt_all h5 h2]
  rw [e]
  have hb := at_lt h5
  refine hk _ _ ⟨by simp, fun c hc hn => ?_⟩ (.inr ⟨h.length, _, rfl, by rw [Nat.add_mul, hm, h2]; simp, Nat.le_refl _, by simp, by simp⟩)
  rw [List.getElem?_append_left (by simpa using hc), List.getElem?_set_ne (by omega)]
theorem Mod.push {lo hi : Nat} {h : Heap} (k : Blk) : Mod lo hi h (h ++ [k]) := Grows.mod ⟨_, rfl⟩
theorem set_other {h : Heap} {b c : Nat} {k : Blk} (hne : c ≠ b) : (h.set b k)[c]? = h[c]? := List.getElem?_set_ne fun e => hne e.symm
end Am

/- Contracts: inner points, their numbers. -/
import Derived.Test.YtpdhmojncndobaaAmP3
import Derived.Test.YtpdhmojncndobaaAmC7
set_option linter.unusedVariables false
set_option linter.unusedSimpArgs false
set_option maxHeartbeats 4000000
set_option maxRecDepth 4000
namespace Am
open Go

/-- How many inner points lie above row y. -/
def rowN (W : Nat) : Nat → Nat
  | 0 => 0
  | y + 1 => rowN W y + if y = 0 then 0 else W - y % 2
theorem rowN_succ {W y : Nat} (h : 1 ≤ y) : rowN W (y + 1) = rowN W y + (W - y % 2) := by
  simp only [rowN]; rw [if_neg (by omega)]
theorem rowN_mono {W : Nat} : ∀ {y z : Nat}, y ≤ z → rowN W y ≤ rowN W z := by
  intro y z h
  induction z with
  | zero => have : y = 0 := by omega
            subst this; exact Nat.le_refl _
  | succ z ih =>
    by_cases e : y = z + 1
    · subst e; exact Nat.le_refl _
    · have := ih (by omega)
      simp only [rowN]; omega
theorem rowN_le : ∀ {W : Nat}, W < 9 → ∀ {y : Nat}, y < 17 → rowN W y ≤ 128 := by decide +kernel
theorem rowN_end : ∀ {W : Nat}, W < 9 → ∀ {H : Nat}, H < 9 → 1 ≤ W → 1 ≤ H → (rowN W (2 * H) : Int) = (W : Int) * (H - 1) + H * (W - 1) := by decide +kernel
theorem rowN_form : ∀ {W : Nat}, W < 9 → ∀ {y : Nat}, y < 17 → 1 ≤ W → 1 ≤ y → ((y / 2 : Nat) : Int) * ((W : Int) - 1) + ((y - 1) / 2 : Nat) * (W : Int) = rowN W y := by decide +kernel

/-- The number of a point. -/
def numP (W x y : Nat) : Nat := rowN W y + (x - 1) / 2
structure IsPt (W H k x y : Nat) : Prop where
  y1 : 1 ≤ y
  y2 : y < 2 * H
  lo : rowN W y ≤ k
  hi : k < rowN W (y + 1)
  x : x = 2 * (k - rowN W y) + 1 + y % 2
theorem IsPt.uniq {W H k x y x' y' : Nat} (a : IsPt W H k x y) (b : IsPt W H k x' y') : x = x' ∧ y = y' := by
  have e : y = y' := by
    rcases Nat.lt_trichotomy y y' with h | h | h
    · have := rowN_mono (W := W) (show y + 1 ≤ y' by omega)
      have := a.hi; have := b.lo; omega
    · exact h
    · have := rowN_mono (W := W) (show y' + 1 ≤ y by omega)
      have := b.hi; have := a.lo; omega
  subst e
  exact ⟨by rw [a.x, b.x], rfl⟩
theorem IsPt.bd {W H k x y : Nat} (a : IsPt W H k x y) : 1 ≤ x ∧ x < 2 * W ∧ (x + y) % 2 = 1 := by
  have h1 := a.x; have h2 := a.lo; have h3 := a.hi; have h4 := a.y1
  rw [rowN_succ h4] at h3
  omega
theorem numP_lt {W H x y : Nat} (hx : 1 ≤ x ∧ x < 2 * W) (hy : 1 ≤ y ∧ y < 2 * H) (hp : (x + y) % 2 = 1) : numP W x y < rowN W (2 * H) := by
  have h1 := rowN_mono (W := W) (show y + 1 ≤ 2 * H by omega)
  rw [rowN_succ hy.1] at h1
  unfold numP; omega

theorem c455 (h : Heap) (v : Value) (X : Pan) (W y : Nat) (hv : PtP h v X) (hW : X.1 = W) (w1 : 1 ≤ W) (w8 : W < 9) (hy1 : 1 ≤ y) (hy : y < 17) : ACall Gam 455 [v, I y] h fun r h' => r = I (rowN W y) ∧ h' = h := by
  obtain ⟨b, o, s, rfl, h1, _⟩ := hv
  rw [hW] at h1
  refine ACall_intro g455 rfl ?_
  unfold fn455
  simp (disch := omega)
  refine awp_loop (fun (k : Nat) σ h' => h' = h ∧ 1 ≤ k ∧ k ≤ y ∧ σ 0 = pt b o ∧ σ 1 = I y ∧ σ 5 = I (rowN W k) ∧ σ 6 = I k) (fun k => y - k) 1 ?_ ?_
  · refine ⟨rfl, Nat.le_refl _, hy1, by simp, by simp, by simp [rowN], by simp⟩
  · rintro k σ h' ⟨rfl, hk1, hk, q0, q1, q5, q6⟩
    simp (disch := omega) [q1, q6]
    refine fork_dec (fun hlt => ?_) (fun hge => ?_)
    · have hb := rowN_le w8 (y := k) (by omega)
      have hs := rowN_succ (W := W) hk1
      simp (disch := omega) [q0, q5, q6, h1, wrap64, tmod_pos]
      refine fork_dec (fun ho => ?_) (fun ho => ?_)
      · simp (disch := omega) [q0, q1, q5, q6, wrap64]
        exact ⟨k + 1, ⟨by omega, by omega, by omega, by omega⟩, by omega⟩
      · simp (disch := omega) [q0, q1, q5, q6, wrap64]
        exact ⟨k + 1, ⟨by omega, by omega, by omega, by omega⟩, by omega⟩
    · have : k = y := by omega
      subst this
      simp (disch := omega) [q5]

theorem c451 (h : Heap) (v : Value) (X : Pan) (W x y : Nat) (hv : PtP h v X) (hW : X.1 = W) (w1 : 1 ≤ W) (w8 : W < 9) (hx : 1 ≤ x ∧ x < 17) (hy : 1 ≤ y ∧ y < 17) : ACall Gam 451 [v, .agg #[I x, I y]] h fun r h' => r = I (numP W x y) ∧ h' = h := by
  refine ACall_intro g451 rfl ?_
  unfold fn451
  have hb := rowN_le w8 (y := y) (by omega)
  simp (disch := omega)
  refine callW_of (c455 h v X W y hv hW w1 w8 hy.1 hy.2) ?_
  rintro _ h' ⟨rfl, rfl⟩
  simp (disch := omega) [wrap64, tdiv_pos]
  simp [numP]; omega

theorem c454 (h : Heap) (v : Value) (X : Pan) (W H k : Nat) (hv : PtP h v X) (hW : X.1 = W) (hH : X.2.1 = H) (w1 : 1 ≤ W) (w8 : W < 9) (h1 : 1 ≤ H) (h8 : H < 9) (hk : k < rowN W (2 * H)) : ACall Gam 454 [v, I k] h fun r h' => (∃ x y, IsPt W H k x y ∧ r = .agg #[I x, I y]) ∧ h' = h := by
  have hv0 := hv
  obtain ⟨b, o, s, rfl, _, h2, _⟩ := hv
  rw [hH] at h2
  have hk128 : k < 128 := by have := rowN_le w8 (y := 2 * H) (by omega); omega
  refine ACall_intro g454 rfl ?_
  unfold fn454
  simp (disch := omega)
  refine awp_loop (fun (y : Nat) σ h' => h' = h ∧ 1 ≤ y ∧ y < 2 * H ∧ rowN W y ≤ k ∧ σ 0 = pt b o ∧ σ 1 = I k ∧ σ 4 = .agg #[I 0, I 0] ∧ σ 5 = I y) (fun y => 2 * H - y) 1 ?_ ?_
  · refine ⟨rfl, by omega, by omega, by simp [rowN], by simp, by simp, by simp, by simp⟩
  · rintro y σ h' ⟨rfl, hy1, hy2, hlo, q0, q1, q4, q5⟩
    have fin : k < rowN W (y + 1) → ACall Gam 455 [pt b o, I y] h' (fun r h'' => r = I (rowN W y) ∧ h'' = h') ∧ IsPt W H k (2 * (k - rowN W y) + 1 + y % 2) y := fun hhi =>
      ⟨c455 h' _ X W y hv0 hW w1 w8 hy1 (by omega), ⟨hy1, hy2, hlo, hhi, rfl⟩⟩
    simp (disch := omega) [q0, q5, h2, wrap64]
    refine fork_dec (fun hlt => ?_) (fun hge => ?_)
    · have hlt' : y + 1 < 2 * H := by omega
      simp (disch := omega) [q0, q1, q5, h2, hlt, wrap64]
      have hc := c455 h' _ X W (y + 1) hv0 hW w1 w8 (by omega) (by omega)
      rw [show ((y + 1 : Nat) : Int) = (y : Int) + 1 by omega] at hc
      refine callW_of hc ?_
      rintro _ h' ⟨rfl, rfl⟩
      simp (disch := omega) [q1, hlt]
      refine fork_dec (fun hle => ?_) (fun hle => ?_)
      · simp (disch := omega) [q0, q1, q4, q5, wrap64]
        exact ⟨y + 1, ⟨by omega, by omega, by omega, by omega⟩, by omega⟩
      · obtain ⟨f1, f2⟩ := fin (by omega)
        simp (disch := omega) [q0, q1, q4, q5]
        refine callW_of f1 ?_
        rintro _ h' ⟨rfl, rfl⟩
        simp (disch := omega) [q0, q1, q4, q5, wrap64, tmod_pos, resOf_box, aField]
        refine ⟨_, y, f2, ?_, rfl⟩
        omega
    · have hye : y + 1 = 2 * H := by omega
      obtain ⟨f1, f2⟩ := fin (by rw [hye]; exact hk)
      simp (disch := omega) [q0, q1, q4, q5, hge]
      refine callW_of f1 ?_
      rintro _ h' ⟨rfl, rfl⟩
      simp (disch := omega) [q0, q1, q4, q5, wrap64, tmod_pos, resOf_box, aField]
      refine ⟨_, y, f2, ?_, rfl⟩
      omega

theorem c40v (h : Heap) (W H x y a W1 p y1 b q r c d e : Int) (s : Value) (h1 : IntKind.i64.wrap (y.tdiv 2) = a) (h2 : IntKind.i64.wrap (W - 1) = W1) (h3 : IntKind.i64.wrap (a * W1) = p) (h4 : IntKind.i64.wrap (y - 1) = y1) (h5 : IntKind.i64.wrap (y1.tdiv 2) = b) (h6 : IntKind.i64.wrap (b * W) = q)
    (h7 : IntKind.i64.wrap (p + q) = r) (h8 : IntKind.i64.wrap (x.tdiv 2) = c) (h9 : IntKind.i64.wrap (r + c) = d) (h10 : IntKind.i64.wrap (d - 1) = e) : ACall Gam 40 [.agg #[I W, I H, s], .agg #[I x, I y]] h fun v h' => v = I (if y.tmod 2 = 1 then e else d) ∧ h' = h := by
  refine ACall_intro g40 rfl ?_
  unfold fn40
  simp only []
  rw [awp_seq, awp_reg]
  generalize hK : seqQ Gam _ _ 0 = K
  simp
  subst hK
  simp only [seqQ_zero]
  rw [awp_seq, awp_reg]
  generalize hK : seqQ Gam _ _ 0 = K
  simp [h1, h2, h3, h4, h5, h6, h7]
  subst hK
  simp
  refine fork_dec (fun ho => ?_) (fun ho => ?_)
  · simp [h8, h9, h10, ho]
  · simp [h8, h9, h10, ho]
theorem c40 (h : Heap) (W H x y : Nat) (s : Value) (w1 : 1 ≤ W) (w8 : W < 9) (hx : 1 ≤ x ∧ x < 17) (hy : 1 ≤ y ∧ y < 17) (hp : (x + y) % 2 = 1) : ACall Gam 40 [.agg #[I W, I H, s], .agg #[I x, I y]] h fun r h' => r = I (numP W x y) ∧ h' = h := by
  have hb := rowN_le w8 (y := y) (by omega)
  have hf := rowN_form w8 (y := y) (by omega) w1 hy.1
  have e1 : (y : Int) / 2 = ((y / 2 : Nat) : Int) := by omega
  have e2 : ((y : Int) - 1) / 2 = (((y - 1) / 2 : Nat) : Int) := by omega
  have hf' : (y : Int) / 2 * ((W : Int) - 1) + ((y : Int) - 1) / 2 * (W : Int) = rowN W y := by rw [e1, e2]; exact hf
  have b1 : 0 ≤ (y : Int) / 2 * ((W : Int) - 1) := Int.mul_nonneg (by omega) (by omega)
  have b2 : 0 ≤ ((y : Int) - 1) / 2 * (W : Int) := Int.mul_nonneg (by omega) (by omega)
  have hrow : (rowN W y : Int) ≤ 128 := by omega
  have u0 : IntKind.i64.wrap ((W : Int) - 1) = (W : Int) - 1 := wrap64 (by omega) (by omega)
  have u1 : IntKind.i64.wrap ((y : Int) - 1) = (y : Int) - 1 := wrap64 (by omega) (by omega)
  have u2 : IntKind.i64.wrap ((y : Int) / 2) = (y : Int) / 2 := wrap64 (by omega) (by omega)
  have u3 : IntKind.i64.wrap (((y : Int) - 1) / 2) = ((y : Int) - 1) / 2 := wrap64 (by omega) (by omega)
  have u4 : IntKind.i64.wrap ((x : Int) / 2) = (x : Int) / 2 := wrap64 (by omega) (by omega)
  have u5 : IntKind.i64.wrap (IntKind.i64.wrap ((y : Int) / 2 * ((W : Int) - 1)) + IntKind.i64.wrap (((y : Int) - 1) / 2 * (W : Int))) = rowN W y := by
    rw [wrap64 (n := (y : Int) / 2 * ((W : Int) - 1)) (by omega) (by omega), wrap64 (n := ((y : Int) - 1) / 2 * (W : Int)) (by omega) (by omega), hf', wrap64 (by omega) (by omega)]
  have t1 : (y : Int).tdiv 2 = (y : Int) / 2 := tdiv_pos (by omega)
  have t2 : ((y : Int) - 1).tdiv 2 = ((y : Int) - 1) / 2 := tdiv_pos (by omega)
  have t3 : (x : Int).tdiv 2 = (x : Int) / 2 := tdiv_pos (by omega)
  have t4 : (y : Int).tmod 2 = (y : Int) % 2 := tmod_pos (by omega)
  refine (c40v h W H x y _ _ _ _ _ _ _ _ _ _ s rfl rfl rfl rfl rfl rfl rfl rfl rfl rfl).mono ?_
  rintro r h' ⟨rfl, rfl⟩
  rw [t1, t3, t4, u2, u0, u1, t2, u3, u5, u4]
  refine ⟨?_, rfl⟩
  split
  · rw [wrap64 (n := (rowN W y : Int) + (x : Int) / 2) (by omega) (by omega), wrap64 (by omega) (by omega)]
    simp [numP]; omega
  · rw [wrap64 (by omega) (by omega)]
    simp [numP]; omega
end Am

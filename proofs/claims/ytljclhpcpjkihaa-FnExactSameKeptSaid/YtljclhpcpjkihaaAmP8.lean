/- Contracts: libraries compared. -/
import Derived.Test.YtljclhpcpjkihaaAmT5
import Derived.Test.YtljclhpcpjkihaaAmP7
set_option linter.unusedVariables false
set_option linter.unusedSimpArgs false
set_option maxHeartbeats 4000000
namespace Am
open Go

def samK (X Y : List Kpt) : Bool := decide (X = Y)
theorem kpt_eq (x y : Kpt) : x = y ↔ x.1 = y.1 ∧ samP x.2 y.2 = true := by
  obtain ⟨a, b⟩ := x
  obtain ⟨c, d⟩ := y
  simp [samP]
theorem c419 (h : Heap) (hp : 0 < h.length) (v0 : Value) (X0 : List Kpt) (hv0 : Vr h shKepts v0 X0) (hs0 : siz shKepts X0 ≤ 1048576) (v1 : Value) (X1 : List Kpt) (hv1 : Vr h shKepts v1 X1) (hs1 : siz shKepts X1 ≤ 1048576) :
    ACall Gam 419 [v0, v1] h fun r h' => Grows h h' ∧ r = B (samK X0 X1) := by
  obtain ⟨b1, o1, z1, rfl, hm1, hc1⟩ := kepts_at hv0
  obtain ⟨b2, o2, z2, rfl, hm2, hc2⟩ := kepts_at hv1
  rw [maxLen_eq] at hm1 hm2
  have cel : ∀ {b o : Nat} {x y z w : Value}, cellsAt h b o 4 = some [x, y, z, w] → cell h b o = some x ∧ cell h b (o + 1) = some y ∧ cell h b (o + 1 + 1) = some z ∧ cell h b (o + 1 + 2) = some w := by
    intro b o x y z w hh
    exact ⟨by have := (cell_in (i := 0) hh (by omega)).1; simpa using this, by have := (cell_in (i := 1) hh (by omega)).1; simpa using this, by have := (cell_in (i := 2) hh (by omega)).1; simpa [Nat.add_assoc] using this, by have := (cell_in (i := 3) hh (by omega)).1; simpa [Nat.add_assoc] using this⟩
  refine ACall_intro g419 rfl ?_
  unfold fn419
  simp (disch := omega)
  refine fork_dec (fun heq => ?_) (fun hne => ?_)
  · simp (disch := omega)
    refine awp_loop (fun k σ h' => h' = h ∧ k ≤ X0.length ∧ X0.take k = X1.take k ∧ σ 0 = sl b1 o1 X0.length z1 ∧ σ 1 = sl b2 o2 X1.length z2 ∧ σ 5 = I k) (fun k => X0.length - k) 0 ?_ ?_
    · simp
    · rintro k σ h' ⟨rfl, hk, ht, h0, h1, h5⟩
      simp (disch := omega) [h0, h1, h5]
      refine fork_dec (fun hlt => ?_) (fun hge => ?_)
      · have k1 : k < X0.length := by omega
        have k2 : k < X1.length := by omega
        obtain ⟨s, c1, r1, vk1⟩ := hc1 k k1
        obtain ⟨s', c2, r2, vk2⟩ := hc2 k k2
        obtain ⟨a1, a2, a3, a4⟩ := cel c1
        obtain ⟨d1, d2, d3, d4⟩ := cel c2
        obtain ⟨_, _, _, w1, x1, _⟩ := vk1.kept
        obtain ⟨_, _, _, w2, x2, _⟩ := vk2.kept
        simp (disch := omega) [h0, h1, h5, a1, d1, k1, k2]
        refine fork_dec (fun he => ?_) (fun he => ?_)
        · simp (disch := omega) [h0, h1, h5, k1, k2, he]
          refine callW_of (c456 h' _ _ X0[k].2 X1[k].2 ⟨b1, o1 + k * 4 + 1, s, rfl, a2, a3, a4, r1, w1, x1⟩ ⟨b2, o2 + k * 4 + 1, s', rfl, d2, d3, d4, r2, w2, x2⟩) ?_
          rintro _ h' ⟨rfl, rfl⟩
          cases q : samP X0[k].2 X1[k].2
          · simp (disch := omega) [h0, h1, h5, he]
            refine ⟨Grows.refl _, ?_⟩
            have := take_ne (X := X0) (Y := X1) k1 k2 (fun e => by rw [kpt_eq, q] at e; simp at e)
            simp [samK, this]
          · simp (disch := omega) [h0, h1, h5, he]
            refine ⟨k + 1, ⟨by omega, ?_, ?_⟩, by omega⟩
            · rw [List.take_succ_eq_append_getElem k1, List.take_succ_eq_append_getElem k2, ht, (kpt_eq _ _).2 ⟨he, q⟩]
            · rw [wrap64 (by omega) (by omega)]; simp
        · simp (disch := omega) [h0, h1, h5, he]
          refine ⟨Grows.refl _, ?_⟩
          have := take_ne (X := X0) (Y := X1) k1 k2 (fun e => he ((kpt_eq _ _).1 e).1)
          simp [samK, this]
      · simp (disch := omega) [h0, h1, h5]
        have q1 : k = X0.length := by omega
        have q2 : X0.length = X1.length := by omega
        subst q1
        rw [List.take_length, q2, List.take_length] at ht
        exact ⟨Grows.refl _, by simp [samK, ht]⟩
  · simp (disch := omega)
    refine ⟨Grows.refl _, ?_⟩
    have : ¬ X0 = X1 := by intro e; apply hne; rw [e]
    simp [samK, this]
theorem c129 (h : Heap) (v w : Value) (X Y : Kpt) (hv : Vr h shKept v X) (hw : Vr h shKept w Y) : ACall Gam 129 [v, w] h fun r h' => r = B (decide (X.1 = Y.1) && samP X.2 Y.2) ∧ h' = h := by
  obtain ⟨n, W, H, br⟩ := X
  obtain ⟨n2, W2, H2, br2⟩ := Y
  obtain ⟨s, rfl, w0, w1, w2, r⟩ := hv.kept
  obtain ⟨s', rfl, w0', w1', w2', r'⟩ := hw.kept
  refine ACall_intro g129 rfl ?_
  unfold fn129
  simp (disch := omega)
  refine fork_dec (fun e1 => ?_) (fun e1 => ?_)
  · simp (disch := omega) [e1]
    refine callW_of (c130 h _ _ (W, H, br) (W2, H2, br2) (Vr.of_panel w1 w2 r) (Vr.of_panel w1' w2' r')) ?_
    rintro _ h' ⟨rfl, rfl⟩
    simp [e1]
  · simp (disch := omega) [e1]
theorem c312 (h : Heap) (v0 : Value) (X0 : List Kpt) (hv0 : Vr h shKepts v0 X0) (v1 : Value) (X1 : List Kpt) (hv1 : Vr h shKepts v1 X1) :
    ACall Gam 312 [v0, v1, .func (.func 129) #[] #[]] h fun r h' => h' = h ∧ r = B (samK X0 X1) := by
  obtain ⟨b1, o1, z1, rfl, hm1, hc1⟩ := kepts_at hv0
  obtain ⟨b2, o2, z2, rfl, hm2, hc2⟩ := kepts_at hv1
  rw [maxLen_eq] at hm1 hm2
  refine ACall_intro g312 rfl ?_
  unfold fn312
  simp (disch := omega)
  refine fork_dec (fun heq => ?_) (fun hne => ?_)
  · simp (disch := omega)
    refine awp_loop (fun k σ h' => h' = h ∧ k ≤ X0.length ∧ X0.take k = X1.take k ∧ σ 1 = sl b2 o2 X1.length z2 ∧ σ 2 = .func (.func 129) #[] #[] ∧ σ 15 = sl b1 o1 X0.length z1 ∧ σ 16 = I X0.length ∧ σ 17 = I k) (fun k => X0.length - k) 0 ?_ ?_
    · simp
    · rintro k σ h' ⟨rfl, hk, ht, h1, h2, h15, h16, h17⟩
      simp (disch := omega) [h16, h17]
      refine fork_dec (fun hlt => ?_) (fun hge => ?_)
      · have k1 : k < X0.length := by omega
        have k2 : k < X1.length := by omega
        obtain ⟨s, c1, r1, vk1⟩ := hc1 k k1
        obtain ⟨s', c2, r2, vk2⟩ := hc2 k k2
        simp (disch := omega) [h1, h2, h15, h16, h17, c1, c2, k1, k2]
        refine callW_of (c129 h' _ _ X0[k] X1[k] vk1 vk2) ?_
        rintro _ h' ⟨rfl, rfl⟩
        cases q : (decide (X0[k].1 = X1[k].1) && samP X0[k].2 X1[k].2)
        · simp (disch := omega) [h1, h2, h15, h16, h17]
          have := take_ne (X := X0) (Y := X1) k1 k2 (fun e => by
            have e2 := (kpt_eq _ _).1 e
            rw [e2.2, decide_eq_true e2.1] at q; cases q)
          simp [samK, this]
        · simp only [Bool.and_eq_true, decide_eq_true_eq] at q
          simp (disch := omega) [h1, h2, h15, h16, h17]
          refine ⟨k + 1, ⟨by omega, ?_, ?_⟩, by omega⟩
          · rw [List.take_succ_eq_append_getElem k1, List.take_succ_eq_append_getElem k2, ht, (kpt_eq _ _).2 q]
          · rw [wrap64 (by omega) (by omega)]; simp
      · simp (disch := omega) [h1, h2, h15, h16, h17]
        have q1 : k = X0.length := by omega
        have q2 : X0.length = X1.length := by omega
        subst q1
        rw [List.take_length, q2, List.take_length] at ht
        simp [samK, ht]
  · simp (disch := omega)
    have : ¬ X0 = X1 := by intro e; apply hne; rw [e]
    simp [samK, this]
theorem c128 (h : Heap) (hp : 0 < h.length) (v0 : Value) (X0 : List Kpt) (hv0 : Vr h shKepts v0 X0) (hs0 : siz shKepts X0 ≤ 1048576) (v1 : Value) (X1 : List Kpt) (hv1 : Vr h shKepts v1 X1) (hs1 : siz shKepts X1 ≤ 1048576) :
    ACall Gam 128 [v0, v1] h fun r h' => Grows h h' ∧ r = B (samK X0 X1) := by
  refine ACall_intro g128 rfl ?_
  unfold fn128
  simp (disch := omega)
  refine callW_of (c312 h _ _ hv0 _ _ hv1) ?_
  rintro _ h' ⟨rfl, rfl⟩
  simp (disch := omega)
  exact Grows.refl _
end Am

/- Contracts: numbers in their range, the sizes of panels; the law on PackedSize. -/
import Derived.Test.YtpdhmojncndobaaAmSimp
import Derived.Test.YtpdhmojncndobaaAmTab
set_option linter.unusedVariables false
set_option linter.unusedSimpArgs false
set_option maxHeartbeats 4000000
namespace Am
open Go

def inR (a lo hi : Int) : Bool := decide (lo ≤ a) && decide (a ≤ hi)
theorem inR_iff {a lo hi : Int} : inR a lo hi = true ↔ lo ≤ a ∧ a ≤ hi := by simp [inR]
theorem c164 (a lo hi : Int) (h : Heap) : ACall Gam 164 [I a, I lo, I hi] h fun v h' => v = B (inR a lo hi) ∧ h' = h := by
  refine ACall_intro g164 rfl ?_
  unfold fn164
  simp (disch := omega)
  refine fork_dec (fun h1 => ?_) (fun h1 => ?_)
  · simp [h1, inR]
  · simp [h1, inR]
theorem c432 (a lo hi : Int) (h : Heap) : ACall Gam 432 [I a, I lo, I hi] h fun v h' => v = B (inR a lo hi) ∧ h' = h := by
  refine ACall_intro g432 rfl ?_
  unfold fn432
  simp (disch := omega)
  refine fork_dec (fun h1 => ?_) (fun h1 => ?_)
  · simp [h1, inR]
  · simp [h1, inR]
theorem c457 (a : Int) (h : Heap) : ACall Gam 457 [I a] h fun v h' => v = B (inR a 1 8) ∧ h' = h := by
  refine ACall_intro g457 rfl ?_
  unfold fn457
  simp (disch := omega)
  refine callW_of (c432 a 1 8 h) ?_
  rintro v h' ⟨rfl, rfl⟩
  simp
def okSz (a b : Int) : Bool := inR a 1 8 && inR b 1 8
theorem okSz_iff {a b : Int} : okSz a b = true ↔ (1 ≤ a ∧ a ≤ 8) ∧ 1 ≤ b ∧ b ≤ 8 := by simp [okSz, inR_iff]
theorem c198 (a b : Int) (h : Heap) : ACall Gam 198 [I a, I b] h fun v h' => v = B (okSz a b) ∧ h' = h := by
  refine ACall_intro g198 rfl ?_
  unfold fn198
  simp (disch := omega)
  refine callW_of (c164 a 1 8 h) ?_
  rintro v h' ⟨rfl, rfl⟩
  cases hb : inR a 1 8
  · simp [okSz, hb]
  · simp
    refine callW_of (c164 b 1 8 h') ?_
    rintro v h' ⟨rfl, rfl⟩
    simp [okSz, hb]
def inner (a b : Int) : Int := a * (b - 1) + b * (a - 1)
theorem inner_bd {a b : Int} (ha : 1 ≤ a ∧ a ≤ 8) (hb : 1 ≤ b ∧ b ≤ 8) : 0 ≤ inner a b ∧ inner a b ≤ 112 ∧ 0 ≤ a * (b - 1) ∧ a * (b - 1) ≤ 56 ∧ 0 ≤ b * (a - 1) ∧ b * (a - 1) ≤ 56 := by
  unfold inner
  have h1 : 0 ≤ a * (b - 1) := Int.mul_nonneg (by omega) (by omega)
  have h2 : 0 ≤ b * (a - 1) := Int.mul_nonneg (by omega) (by omega)
  have h3 : a * (b - 1) ≤ 8 * 7 := Int.mul_le_mul (by omega) (by omega) (by omega) (by omega)
  have h4 : b * (a - 1) ≤ 8 * 7 := Int.mul_le_mul (by omega) (by omega) (by omega) (by omega)
  omega
theorem c166 (a b : Int) (ha : 1 ≤ a ∧ a ≤ 8) (hb : 1 ≤ b ∧ b ≤ 8) (h : Heap) : ACall Gam 166 [I a, I b] h fun v h' => v = I (inner a b) ∧ h' = h := by
  refine ACall_intro g166 rfl ?_
  unfold fn166
  have := inner_bd ha hb
  simp (disch := omega) [wrap64]
  simp [inner]
theorem c448 (a b : Int) (ha : 1 ≤ a ∧ a ≤ 8) (hb : 1 ≤ b ∧ b ≤ 8) (h : Heap) : ACall Gam 448 [I a, I b] h fun v h' => v = I (inner a b) ∧ h' = h := by
  refine ACall_intro g448 rfl ?_
  unfold fn448
  have := inner_bd ha hb
  simp (disch := omega) [wrap64]
  simp [inner]
def packSize (a b : Int) : Int := 5 + (inner a b + 4) / 5
theorem c181 (a b : Int) (ha : 1 ≤ a ∧ a ≤ 8) (hb : 1 ≤ b ∧ b ≤ 8) (h : Heap) : ACall Gam 181 [I a, I b] h fun v h' => v = I (packSize a b) ∧ h' = h := by
  refine ACall_intro g181 rfl ?_
  unfold fn181
  have := inner_bd ha hb
  simp (disch := omega)
  refine callW_of (c166 a b ha hb h) ?_
  rintro v h' ⟨rfl, rfl⟩
  simp (disch := omega) [wrap64, tdiv_pos]
  simp [packSize]
theorem c572 (a b : Int) (ha : 1 ≤ a ∧ a ≤ 8) (hb : 1 ≤ b ∧ b ≤ 8) (h : Heap) : ACall Gam 572 [I a, I b] h fun v h' => v = I (packSize a b) ∧ h' = h := by
  refine ACall_intro g572 rfl ?_
  unfold fn572
  have := inner_bd ha hb
  simp (disch := omega)
  refine callW_of (c448 a b ha hb h) ?_
  rintro v h' ⟨rfl, rfl⟩
  simp (disch := omega) [wrap64, tdiv_pos]
  simp [packSize]; omega
def packAns (a b : Int) : Int × Int := if okSz a b then (packSize a b, 0) else (0, 2)
theorem c108 (a b : Int) (h : Heap) : ACall Gam 108 [I a, I b] h fun v h' => v = .tuple #[I (packAns a b).1, I (packAns a b).2] ∧ h' = h := by
  refine ACall_intro g108 rfl ?_
  unfold fn108
  simp (disch := omega)
  refine callW_of (c198 a b h) ?_
  rintro v h' ⟨rfl, rfl⟩
  cases hb : okSz a b
  · simp [packAns, hb]
  · obtain ⟨h1, h2⟩ := okSz_iff.1 hb
    simp
    refine callW_of (c181 a b h1 h2 h') ?_
    rintro v h' ⟨rfl, rfl⟩
    simp [packAns, hb]
theorem c399 (a b : Int) (h : Heap) : ACall Gam 399 [I a, I b] h fun v h' => v = .tuple #[I (packAns a b).1, I (packAns a b).2] ∧ h' = h := by
  refine ACall_intro g399 rfl ?_
  unfold fn399
  simp (disch := omega)
  refine callW_of (c457 a h) ?_
  rintro v h' ⟨rfl, rfl⟩
  cases hb : inR a 1 8
  · simp [packAns, hb, okSz]
  · simp
    refine callW_of (c457 b h') ?_
    rintro v h' ⟨rfl, rfl⟩
    cases hc : inR b 1 8
    · simp [packAns, hb, hc, okSz]
    · simp
      refine callW_of (c572 a b (inR_iff.1 hb) (inR_iff.1 hc) h') ?_
      rintro v h' ⟨rfl, rfl⟩
      simp [packAns, hb, hc, okSz]
theorem law231 (a : Int) (ha : -9223372036854775808 ≤ a ∧ a < 9223372036854775808) (b : Int) (hb : -9223372036854775808 ≤ b ∧ b < 9223372036854775808) (h : Heap) (hp : 0 < h.length) : ACall Gam 231 [I a, I b] h fun v _ => v = .bool true := by
  refine ACall_intro g231 rfl ?_
  unfold fn231
  simp (disch := omega)
  refine callW_of (c399 a b h) ?_
  rintro v h' ⟨rfl, rfl⟩
  simp
  refine callW_of (c108 a b h') ?_
  rintro v h' ⟨rfl, rfl⟩
  simp
end Am

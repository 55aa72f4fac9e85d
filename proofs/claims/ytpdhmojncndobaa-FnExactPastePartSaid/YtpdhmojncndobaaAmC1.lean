/- Contracts: ChecksumOf, and the law on it. -/
import Derived.Test.YtpdhmojncndobaaAmSimp
import Derived.Test.YtpdhmojncndobaaAmTab
set_option linter.unusedVariables false
set_option linter.unusedSimpArgs false
set_option maxHeartbeats 4000000
namespace Am
open Go
def sumStep (p : Int × Int) (c : UInt8) : Int × Int := ((p.1 + c.toNat) % 251, (p.2 + (p.1 + c.toNat) % 251) % 251)
def sums (l : List UInt8) : Int × Int := l.foldl sumStep (1, 0)
def checksum (l : List UInt8) : Int := 256 * (sums l).2 + (sums l).1
theorem sums_bd (l : List UInt8) : 0 ≤ (sums l).1 ∧ (sums l).1 < 251 ∧ 0 ≤ (sums l).2 ∧ (sums l).2 < 251 := by
  unfold sums
  suffices ∀ p : Int × Int, 0 ≤ p.1 ∧ p.1 < 251 ∧ 0 ≤ p.2 ∧ p.2 < 251 → 0 ≤ (l.foldl sumStep p).1 ∧ (l.foldl sumStep p).1 < 251 ∧ 0 ≤ (l.foldl sumStep p).2 ∧ (l.foldl sumStep p).2 < 251 by
    exact this _ (by simp)
  induction l with
  | nil => intro p hp; exact hp
  | cons c l ih =>
    intro p hp
    simp only [List.foldl_cons]
    exact ih _ (by simp only [sumStep]; omega)

theorem c64 (l : List UInt8) (hl : l.length ≤ 1048576) (h : Heap) : ACall Gam 64 [S l] h fun v h' => v = I (checksum l) ∧ h' = h := by
  refine ACall_intro g64 rfl ?_
  unfold fn64
  simp (disch := omega)
  refine awp_loop (fun k σ h' => h' = h ∧ k ≤ l.length ∧ σ 0 = S l ∧ σ 3 = I (sums (l.take k)).1 ∧ σ 4 = I (sums (l.take k)).2 ∧ σ 7 = I l.length ∧ σ 8 = I k) (fun k => l.length - k) 0 ?_ ?_
  · simp [sums]
  · rintro k σ h' ⟨rfl, hk, h0, h3, h4, h7, h8⟩
    simp [h7, h8]
    have hb := sums_bd (l.take k)
    refine fork_dec (fun hlt => ?_) (fun hge => ?_)
    · have hc : l[k].toNat < 256 := UInt8.toNat_lt _
      have e : sums (l.take (k + 1)) = sumStep (sums (l.take k)) l[k] := by
        rw [List.take_succ_eq_append_getElem hlt, sums, List.foldl_append]; rfl
      simp (disch := omega) [h0, h3, h4, h7, h8, hlt, wrap64, tmod_pos]
      refine ⟨k + 1, ⟨by omega, ?_, ?_, by omega⟩, by omega⟩ <;> rw [e] <;> simp [sumStep]
    · have e : k = l.length := by omega
      subst e
      simp only [List.take_length] at hb ⊢
      simp (disch := omega) [h3, h4, wrap64, checksum]

theorem c573 (l : List UInt8) (hl : l.length ≤ 1048576) (h : Heap) : ACall Gam 573 [S l] h fun v h' => v = I (checksum l) ∧ h' = h := by
  refine ACall_intro g573 rfl ?_
  unfold fn573
  simp (disch := omega)
  refine awp_loop (fun k σ h' => h' = h ∧ k ≤ l.length ∧ σ 0 = S l ∧ σ 3 = I (sums (l.take k)).1 ∧ σ 4 = I (sums (l.take k)).2 ∧ σ 5 = I k) (fun k => l.length - k) 0 ?_ ?_
  · simp [sums]
  · rintro k σ h' ⟨rfl, hk, h0, h3, h4, h5⟩
    simp (disch := omega) [h0, h5]
    have hb := sums_bd (l.take k)
    refine fork_dec (fun hlt => ?_) (fun hge => ?_)
    · have hc : l[k].toNat < 256 := UInt8.toNat_lt _
      have e : sums (l.take (k + 1)) = sumStep (sums (l.take k)) l[k] := by
        rw [List.take_succ_eq_append_getElem hlt, sums, List.foldl_append]; rfl
      simp (disch := omega) [h0, h3, h4, h5, hlt, wrap64, tmod_pos]
      refine ⟨k + 1, ⟨by omega, ?_, ?_, by omega⟩, by omega⟩ <;> rw [e] <;> simp [sumStep]
    · have e : k = l.length := by omega
      subst e
      simp only [List.take_length] at hb ⊢
      simp (disch := omega) [h3, h4, wrap64, checksum]

theorem c333 (l : List UInt8) (hl : l.length ≤ 1048576) (h : Heap) : ACall Gam 333 [S l] h fun v h' => v = I (checksum l) ∧ h' = h := by
  refine ACall_intro g333 rfl ?_
  unfold fn333
  simp (disch := omega)
  refine callW_of (c573 l hl h) ?_
  rintro v h' ⟨rfl, rfl⟩
  simp

theorem law207 (l : List UInt8) (hl : l.length ≤ 9223372036854775807) (h : Heap) (hp : 0 < h.length) : ACall Gam 207 [S l] h fun v _ => v = .bool true := by
  refine ACall_intro g207 rfl ?_
  unfold fn207
  simp (disch := omega)
  refine fork_dec (fun hgt => ?_) (fun hle => ?_)
  · simp
  · simp (disch := omega)
    refine callW_of (c333 l (by omega) h) ?_
    rintro v h' ⟨rfl, rfl⟩
    simp
    refine callW_of (c64 l (by omega) h') ?_
    rintro v h' ⟨rfl, rfl⟩
    simp
end Am

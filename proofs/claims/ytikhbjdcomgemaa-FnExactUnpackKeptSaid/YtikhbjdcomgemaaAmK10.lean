/- Contracts: AmY30, AmY31, AmY32, AmY33, AmY34. -/
import Derived.Test.YtikhbjdcomgemaaAmK9
import Derived.Test.YtikhbjdcomgemaaAmK8
import Derived.Test.YtikhbjdcomgemaaAmK1
set_option linter.unusedVariables false
set_option linter.unusedSimpArgs false
set_option maxHeartbeats 4000000
set_option maxRecDepth 4000
namespace Am
open Go

/-- Two slices have no block in common. -/
def Apart (v w : Value) : Prop := ∀ b c n m z y, v = sl b 0 n z → w = sl c 0 m y → b = c → b = 0
theorem Apart.symm {v w : Value} (a : Apart v w) : Apart w v := fun b c n m z y h1 h2 e => by
  have := a c b m n y z h2 h1 e.symm; omega
end Am
/-! AmY31 -/
set_option linter.unusedVariables false
set_option linter.unusedSimpArgs false
set_option maxHeartbeats 4000000
set_option maxRecDepth 4000
namespace Am
open Go

/-- The segments that a walk passes. -/
def segsW (f : Wk → Wk) (H : Nat) (w : Wk) (k : Nat) : List Int := (List.range k).map fun j => (segW H (itW f j w) : Int)
end Am
/-! AmY32 -/
set_option linter.unusedVariables false
set_option linter.unusedSimpArgs false
set_option maxHeartbeats 4000000
set_option maxRecDepth 4000
namespace Am
open Go

theorem Buf.put {B0 h : Heap} {v : Value} {z c : Nat} {cs : List Value} {k : Blk} (x : Buf B0 h v z cs) (hc : c < B0.length) : Buf B0 (h.set c k) v z cs := by
  rcases x with ⟨e1, e2⟩ | ⟨b, m, e2, e3, e4, e5⟩
  · exact .inl ⟨e1, e2⟩
  · exact .inr ⟨b, m, e2, e3, e4, put_at e5 (by omega)⟩
end Am
/-! AmY33 -/
set_option linter.unusedVariables false
set_option linter.unusedSimpArgs false
set_option maxHeartbeats 4000000
set_option maxRecDepth 4000
namespace Am
open Go

end Am
/-! AmY34 -/
set_option linter.unusedVariables false
set_option linter.unusedSimpArgs false
set_option maxHeartbeats 4000000
set_option maxRecDepth 4000
namespace Am
open Go

theorem rd_texts {h : Heap} : ∀ {css : List (List Value)} {X : List (List UInt8)}, All2 (fun c y => Rd h .str c y) css X → css.flatten = texts X ∧ ∀ x ∈ X, x.length ≤ maxLen
  | [], [], _ => by simp [texts]
  | c :: css, x :: X, r => by
    obtain ⟨e, w⟩ := r.1
    obtain ⟨h1, h2⟩ := rd_texts r.2
    refine ⟨by simp [e, h1, texts], fun y hy => ?_⟩
    rcases List.mem_cons.1 hy with rfl | hy
    · exact w
    · exact h2 y hy
theorem Vr.texts {h : Heap} {v : Value} {X : List (List UInt8)} (x : Vr h shTexts v X) : ∃ b o z, v = sl b o X.length z ∧ (z = 1 ∨ b = 0 ∧ X = []) ∧ X.length ≤ maxLen ∧ (∀ x ∈ X, x.length ≤ maxLen) ∧ (X = [] ∨ cellsAt h b o X.length = some (Am.texts X)) := by
  obtain ⟨cs, ⟨b, o, z, css, rfl, hz, hm, h1, h2⟩, rfl⟩ := x
  obtain ⟨e1, e2⟩ := rd_texts h1
  have h2' : X = [] ∨ cellsAt h b o (X.length * 1) = some css.flatten := h2
  rw [e1, Nat.mul_one] at h2'
  exact ⟨b, o, z, rfl, hz, hm, e2, h2'⟩
theorem All3.texts {h : Heap} : ∀ {css : List (List Value)} {X : List (List UInt8)} {bss : List (List Nat)}, All3 (fun c y s => Ow h .str c y s) css X bss → css.flatten = Am.texts X ∧ (∀ x ∈ X, x.length ≤ maxLen) ∧ bss.flatten = []
  | [], [], [], _ => by simp [Am.texts]
  | c :: css, x :: X, s :: bss, r => by
    obtain ⟨e, w, es⟩ := r.1
    obtain ⟨h1, h2, h3⟩ := All3.texts r.2
    refine ⟨by simp [e, h1, Am.texts], fun y hy => ?_, by simp [es, h3]⟩
    rcases List.mem_cons.1 hy with rfl | hy
    · exact w
    · exact h2 y hy
  | [], _ :: _, _, r => r.elim
  | [], [], _ :: _, r => r.elim
  | _ :: _, [], _, r => r.elim
  | _ :: _, _ :: _, [], r => r.elim
theorem Vo.texts {h : Heap} {lo hi : Nat} {v : Value} {X : List (List UInt8)} (x : Vo h lo hi shTexts v X) : ∃ b z, v = sl b 0 X.length z ∧ (z = 1 ∨ b = 0 ∧ X = []) ∧ X.length ≤ maxLen ∧ (∀ x ∈ X, x.length ≤ maxLen) ∧ (X = [] ∨ h[b]? = some ⟨Am.texts X, true⟩ ∧ lo ≤ b ∧ b < hi) := by
  obtain ⟨cs, bs, ⟨b, z, css, bss, rfl, hz, hm, h1, h2⟩, rfl, _, hb⟩ := x
  obtain ⟨e1, e2, e3⟩ := All3.texts h1
  refine ⟨b, z, rfl, hz, hm, e2, ?_⟩
  rcases h2 with ⟨h2, _⟩ | ⟨_, h3, h4⟩
  · exact .inl h2
  · rw [e3] at h3; rw [e1] at h4
    exact .inr ⟨h4, hb b (by simp [h3])⟩
end Am

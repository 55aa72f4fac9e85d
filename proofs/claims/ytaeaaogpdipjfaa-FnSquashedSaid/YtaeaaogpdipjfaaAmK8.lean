/- Contracts: AmG6. -/
import Derived.Test.YtaeaaogpdipjfaaAmK7
/-! AmG6 -/
set_option linter.unusedVariables false
set_option linter.unusedSimpArgs false
set_option maxHeartbeats 4000000
set_option maxRecDepth 4000
namespace Am
open Go

theorem samP_refl (X : Pan) : samP X X = true := by simp [samP]
theorem okJ_siz {X : Jrn} (h : okJ X = true) : siz shJournal X ≤ 1048576 := by
  obtain ⟨⟨W, H, br⟩, p, f⟩ := X
  obtain ⟨ok, hle, _⟩ := okJ_parts h
  have := ok_len ok
  rw [siz_journal]; omega

theorem Vr.jpanel {h : Heap} {a b c d e : Value} {X : Jrn} (x : Vr h shJournal (.agg #[a, b, c, d, e]) X) : Vr h shPanel (.agg #[a, b, c]) X.1 := by
  obtain ⟨⟨W, H, br⟩, p, f⟩ := X
  obtain ⟨s, sp, sf, e', w1, w2, r1, _, _⟩ := x.journal
  simp at e'
  obtain ⟨rfl, rfl, rfl, rfl, rfl⟩ := e'
  exact Vr.of_panel w1 w2 r1
theorem nil_bytes {h : Heap} : Vr h shBytes (sl 0 0 0 0) ([] : List Int) := ⟨[sl 0 0 0 0], ⟨0, 0, 0, [], rfl, .inr ⟨rfl, rfl⟩, by simp, trivial, .inl rfl⟩, rfl⟩
theorem Vr.int_cell {h : Heap} {b o n z : Nat} {X : List Int} (x : Vr h shInts (sl b o n z) X) : n = X.length ∧ ∀ i (hi : i < X.length), cell h b (o + i) = some (I X[i]) := by
  obtain ⟨b', o', z', e, _, _, _, hc⟩ := x.ints
  simp at e
  obtain ⟨⟨rfl, rfl⟩, rfl, rfl⟩ := e
  refine ⟨rfl, fun i hi => ?_⟩
  rcases hc with hc | hc
  · subst hc; exact absurd hi (Nat.not_lt_zero _)
  · rw [(cell_in (i := i) hc hi).1]; show ((Am.ints X)[i]?) = _; unfold Am.ints; rw [List.getElem?_map, List.getElem?_eq_getElem hi]; rfl
theorem alongL_get {X : Jrn} {k i : Nat} (hi : i < (alongL X k).length) : (alongL X k)[i] = (curveN (X.1.1, X.1.2.1, fwdB X.2.1 (startB X) i) : Int) := by simp [alongL]
end Am

/- Contracts: DeskWords, and the law on it. -/
import Derived.Test.YtaifanhmihbilaaAmC4
import Derived.Test.YtaifanhmihbilaaAmTab
set_option linter.unusedVariables false
set_option linter.unusedSimpArgs false
set_option maxRecDepth 20000
namespace Am
open Go
def deskWords : List (List UInt8) := [[97, 108, 111, 110, 103], [98, 114, 97, 99, 107, 101, 116], [99, 111, 100, 101], [99, 111, 108, 117, 109, 110], [99, 111, 117, 110, 116], [108, 101, 110, 103, 116, 104, 115], [108, 105, 110, 107], [110, 101, 119], [112, 97, 115, 115, 101, 115], [112, 105, 99, 116, 117, 114, 101], [114, 101, 97, 100], [114, 101, 100, 111], [115, 101, 97, 114, 99, 104], [115, 101, 116], [115, 104, 111, 119], [115, 113, 117, 97, 115, 104], [117, 110, 100, 111], [119, 114, 105, 116, 104, 101]]
theorem words_len : deskWords.length = 18 := rfl

theorem c78 (h : Heap) : ACall Gam 78 [] h fun v h' => v = sl h.length 0 18 1 ∧ h' = h ++ [⟨texts deskWords, true⟩] := by
  refine ACall_intro g78 rfl ?_
  unfold fn78
  simp (disch := omega) [aBuildSlice, texts, deskWords]
theorem c581 (h : Heap) : ACall Gam 581 [] h fun v h' => v = sl h.length 0 18 1 ∧ h' = h ++ [⟨texts deskWords, true⟩] := by
  refine ACall_intro g581 rfl ?_
  unfold fn581
  simp (disch := omega) [aBuildSlice, texts, deskWords]
theorem c345 (h : Heap) : ACall Gam 345 [] h fun v h' => v = sl h.length 0 18 1 ∧ h' = h ++ [⟨texts deskWords, true⟩] := by
  refine ACall_intro g345 rfl ?_
  unfold fn345
  simp (disch := omega)
  refine callW_of (c581 h) ?_
  rintro v h' ⟨rfl, rfl⟩
  simp
theorem reads_block {h : Heap} {b n : Nat} {l : List (List UInt8)} {r : Bool} (hk : h[b]? = some ⟨texts l, r⟩) (hn : n = l.length) : Reads h (sl b 0 n 1) 1 (texts l) :=
  ⟨b, 0, n, rfl, by simp [texts, hn], .inr (by rw [cellsAt_of hk (by simp [texts, hn])]; simp [texts, hn, List.take_of_length_le])⟩

theorem law212 (h : Heap) (hp : 0 < h.length) : ACall Gam 212 [] h fun v _ => v = .bool true := by
  refine ACall_intro g212 rfl ?_
  unfold fn212
  simp (disch := omega)
  refine callW_of (c345 h) ?_
  rintro v h1 ⟨rfl, rfl⟩
  simp
  refine callW_of (c78 _) ?_
  rintro v h2 ⟨rfl, rfl⟩
  simp
  obtain ⟨h2, hh2⟩ : ∃ h2, h2 = h ++ [⟨texts deskWords, true⟩] ++ [⟨texts deskWords, true⟩] := ⟨_, rfl⟩
  have w1 : h2[h.length]? = some ⟨texts deskWords, true⟩ := by rw [hh2]; simp
  have w2 : h2[h.length + 1]? = some ⟨texts deskWords, true⟩ := by
    rw [hh2, List.getElem?_append_right (by simp)]; simp
  have e2 : h ++ [⟨texts deskWords, true⟩, ⟨texts deskWords, true⟩] = h2 := by rw [hh2]; simp
  simp only [e2]
  have r1 := reads_block (n := 18) w1 rfl
  have r2 := reads_block (n := 18) w2 rfl
  refine callW_of (c268 _ _ deskWords deskWords h2 r2 r1 (by simp [words_len]) (by simp [words_len])) ?_
  rintro v h3 ⟨rfl, rfl⟩
  simp
  have ho : Own h3 (h.length + 1) 0 18 := .inr ⟨_, w2, rfl, by simp [texts, words_len]⟩
  refine callW_of (c288 (h.length + 1) 0 18 1 h3 (by omega) ho) ?_
  rintro v h4 ⟨rfl, l4, rfl⟩
  simp
  have r3 : Reads (puts h3 (h.length + 1) 0 (texts (marks 1 18)) ++ l4) (sl (h.length + 1) 0 18 1) 1 (texts (marks 1 18)) := by
    refine ⟨h.length + 1, 0, 18, rfl, by rw [marks_length], .inr ?_⟩
    have := puts_read (l := l4) (o := 0) (vs := texts (marks 1 18)) w2 (by rw [marks_length]; simp [texts, words_len]) (by intro e; have := marks_length 1 18; rw [e] at this; simp at this)
    rw [marks_length] at this
    exact this
  have w4 : (puts h3 (h.length + 1) 0 (texts (marks 1 18)) ++ l4)[h.length]? = some ⟨texts deskWords, true⟩ := by
    rw [List.getElem?_append_left (by rw [puts_len]; exact at_lt w1), puts_other (by omega)]; exact w1
  refine callW_of (c281 _ (marks 1 18) 1 _ r3 (by simp [marks])) ?_
  rintro v h5 ⟨rfl, g5⟩
  have em : (if marks 1 18 = marks 1 (marks 1 18).length then I ((1 + (marks 1 18).length : Nat) : Int) else I (-1)) = I 19 := by
    have : (marks 1 18).length = 18 := by simp [marks]
    rw [this]; simp
  rw [em]
  simp
  refine callW_of (c78 h5) ?_
  rintro v h6 ⟨rfl, rfl⟩
  simp
  have g6 := g5.push ⟨texts deskWords, true⟩
  have r6 := reads_block (n := 18) (h := h5 ++ [⟨texts deskWords, true⟩]) (b := h5.length) (r := true) (l := deskWords) (by simp) rfl
  refine callW_of (c268 _ _ deskWords deskWords _ r6 (reads_block (n := 18) (g6.at w4) rfl) (by simp [words_len]) (by simp [words_len])) ?_
  rintro v h7 ⟨rfl, rfl⟩
  simp
  refine callW_of (c281 _ (marks 1 18) 1 _ (r3.grow g6) (by simp [marks])) ?_
  rintro v h8 ⟨rfl, g8⟩
  rw [em]
  simp
end Am

/- Slices of a call's own that grow: for contracts. -/
import Derived.Test.YtpdhmojncndobaaAmSimp
set_option linter.unusedVariables false
set_option linter.unusedSimpArgs false
namespace Am
open Go

theorem Grows.push {h0 h : Heap} (g : Grows h0 h) (k : Blk) : Grows h0 (h ++ [k]) := g.trans ⟨[k], rfl⟩
theorem Grows.put {h0 h : Heap} (g : Grows h0 h) {b : Nat} (hb : h0.length ≤ b) (k : Blk) : Grows h0 (h.set b k) := by
  obtain ⟨l, rfl⟩ := g
  exact ⟨l.set (b - h0.length) k, by rw [List.set_append_right _ _ hb]⟩
theorem Grows.le {h0 h : Heap} (g : Grows h0 h) : h0.length ≤ h.length := by obtain ⟨l, rfl⟩ := g; simp
theorem Grows.at {h0 h : Heap} (g : Grows h0 h) {b : Nat} {k : Blk} (hk : h0[b]? = some k) : h[b]? = some k := by
  obtain ⟨l, rfl⟩ := g
  rw [List.getElem?_append_left (List.getElem?_eq_some_iff.1 hk).1]; exact hk
theorem push_at {h : Heap} {b : Nat} {k x : Blk} (hk : h[b]? = some k) : (h ++ [x])[b]? = some k := Grows.at ⟨[x], rfl⟩ hk
theorem at_lt {h : Heap} {b : Nat} {k : Blk} (hk : h[b]? = some k) : b < h.length := (List.getElem?_eq_some_iff.1 hk).1
theorem put_at {h : Heap} {b c : Nat} {k x : Blk} (hk : h[c]? = some k) (hne : c ≠ b) : (h.set b x)[c]? = some k := by
  rw [List.getElem?_set_ne (fun e => hne e.symm)]; exact hk

theorem cellsAt_of {h : Heap} {b o n : Nat} {k : Blk} (hk : h[b]? = some k) (hn : o + n ≤ k.cells.length) : cellsAt h b o n = some ((k.cells.drop o).take n) := by
  simp [cellsAt, hk, hn]
theorem cellsAt_all {h : Heap} {b n : Nat} {cs : List Value} {rw : Bool} (hk : h[b]? = some ⟨cs, rw⟩) (hn : n = cs.length) : cellsAt h b 0 n = some cs := by
  subst hn; rw [cellsAt_of hk (by simp)]; simp
theorem cell_of {h : Heap} {b i : Nat} {k : Blk} {v : Value} (hk : h[b]? = some k) (hv : k.cells[i]? = some v) : cell h b i = some v := by
  simp [cell, hk, hv]

/-- A slice whose cells are these: an empty one without memory, or a block of the call's own (from h0's end on). -/
def Buf (h0 h : Heap) (v : Value) (z : Nat) (cs : List Value) : Prop := (cs = [] ∧ v = sl 0 0 0 z) ∨ ∃ b n, v = sl b 0 n z ∧ n * z = cs.length ∧ h0.length ≤ b ∧ h[b]? = some ⟨cs, true⟩

theorem Buf.nil {h0 h : Heap} {z : Nat} : Buf h0 h (sl 0 0 0 z) z [] := .inl ⟨rfl, rfl⟩
theorem Buf.grow {h0 h h' : Heap} {v : Value} {z : Nat} {cs : List Value} (x : Buf h0 h v z cs) (g : Grows h h') : Buf h0 h' v z cs := by
  rcases x with x | ⟨b, n, h1, h2, h3, h4⟩
  · exact .inl x
  · exact .inr ⟨b, n, h1, h2, h3, g.at h4⟩

/-- APPENDING TO IT. -/
theorem append_buf {h0 h : Heap} {v x : Value} {z : Nat} {cs new : List Value} {k : Value → Heap → Prop} (hp : 0 < h0.length) (g : Grows h0 h) (hv : Buf h0 h v z cs) (hn : newCells z h x = some new) (hz : 0 < z) (hne : new ≠ []) (hm : new.length / z * z = new.length)
    (hmax : cs.length + new.length ≤ maxSize) (hk : ∀ v' h', Grows h0 h' → Buf h0 h' v' z (cs ++ new) → (∀ c kk, h[c]? = some kk → (∀ n, v ≠ sl c 0 n z) → h'[c]? = some kk) → k v' h') : bindW (aAppend z h x v) k := by
  rcases hv with ⟨rfl, rfl⟩ | ⟨b, n, rfl, h2, h3, h4⟩
  · have e : aAppend z h x (sl 0 0 0 z) = some (sl h.length 0 (new.length / z) z, h ++ [⟨new, true⟩]) := by
      simp only [aAppend, hn]
      rw [if_neg (by omega), if_neg hne, if_neg (by simp at hmax; omega), if_pos trivial]
    rw [e]
    refine hk _ _ (g.push _) (.inr ⟨h.length, _, rfl, hm, g.le, by simp⟩) fun c kk hc _ => push_at hc
  · have hnz : n ≤ cs.length := by rw [← h2]; exact Nat.le_mul_of_pos_right n hz
    have e : aAppend z h x (sl b 0 n z) = some (sl h.length 0 (n + new.length / z) z, h.set b ⟨[], false⟩ ++ [⟨cs ++ new, true⟩]) := by
      simp only [aAppend, hn]
      rw [if_neg (by omega), if_neg hne, if_neg (by omega), if_neg (by omega)]
      simp only [h4]
      rw [if_pos ⟨trivial, trivial⟩, cellsAt_all h4 h2]
    rw [e]
    have hb := at_lt h4
    refine hk _ _ ((g.put h3 _).push _) (.inr ⟨h.length, _, rfl, by rw [Nat.add_mul, hm, h2]; simp, g.le, by simp⟩) fun c kk hc hne' => ?_
    exact push_at (put_at hc fun e => hne' n (by rw [e]))

theorem cell_in {h : Heap} {b o n i : Nat} {cs : List Value} (hc : cellsAt h b o n = some cs) (hi : i < n) : cell h b (o + i) = cs[i]? ∧ cs.length = n := by
  unfold cellsAt at hc
  unfold cell
  split at hc
  · rename_i k hk
    split at hc
    · injection hc with hc; subst hc
      rw [List.getElem?_take_of_lt hi, List.getElem?_drop]
      exact ⟨rfl, by simp; omega⟩
    · simp at hc
  · simp at hc
theorem cellsAt_in {h : Heap} {b o n i m : Nat} {cs : List Value} (hc : cellsAt h b o n = some cs) (hi : i + m ≤ n) : cellsAt h b (o + i) m = some ((cs.drop i).take m) := by
  unfold cellsAt at hc ⊢
  split at hc
  · rename_i k hk
    split at hc
    · rename_i hl
      injection hc with hc; subst hc
      rw [if_pos (by omega), List.drop_take, List.drop_drop, List.take_take]
      congr 2
      omega
    · simp at hc
  · simp at hc
theorem cellsAt_len {h : Heap} {b o n : Nat} {cs : List Value} (hc : cellsAt h b o n = some cs) : cs.length = n := by
  unfold cellsAt at hc
  split at hc
  · split at hc
    · injection hc with hc; subst hc; simp; omega
    · simp at hc
  · simp at hc
theorem Grows.cellsAt {h h' : Heap} (g : Grows h h') {b o n : Nat} {cs : List Value} (hc : Am.cellsAt h b o n = some cs) : Am.cellsAt h' b o n = some cs := by
  unfold Am.cellsAt at hc ⊢
  split at hc
  · rename_i k hk
    rw [g.at hk]; exact hc
  · simp at hc

/-- The slice holds these cells. -/
def Reads (h : Heap) (v : Value) (z : Nat) (cs : List Value) : Prop := ∃ b o n, v = sl b o n z ∧ n * z = cs.length ∧ (n = 0 ∨ cellsAt h b o (n * z) = some cs)
theorem Reads.grow {h h' : Heap} {v : Value} {z : Nat} {cs : List Value} (x : Reads h v z cs) (g : Grows h h') : Reads h' v z cs := by
  obtain ⟨b, o, n, h1, h2, h3⟩ := x
  exact ⟨b, o, n, h1, h2, h3.imp id fun h => g.cellsAt h⟩
theorem Buf.reads {h0 h : Heap} {v : Value} {z : Nat} {cs : List Value} (x : Buf h0 h v z cs) : Reads h v z cs := by
  rcases x with ⟨rfl, rfl⟩ | ⟨b, n, rfl, h2, h3, h4⟩
  · exact ⟨0, 0, 0, rfl, by simp, .inl rfl⟩
  · exact ⟨b, 0, n, rfl, h2, .inr (cellsAt_all h4 h2)⟩

/-! ### writing a slice, cell by cell -/
/-- The heap with these cells written from there on. -/
def puts (h : Heap) (b o : Nat) (vs : List Value) : Heap := if vs.isEmpty then h else match h[b]? with
  | some k => h.set b ⟨splice k.cells o vs, true⟩
  | none => h
theorem puts_nil {h : Heap} {b o : Nat} : puts h b o [] = h := rfl
theorem puts_len {h : Heap} {b o : Nat} {vs : List Value} : (puts h b o vs).length = h.length := by
  unfold puts
  split
  · rfl
  · split <;> simp
theorem puts_of {h : Heap} {b o : Nat} {vs : List Value} {k : Blk} (hk : h[b]? = some k) (hne : vs ≠ []) : puts h b o vs = h.set b ⟨splice k.cells o vs, true⟩ := by
  unfold puts
  rw [if_neg (by cases vs <;> simp_all), hk]
theorem puts_other {h : Heap} {b o c : Nat} {vs : List Value} (hc : c ≠ b) : (puts h b o vs)[c]? = h[c]? := by
  unfold puts
  split
  · rfl
  · split
    · exact List.getElem?_set_ne (fun e => hc e.symm)
    · rfl
theorem splice_len {cs vs : List Value} {o : Nat} (h : o + vs.length ≤ cs.length) : (splice cs o vs).length = cs.length := by simp; omega
theorem splice_splice {cs vs xs : List Value} {o : Nat} (h : o + vs.length + xs.length ≤ cs.length) : splice (splice cs o vs) (o + vs.length) xs = splice cs o (vs ++ xs) := by
  unfold splice
  have h1 : (cs.take o).length = o := by simp; omega
  have h2 : (cs.take o ++ vs ++ cs.drop (o + vs.length)).take (o + vs.length) = cs.take o ++ vs := by
    rw [List.take_append_of_le_length (by simp; omega), List.take_of_length_le (by simp; omega)]
  have h3 : (cs.take o ++ vs ++ cs.drop (o + vs.length)).drop (o + vs.length + xs.length) = cs.drop (o + (vs ++ xs).length) := by
    rw [List.drop_append, List.drop_eq_nil_of_le (by simp; omega)]
    simp [h1, List.drop_drop]
    congr 1
    omega
  rw [h2, h3]
  simp
theorem puts_store {h l : Heap} {b o : Nat} {vs xs : List Value} {k : Blk} (hk : h[b]? = some k) (hrw : k.rw = true) (hfit : o + vs.length + xs.length ≤ k.cells.length) (hne : xs ≠ []) :
    storeAt (puts h b o vs ++ l) b (o + vs.length) xs = some (puts h b o (vs ++ xs) ++ l) := by
  have hb := at_lt hk
  by_cases hv : vs = []
  · subst hv
    rw [puts_nil, puts_of hk (by simpa using hne)]
    unfold storeAt
    rw [List.getElem?_append_left hb, hk]
    simp only [List.length_nil, Nat.add_zero] at hfit ⊢
    rw [if_pos ⟨hrw, hfit⟩, List.set_append_left _ _ hb]
    simp
  · rw [puts_of hk hv, puts_of hk (by simp [hv])]
    unfold storeAt
    rw [List.getElem?_append_left (by simpa using hb)]
    simp only [List.getElem?_set_self hb]
    rw [if_pos ⟨trivial, by rw [splice_len (by omega)]; exact hfit⟩, List.set_append_left _ _ (by simpa using hb), splice_splice hfit]
    simp
theorem puts_read {h l : Heap} {b o : Nat} {vs : List Value} {k : Blk} (hk : h[b]? = some k) (hfit : o + vs.length ≤ k.cells.length) (hne : vs ≠ []) : cellsAt (puts h b o vs ++ l) b o vs.length = some vs := by
  have hb := at_lt hk
  rw [puts_of hk hne, cellsAt_of (k := ⟨splice k.cells o vs, true⟩)]
  · unfold splice
    rw [List.append_assoc, List.drop_append_of_le_length (by simp; omega), List.drop_of_length_le (by simp; omega)]
    simp
  · rw [List.getElem?_append_left (by simpa using hb)]; simp [hb]
  · rw [splice_len hfit]; exact hfit
/-- Cells that one may write. -/
def Own (h : Heap) (b o n : Nat) : Prop := n = 0 ∨ ∃ k, h[b]? = some k ∧ k.rw = true ∧ o + n ≤ k.cells.length
end Am

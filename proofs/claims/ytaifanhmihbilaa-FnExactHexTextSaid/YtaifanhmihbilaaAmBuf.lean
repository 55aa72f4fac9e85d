/- Slices of a call's own that grow: for contracts. -/
import Derived.Test.YtaifanhmihbilaaAmSimp
set_option linter.unusedVariables false
set_option linter.unusedSimpArgs false
namespace Am
open Go

theorem Grows.push {h0 h : Heap} (g : Grows h0 h) (k : Blk) : Grows h0 (h ++ [k]) := g.trans ⟨[k], rfl⟩
theorem Grows.put {h0 h : Heap} (g : Grows h0 h) {b : Nat} (hb : h0.length ≤ b) (k : Blk) : Grows h0 (h.set b k) := by
  obtain ⟨l, rfl⟩ := g
  exact ⟨l.set (b - h0.length) k, by rw [List.set_append_right _ _ hb]⟩
theorem Grows.le {h0 h : Heap} (g : Grows h0 h) : h0.length ≤ h.length := by obtain ⟨l, rfl⟩ := g; simp
theorem Grows.at {h0 h : Heap} (g : Grows h0 h) {b : Nat} {k : Blk} (hk : h0[b]? = some k) : h[b]? = some k := by
  obtain ⟨l, rfl⟩ := g
  rw [List.getElem?_append_left (List.getElem?_eq_some_iff.1 hk).1]; exact hk
theorem push_at {h : Heap} {b : Nat} {k x : Blk} (hk : h[b]? = some k) : (h ++ [x])[b]? = some k := Grows.at ⟨[x], rfl⟩ hk
theorem at_lt {h : Heap} {b : Nat} {k : Blk} (hk : h[b]? = some k) : b < h.length := (List.getElem?_eq_some_iff.1 hk).1
theorem put_at {h : Heap} {b c : Nat} {k x : Blk} (hk : h[c]? = some k) (hne : c ≠ b) : (h.set b x)[c]? = some k := by
  rw [List.getElem?_set_ne (fun e => hne e.symm)]; exact hk

theorem cellsAt_of {h : Heap} {b o n : Nat} {k : Blk} (hk : h[b]? = some k) (hn : o + n ≤ k.cells.length) : cellsAt h b o n = some ((k.cells.drop o).take n) := by
  simp [cellsAt, hk, hn]
theorem cellsAt_all {h : Heap} {b n : Nat} {cs : List Value} {rw : Bool} (hk : h[b]? = some ⟨cs, rw⟩) (hn : n = cs.length) : cellsAt h b 0 n = some cs := by
  subst hn; rw [cellsAt_of hk (by simp)]; simp
theorem cell_of {h : Heap} {b i : Nat} {k : Blk} {v : Value} (hk : h[b]? = some k) (hv : k.cells[i]? = some v) : cell h b i = some v := by
  simp [cell, hk, hv]

/-- A slice whose cells are these: an empty one without memory, or a block of the call's own (from h0's end on). -/
def Buf (h0 h : Heap) (v : Value) (z : Nat) (cs : List Value) : Prop := (cs = [] ∧ v = sl 0 0 0 z) ∨ ∃ b n, v = sl b 0 n z ∧ n * z = cs.length ∧ h0.length ≤ b ∧ h[b]? = some ⟨cs, true⟩

theorem Buf.nil {h0 h : Heap} {z : Nat} : Buf h0 h (sl 0 0 0 z) z [] := .inl ⟨rfl, rfl⟩
theorem Buf.grow {h0 h h' : Heap} {v : Value} {z : Nat} {cs : List Value} (x : Buf h0 h v z cs) (g : Grows h h') : Buf h0 h' v z cs := by
  rcases x with x | ⟨b, n, h1, h2, h3, h4⟩
  · exact .inl x
  · exact .inr ⟨b, n, h1, h2, h3, g.at h4⟩

/-- APPENDING TO IT. -/
theorem append_buf {h0 h : Heap} {v x : Value} {z : Nat} {cs new : List Value} {k : Value → Heap → Prop} (hp : 0 < h0.length) (g : Grows h0 h) (hv : Buf h0 h v z cs) (hn : newCells z h x = some new) (hz : 0 < z) (hne : new ≠ []) (hm : new.length / z * z = new.length)
    (hmax : cs.length + new.length ≤ maxSize) (hk : ∀ v' h', Grows h0 h' → Buf h0 h' v' z (cs ++ new) → (∀ c kk, h[c]? = some kk → (∀ n, v ≠ sl c 0 n z) → h'[c]? = some kk) → k v' h') : bindW (aAppend z h x v) k := by
  rcases hv with ⟨rfl, rfl⟩ | ⟨b, n, rfl, h2, h3, h4⟩
  · have e : aAppend z h x (sl 0 0 0 z) = some (sl h.length 0 (new.length / z) z, h ++ [⟨new, true⟩]) := by
      simp only [aAppend, hn]
      rw [if_neg (by omega), if_neg hne, if_neg (by simp at hmax; omega), if_pos trivial]
    rw [e]
    refine hk _ _ (g.push _) (.inr ⟨h.length, _, rfl, hm, g.le, by simp⟩) fun c kk hc _ => push_at hc
  · have hnz : n ≤ cs.length := by rw [← h2]; exact Nat.le_mul_of_pos_right n hz
    have e : aAppend z h x (sl b 0 n z) = some (sl h.length 0 (n + new.length / z) z, h.set b ⟨[], false⟩ ++ [⟨cs ++ new, true⟩]) := by
      simp only [aAppend, hn]
      rw [if_neg (by omega), if_neg hne, if_neg (by omega), if_neg (by omega)]
      simp only [h4]
      rw [if_pos ⟨trivial, trivial⟩, cellsAt_all h4 h2]
    rw [e]
    have hb := at_lt h4
    refine hk _ _ ((g.put h3 _).push _) (.inr ⟨h.length, _, rfl, by rw [Nat.add_mul, hm, h2]; simp, g.le, by simp⟩) fun c kk hc hne' => ?_
    exact push_at (put_at hc fun e => hne' n (by rw [e]))
end Am

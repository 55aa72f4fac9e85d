/- Contracts: slices of texts: equal, marked, held; the law on DeskWords. -/
import Derived.Test.YtpdhmojncndobaaAmBuf
import Derived.Test.YtpdhmojncndobaaAmC2
set_option linter.unusedVariables false
set_option linter.unusedSimpArgs false
set_option maxHeartbeats 4000000
namespace Am
open Go

/-! ### blocks -/
theorem set_push {h : Heap} {b : Nat} {k : Blk} {l : List Blk} (hb : b < h.length) : (h ++ l).set b k = h.set b k ++ l := List.set_append_left _ _ hb
theorem set_twice {h : Heap} {b : Nat} {k k' : Blk} : (h.set b k).set b k' = h.set b k' := by simp
theorem set_get {h : Heap} {b : Nat} {k : Blk} {l : List Blk} (hb : b < h.length) : (h.set b k ++ l)[b]? = some k := by
  rw [List.getElem?_append_left (by simpa using hb)]; simp [hb]

/-! ### marks -/
def digs : Nat → Nat → List UInt8 → List UInt8
  | 0, _, acc => acc
  | f + 1, r, acc => if r = 0 then acc else digs f (r / 10) (UInt8.ofNat (48 + r % 10) :: acc)
def markOf (m : Nat) : List UInt8 := if m = 0 then [109, 48] else 109 :: digs m m []

theorem c289 (m : Nat) (hm : m ≤ 1099511627776) (h : Heap) : ACall Gam 289 [I m] h fun v h' => v = S (markOf m) ∧ Grows h h' := by
  refine ACall_intro g289 rfl ?_
  unfold fn289
  simp (disch := omega)
  refine fork_dec (fun h0 => ?_) (fun h0 => ?_)
  · have : m = 0 := by omega
    subst this
    simp [markOf, Grows.refl]
  · simp (disch := omega)
    refine awp_loop (fun (p : Nat × Nat) σ h' => Grows h h' ∧ p.1 ≤ p.2 ∧ ∃ acc : List UInt8, acc.length + p.1 ≤ m ∧ digs p.2 p.1 acc = digs m m [] ∧ σ 0 = I p.1 ∧ σ 3 = S acc) (fun p => p.1) (m, m) ?_ ?_
    · simp [Grows.refl]
    · rintro ⟨r, f⟩ σ h' ⟨hg, hrf, acc, ha, hd, h0', h3⟩
      simp (disch := omega) [h0']
      refine fork_dec (fun hlt => ?_) (fun hge => ?_)
      · have hr : 0 < r := by omega
        obtain ⟨f, rfl⟩ : ∃ f', f = f' + 1 := ⟨f - 1, by omega⟩
        simp (disch := omega) [h0', h3]
        have e2 : IntKind.u8.wrap (IntKind.i64.wrap (48 + Int.tmod (r : Int) 10)) = ((48 + r % 10 : Nat) : Int) := by
          rw [tmod_pos (by omega), wrap64 (by omega) (by omega), wrap8 (by omega) (by omega)]; omega
        rw [e2]
        obtain ⟨x, hx⟩ : ∃ x, x = 48 + r % 10 := ⟨_, rfl⟩
        rw [← hx]
        have e3 : aBuildSlice 1 1 h' [(0, Value.agg #[U 0]), (1, U (x : Int))] = some (sl h'.length 0 1 1, h' ++ [⟨[U (x : Int)], true⟩]) := by simp [aBuildSlice]
        rw [e3]
        simp only [bindW_some]
        have e4 : aConv 21 (sl h'.length 0 1 1) (h' ++ [⟨[U (x : Int)], true⟩]) = some (S [UInt8.ofNat (x)], h' ++ [⟨[U (x : Int)], true⟩]) := by
          simp [aConv, cellsAt, asInts]
        rw [e4]
        simp only [bindW_some]
        have ha' : acc.length + r ≤ m := ha
        have hd' : digs f (r / 10) (UInt8.ofNat (x) :: acc) = digs m m [] := by
          have : digs (f + 1) r acc = digs m m [] := hd
          rw [digs, if_neg (by omega), ← hx] at this
          exact this
        have hrf' : r ≤ f + 1 := hrf
        simp (disch := omega)
        rw [if_pos (by omega)]
        simp only [with_some, bindW_some]
        refine ⟨r / 10, ⟨hg.push _, f, by omega, UInt8.ofNat (x) :: acc, by simp; omega, hd', ?_, rfl⟩, by omega⟩
        rw [wrap64 (by omega) (by omega)]; omega
      · have hr : r = 0 := by omega
        subst hr
        have ha' : acc.length + 0 ≤ m := ha
        have hd' : digs f 0 acc = digs m m [] := hd
        have hz : ∀ f, digs f 0 acc = acc := fun f => by cases f <;> simp [digs]
        rw [hz] at hd'
        simp (disch := omega) [h0', h3]
        rw [if_pos (by omega)]
        simp only [with_some, bindW_some]
        exact ⟨by rw [markOf, if_neg h0, hd'], hg⟩

/-! ### texts -/
def texts (l : List (List UInt8)) : List Value := l.map S
theorem texts_cell {h : Heap} {b o n k : Nat} {l : List (List UInt8)} (hr : n = 0 ∨ cellsAt h b o (n * 1) = some (texts l)) (hn : n * 1 = (texts l).length) (hk : k < l.length) : cell h b (o + k) = some (S l[k]) := by
  have hl : n = l.length := by simpa [texts] using hn
  rcases hr with h0 | hr
  · omega
  · rw [(cell_in (i := k) hr (by omega)).1]
    simp [texts, hk]

theorem c268 (v1 v2 : Value) (l1 l2 : List (List UInt8)) (h : Heap) (h1 : Reads h v1 1 (texts l1)) (h2 : Reads h v2 1 (texts l2)) (hm : l1.length ≤ 1099511627776) (hm2 : l2.length ≤ 1099511627776) : ACall Gam 268 [v1, v2] h fun v h' => v = B (decide (l1 = l2)) ∧ h' = h := by
  obtain ⟨b1, o1, n1, rfl, hn1, hr1⟩ := h1
  obtain ⟨b2, o2, n2, rfl, hn2, hr2⟩ := h2
  have e1 : n1 = l1.length := by simpa [texts] using hn1
  have e2 : n2 = l2.length := by simpa [texts] using hn2
  refine ACall_intro g268 rfl ?_
  unfold fn268
  simp (disch := omega)
  refine fork_dec (fun heq => ?_) (fun hne => ?_)
  · simp (disch := omega)
    refine awp_loop (fun k σ h' => h' = h ∧ k ≤ l1.length ∧ l1.take k = l2.take k ∧ σ 0 = sl b1 o1 n1 1 ∧ σ 1 = sl b2 o2 n2 1 ∧ σ 5 = I k) (fun k => l1.length - k) 0 ?_ ?_
    · simp
    · rintro k σ h' ⟨rfl, hk, ht, h0, h1, h5⟩
      simp (disch := omega) [h0, h1, h5]
      refine fork_dec (fun hlt => ?_) (fun hge => ?_)
      · have k1 : k < l1.length := by omega
        have k2 : k < l2.length := by omega
        simp (disch := omega) [h0, h1, h5, texts_cell hr1 hn1 k1, texts_cell hr2 hn2 k2, hlt, show k < n2 by omega]
        refine fork_dec (fun he => ?_) (fun he => ?_)
        · simp (disch := omega) [h0, h1, h5]
          refine ⟨k + 1, ⟨by omega, ?_, ?_⟩, by omega⟩
          · rw [List.take_succ_eq_append_getElem k1, List.take_succ_eq_append_getElem k2, ht, he]
          · rw [wrap64 (by omega) (by omega)]; simp
        · simp (disch := omega) [h0, h1, h5]
          intro e; subst e; exact he rfl
      · simp (disch := omega) [h0, h1, h5]
        have q1 : k = l1.length := by omega
        have q2 : l1.length = l2.length := by omega
        subst q1
        rw [List.take_length, q2, List.take_length] at ht
        exact ht
  · simp (disch := omega)
    intro e; rw [e] at e1; omega

def marks (m n : Nat) : List (List UInt8) := (List.range n).map fun i => markOf (m + i)
theorem marks_succ (m n : Nat) : marks m (n + 1) = marks m n ++ [markOf (m + n)] := by simp [marks, List.range_succ]
theorem texts_append (a b : List (List UInt8)) : texts (a ++ b) = texts a ++ texts b := by simp [texts]
theorem marks_length (m n : Nat) : (texts (marks m n)).length = n := by simp [texts, marks]

theorem c288 (b o n m : Nat) (h : Heap) (hm : m + n ≤ 1099511627776) (ho : Own h b o n) : ACall Gam 288 [sl b o n 1, I m] h fun v h' => v = I ((m + n : Nat) : Int) ∧ ∃ l, h' = puts h b o (texts (marks m n)) ++ l := by
  refine ACall_intro g288 rfl ?_
  unfold fn288
  simp (disch := omega)
  refine awp_loop (fun k σ h' => k ≤ n ∧ (∃ l, h' = puts h b o (texts (marks m k)) ++ l) ∧ σ 0 = sl b o n 1 ∧ σ 1 = I ((m + k : Nat) : Int) ∧ σ 5 = I k) (fun k => n - k) 0 ?_ ?_
  · exact ⟨by omega, ⟨[], by simp [marks, texts, puts]⟩, by simp, by simp, by simp⟩
  · rintro k σ h' ⟨hk, ⟨l, rfl⟩, h0, h1, h5⟩
    simp (disch := omega) [h0, h1, h5]
    refine fork_dec (fun hlt => ?_) (fun hge => ?_)
    · simp (disch := omega) [h0, h1, h5, hlt]
      refine callW_of (c289 (m + k) (by omega) _) ?_
      rintro v h' ⟨rfl, l', rfl⟩
      obtain ⟨kk, q1, q2, q3⟩ := ho.resolve_left (by omega)
      have hst := puts_store (o := o) (l := l ++ l') (vs := texts (marks m k)) (xs := [S (markOf (m + k))]) q1 q2 (by rw [marks_length]; simp; omega) (by simp)
      rw [marks_length] at hst
      have e : texts (marks m k) ++ [S (markOf (m + k))] = texts (marks m (k + 1)) := by rw [marks_succ, texts_append]; simp [texts]
      rw [e] at hst
      simp (disch := omega) [h0, h1, h5, hlt, hst, wrap64]
      exact ⟨k + 1, ⟨by omega, ⟨_, rfl⟩, by omega, by omega⟩, by omega⟩
    · have : k = n := by omega
      subst this
      simp (disch := omega) [h0, h1, h5]

/-- Whether the texts are these marks. -/
theorem c281 (v : Value) (l : List (List UInt8)) (m : Nat) (h : Heap) (hv : Reads h v 1 (texts l)) (hm : m + l.length ≤ 1099511627776) : ACall Gam 281 [v, I m] h fun v h' => (v = if l = marks m l.length then I ((m + l.length : Nat) : Int) else I (-1)) ∧ Grows h h' := by
  obtain ⟨b, o, n, rfl, hn, hr⟩ := hv
  have e1 : n = l.length := by simpa [texts] using hn
  refine ACall_intro g281 rfl ?_
  unfold fn281
  simp (disch := omega)
  refine awp_loop (fun k σ h' => k ≤ n ∧ Grows h h' ∧ l.take k = marks m k ∧ σ 0 = sl b o n 1 ∧ σ 1 = I ((m + k : Nat) : Int) ∧ σ 5 = I k) (fun k => n - k) 0 ?_ ?_
  · simp [Grows.refl, marks]
  · rintro k σ h' ⟨hk, hg, ht, h0, h1, h5⟩
    simp (disch := omega) [h0, h1, h5]
    refine fork_dec (fun hlt => ?_) (fun hge => ?_)
    · have k1 : k < l.length := by omega
      have hcell := texts_cell (h := h') (hr.imp id fun h => hg.cellsAt h) hn k1
      simp (disch := omega) [h0, h1, h5, hlt, hcell]
      refine callW_of (c289 (m + k) (by omega) _) ?_
      rintro v h'' ⟨rfl, hg'⟩
      refine ⟨fun _ => hg', ?_⟩
      simp
      refine fork_dec (fun he => ?_) (fun he => ?_)
      · simp (disch := omega) [h0, h1, h5, wrap64]
        refine ⟨k + 1, ⟨by omega, hg.trans hg', ?_, by omega, by omega⟩, by omega⟩
        rw [List.take_succ_eq_append_getElem k1, ht, he, marks_succ]
      · simp (disch := omega) [h0, h1, h5]
        refine ⟨?_, hg.trans hg'⟩
        intro e
        exfalso
        apply he
        have h2 : l[k]? = (marks m l.length)[k]? := by rw [← e]
        rw [List.getElem?_eq_getElem k1] at h2
        simpa [marks, k1] using h2
    · have : k = n := by omega
      subst this
      subst e1
      rw [List.take_length] at ht
      simp (disch := omega) [h0, h1, h5]
      exact ⟨fun hne => absurd ht hne, hg⟩
end Am

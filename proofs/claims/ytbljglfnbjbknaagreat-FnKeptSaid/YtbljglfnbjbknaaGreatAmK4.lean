/- Contracts: AmY7, AmY2, AmY3. -/
import Derived.Test.YtbljglfnbjbknaaGreatAmK2
import Derived.Test.YtbljglfnbjbknaaGreatAmK3
set_option linter.unusedVariables false
set_option linter.unusedSimpArgs false
set_option maxHeartbeats 4000000
set_option maxRecDepth 40000
namespace Am
open Go
section
variable {α : Type} (f R : α → α) (seg : α → Nat) (V : α → Prop) (N : Nat)
def itW (f : α → α) : Nat → α → α
 | 0, w => w
 | k + 1, w => f (itW f k w)
theorem itW_add {f : α → α} (i j : Nat) (w : α) : itW f (i + j) w = itW f j (itW f i w) := by
 induction j with
 | zero => rfl
 | succ j ih => rw [← Nat.add_assoc]; simp only [itW]; rw [ih]
/-- What makes the curves of walkers closed. -/
structure Walks : Prop where
 vf : ∀ w, V w → V (f w)
 vr : ∀ w, V w → V (R w)
 rr : ∀ w, R (R w) = w
 fr : ∀ w, V w → f (R (f w)) = R w
 ne : ∀ w, V w → f w ≠ R w
 nr : ∀ w, V w → R w ≠ w
 sg : ∀ w v, V w → V v → (seg w = seg v ↔ w = v ∨ w = R v)
 lt : ∀ w, V w → seg w < N
variable {f R seg V N}
theorem Walks.vi (a : Walks f R seg V N) {w : α} (h : V w) : ∀ k, V (itW f k w)
 | 0 => h
 | k + 1 => a.vf _ (a.vi h k)
theorem Walks.inj (a : Walks f R seg V N) {w v : α} (h1 : V w) (h2 : V v) (e : f w = f v) : w = v := by
 have e1 := a.fr w h1
 have e2 := a.fr v h2
 rw [e, e2] at e1
 rw [← a.rr w, ← e1, a.rr]
/-- A walker turned back walks back. -/
theorem Walks.back (a : Walks f R seg V N) {w : α} (h : V w) : ∀ k, itW f k (R (itW f k w)) = R w
 | 0 => rfl
 | k + 1 => by
  have e := a.fr _ (a.vi h k)
  have := a.back h k
  rw [show k + 1 = 1 + k by omega, itW_add, Nat.add_comm]
  simp only [itW]
  rw [e]; exact this
theorem Walks.injI (a : Walks f R seg V N) {u v : α} (h : V u) (h' : V v) : ∀ k, itW f k u = itW f k v → u = v
 | 0, e => e
 | k + 1, e => a.injI h h' k (a.inj (a.vi h k) (a.vi h' k) e)
theorem Walks.never (a : Walks f R seg V N) {w : α} (h : V w) (m : Nat) : itW f m w ≠ R w := by
 intro e
 rcases Nat.mod_two_eq_zero_or_one m with hm | hm
 ·obtain ⟨k, rfl⟩ : ∃ k, m = k + k := ⟨m / 2, by omega⟩
  rw [itW_add] at e
  have hb := a.back h k
  rw [← e] at hb
  have := a.injI (a.vr _ (a.vi h k)) (a.vi h k) k hb
  exact a.nr _ (a.vi h k) this
 ·obtain ⟨k, rfl⟩ : ∃ k, m = k + 1 + k := ⟨m / 2, by omega⟩
  rw [itW_add] at e
  have hb := a.back h k
  rw [← e] at hb
  have := a.injI (a.vr _ (a.vi h k)) (a.vi h (k + 1)) k hb
  exact a.ne _ (a.vi h k) this.symm
theorem Walks.same (a : Walks f R seg V N) {w : α} (h : V w) {i j : Nat} (hij : i ≤ j) (e : seg (itW f i w) = seg (itW f j w)) : itW f (j - i) w = w := by
 have hi := a.vi h i
 have hj := a.vi h j
 rcases (a.sg _ _ hj hi).1 e.symm with q | q
 ·have : itW f i (itW f (j - i) w) = itW f i w := by
   rw [← itW_add, show j - i + i = j by omega, q]
  exact a.injI (a.vi h (j - i)) h i this
 ·exfalso
  refine a.never hi (j - i) ?_
  rw [← itW_add, show i + (j - i) = j by omega]; exact q
theorem pigeon : ∀ (n : Nat) (g : Nat → Nat), (∀ i, i ≤ n → g i < n) → ∃ i j, i < j ∧ j ≤ n ∧ g i = g j
 | 0, g, hb => by have := hb 0 (Nat.le_refl _); omega
 | n + 1, g, hb => by
  by_cases q : ∃ i, i ≤ n ∧ g i = g (n + 1)
  ·obtain ⟨i, h1, h2⟩ := q
   exact ⟨i, n + 1, by omega, Nat.le_refl _, h2⟩
  ·have hc := hb (n + 1) (Nat.le_refl _)
   have hne : ∀ i, i ≤ n → g i ≠ g (n + 1) := fun i hi e => q ⟨i, hi, e⟩
   obtain ⟨i, j, h1, h2, h3⟩ := pigeon n (fun i => if g (n + 1) < g i then g i - 1 else g i) (fun i hi => by
    have := hne i hi
    have := hb i (by omega)
    split <;> omega)
   have e1 := hne i (by omega)
   have e2 := hne j (by omega)
   refine ⟨i, j, h1, by omega, ?_⟩
   split at h3 <;> split at h3 <;> omega
theorem least {P : Nat → Prop} : ∀ n, P n → ∃ m, m ≤ n ∧ P m ∧ ∀ k, k < m → ¬ P k := by
 intro n
 induction n using Nat.strongRecOn with
 | ind n ih =>
  intro hp
  by_cases q : ∃ k, k < n ∧ P k
  ·obtain ⟨k, h1, h2⟩ := q
   obtain ⟨m, a, b, c⟩ := ih k h1 h2
   exact ⟨m, by omega, b, c⟩
  ·exact ⟨n, Nat.le_refl _, hp, fun k hk hx => q ⟨k, hk, hx⟩⟩
/-- The length of a walker's curve. -/
theorem Walks.period (a : Walks f R seg V N) {w : α} (h : V w) : ∃ n, 0 < n ∧ n ≤ N ∧ itW f n w = w := by
 obtain ⟨i, j, h1, h2, h3⟩ := pigeon N (fun i => seg (itW f i w)) fun i _ => a.lt _ (a.vi h i)
 exact ⟨j - i, by omega, by omega, a.same h (by omega) h3⟩
open Classical in
noncomputable def perW (f : α → α) (w : α) : Nat := if h : ∃ n, (0 < n ∧ itW f n w = w) ∧ ∀ k, k < n → ¬ (0 < k ∧ itW f k w = w) then Classical.choose h else 0
theorem Walks.per (a : Walks f R seg V N) {w : α} (h : V w) : 0 < perW f w ∧ perW f w ≤ N ∧ itW f (perW f w) w = w ∧ ∀ j, 0 < j → j < perW f w → itW f j w ≠ w := by
 obtain ⟨n, h1, h2, h3⟩ := a.period h
 obtain ⟨m, m1, m2, m3⟩ := least (P := fun n => 0 < n ∧ itW f n w = w) n ⟨h1, h3⟩
 have e : ∃ n, (0 < n ∧ itW f n w = w) ∧ ∀ k, k < n → ¬ (0 < k ∧ itW f k w = w) := ⟨m, m2, m3⟩
 unfold perW
 rw [dif_pos e]
 obtain ⟨p1, p2⟩ := Classical.choose_spec e
 refine ⟨p1.1, ?_, p1.2, fun j hj hl hx => p2 j hl ⟨hj, hx⟩⟩
 by_cases q : Classical.choose e ≤ N
 ·exact q
 ·exact absurd ⟨h1, h3⟩ (p2 n (by omega))
theorem Walks.dist (a : Walks f R seg V N) {w : α} (h : V w) {i j : Nat} (hij : i < j) (hj : j < perW f w) : seg (itW f i w) ≠ seg (itW f j w) := by
 intro e
 exact (a.per h).2.2.2 (j - i) (by omega) (by omega) (a.same h (by omega) e)
def paint (f : α → α) (seg : α → Nat) (w : α) (c : Int) (o : List Int) : Nat → List Int
 | 0 => o
 | k + 1 => (paint f seg w c o k).set (seg (itW f k w)) c
theorem paint_len {w : α} {c : Int} {o : List Int} : ∀ k, (paint f seg w c o k).length = o.length
 | 0 => rfl
 | k + 1 => by simp [paint, paint_len k]
theorem paint_at {w : α} {c : Int} {o : List Int} {s : Nat} (hs : s < o.length) : ∀ k, at0 (paint f seg w c o k) s = if ∃ j, j < k ∧ seg (itW f j w) = s then c else at0 o s
 | 0 => by simp [paint]
 | k + 1 => by
  simp only [paint]
  have ih := paint_at (w := w) (c := c) hs k
  have hl := paint_len (f := f) (seg := seg) (w := w) (c := c) (o := o) k
  by_cases e : seg (itW f k w) = s
  ·rw [if_pos ⟨k, by omega, e⟩]
   unfold at0
   rw [List.getD_eq_getElem?_getD, e, List.getElem?_set_self (by omega)]; rfl
  ·have : at0 ((paint f seg w c o k).set (seg (itW f k w)) c) s = at0 (paint f seg w c o k) s := by
    unfold at0
    rw [List.getD_eq_getElem?_getD, List.getElem?_set_ne e, ← List.getD_eq_getElem?_getD]
   rw [this, ih]
   by_cases q : ∃ j, j < k ∧ seg (itW f j w) = s
   ·obtain ⟨j, a, b⟩ := q
    rw [if_pos ⟨j, a, b⟩, if_pos ⟨j, by omega, b⟩]
   ·rw [if_neg q, if_neg]
    rintro ⟨j, a, b⟩
    by_cases ej : j = k
    ·exact e (ej ▸ b)
    ·exact q ⟨j, by omega, b⟩
/-- Owned segments are owned with all of their curve. -/
def Closed (f : α → α) (seg : α → Nat) (V : α → Prop) (o : List Int) : Prop := ∀ w, V w → (0 ≤ at0 o (seg w) ↔ 0 ≤ at0 o (seg (f w)))
theorem Closed.it (hV : ∀ w, V w → V (f w)) {o : List Int} (a : Closed f seg V o) {w : α} (h : V w) : ∀ k, V (itW f k w) ∧ (0 ≤ at0 o (seg w) ↔ 0 ≤ at0 o (seg (itW f k w)))
 | 0 => ⟨h, Iff.rfl⟩
 | k + 1 => by
  obtain ⟨h1, h2⟩ := Closed.it hV a h k
  exact ⟨hV _ h1, h2.trans (a _ h1)⟩
theorem Walks.closed (a : Walks f R seg V N) {w : α} (h : V w) {c : Int} (hc : 0 ≤ c) {o : List Int} (ho : o.length = N) (cl : Closed f seg V o) : Closed f seg V (paint f seg w c o (perW f w)) := by
 obtain ⟨p1, p2, p3, p4⟩ := a.per h
 intro v hv
 rw [paint_at (by rw [ho]; exact a.lt v hv), paint_at (by rw [ho]; exact a.lt _ (a.vf v hv))]
 have key : (∃ j, j < perW f w ∧ seg (itW f j w) = seg v) ↔ ∃ j, j < perW f w ∧ seg (itW f j w) = seg (f v) := by
  constructor
  ·rintro ⟨j, h1, h2⟩
   rcases (a.sg _ _ (a.vi h j) hv).1 h2 with q | q
   ·by_cases e : j + 1 < perW f w
    ·exact ⟨j + 1, e, by simp only [itW]; rw [q]⟩
    ·refine ⟨0, p1, ?_⟩
     have : itW f (j + 1) w = w := by rw [show j + 1 = perW f w by omega]; exact p3
     simp only [itW] at this ⊢
     rw [← q, this]
   · -- f^j w = R v, so R (f v) = f^(j-1) w
    have hb : f (R (f v)) = R v := a.fr v hv
    by_cases e : j = 0
    ·subst e
     refine ⟨perW f w - 1, by omega, (a.sg _ _ (a.vi h _) (a.vf v hv)).2 (.inr ?_)⟩
     refine a.inj (a.vi h _) (a.vr _ (a.vf v hv)) ?_
     rw [hb, ← q]
     have : itW f (perW f w - 1 + 1) w = w := by rw [show perW f w - 1 + 1 = perW f w by omega]; exact p3
     exact this
    ·refine ⟨j - 1, by omega, (a.sg _ _ (a.vi h _) (a.vf v hv)).2 (.inr ?_)⟩
     refine a.inj (a.vi h _) (a.vr _ (a.vf v hv)) ?_
     rw [hb, ← q]
     show itW f (j - 1 + 1) w = _
     rw [show j - 1 + 1 = j by omega]
  ·rintro ⟨j, h1, h2⟩
   rcases (a.sg _ _ (a.vi h j) (a.vf v hv)).1 h2 with q | q
   ·by_cases e : j = 0
    ·subst e
     refine ⟨perW f w - 1, by omega, (a.sg _ _ (a.vi h _) hv).2 (.inl ?_)⟩
     refine a.inj (a.vi h _) hv ?_
     rw [← q]
     show itW f (perW f w - 1 + 1) w = _
     rw [show perW f w - 1 + 1 = perW f w by omega]; exact p3
    ·refine ⟨j - 1, by omega, (a.sg _ _ (a.vi h _) hv).2 (.inl ?_)⟩
     refine a.inj (a.vi h _) hv ?_
     rw [← q]
     show itW f (j - 1 + 1) w = _
     rw [show j - 1 + 1 = j by omega]
   · -- f^j w = R (f v), so f^(j+1) w = R v
    have hb : f (R (f v)) = R v := a.fr v hv
    by_cases e : j + 1 < perW f w
    ·exact ⟨j + 1, e, (a.sg _ _ (a.vi h _) hv).2 (.inr (by simp only [itW]; rw [q, hb]))⟩
    ·refine ⟨0, p1, (a.sg _ _ h hv).2 (.inr ?_)⟩
     have : itW f (j + 1) w = w := by rw [show j + 1 = perW f w by omega]; exact p3
     simp only [itW] at this
     rw [q, hb] at this
     exact this.symm
 by_cases q : ∃ j, j < perW f w ∧ seg (itW f j w) = seg v
 ·rw [if_pos q, if_pos (key.1 q)]
 ·rw [if_neg q, if_neg (fun x => q (key.2 x))]; exact cl v hv
/-- After the first segments: the curve of each segment, the number of curves. -/
noncomputable def curvesSt (f : α → α) (seg : α → Nat) (wk : Nat → α) (N : Nat) : Nat → List Int × Nat
 | 0 => (List.replicate N (-1), 0)
 | k + 1 => if 0 ≤ at0 (curvesSt f seg wk N k).1 k then curvesSt f seg wk N k else (paint f seg (wk k) (curvesSt f seg wk N k).2 (curvesSt f seg wk N k).1 (perW f (wk k)), (curvesSt f seg wk N k).2 + 1)
theorem Walks.st (a : Walks f R seg V N) {wk : Nat → α} (hw : ∀ k, k < N → V (wk k)) : ∀ k, k ≤ N → (curvesSt f seg wk N k).1.length = N ∧ Closed f seg V (curvesSt f seg wk N k).1 ∧ (curvesSt f seg wk N k).2 ≤ k
 | 0, _ => by
  refine ⟨by simp [curvesSt], ?_, by simp [curvesSt]⟩
  intro w hw
  have h1 := a.lt w hw
  have h2 := a.lt _ (a.vf w hw)
  simp [curvesSt, at0, List.getD_eq_getElem?_getD, List.getElem?_replicate, h1, h2]
 | k + 1, hk => by
  obtain ⟨h1, h2, h3⟩ := Walks.st a hw k (by omega)
  simp only [curvesSt]
  split
  ·exact ⟨h1, h2, by omega⟩
  ·exact ⟨by rw [paint_len, h1], a.closed (hw k (by omega)) (by omega) h1 h2, by simp only; omega⟩
/-- The steps of the walk that paints a curve: not owned before the end, owned at the end. -/
theorem Walks.run (a : Walks f R seg V N) {w : α} (h : V w) {c : Int} (hc : 0 ≤ c) {o : List Int} (ho : o.length = N) (cl : Closed f seg V o) (hn : at0 o (seg w) < 0) :
  (∀ k, k < perW f w → at0 (paint f seg w c o k) (seg (itW f k w)) < 0) ∧ 0 ≤ at0 (paint f seg w c o (perW f w)) (seg (itW f (perW f w) w)) := by
 obtain ⟨p1, p2, p3, p4⟩ := a.per h
 constructor
 ·intro k hk
  have hv := a.vi h k
  rw [paint_at (by rw [ho]; exact a.lt _ hv), if_neg]
  ·have := (Closed.it a.vf cl h k).2
   omega
  ·rintro ⟨j, hj, e⟩
   exact a.dist h hj hk e
 ·rw [p3, paint_at (by rw [ho]; exact a.lt _ h), if_pos ⟨0, p1, rfl⟩]; exact hc
end
abbrev Wk := Int × Int × Int × Int
def edgeW (W H : Nat) (x y : Int) : Prop := x = 0 ∨ x = 2 * W ∨ y = 0 ∨ y = 2 * H
instance (W H : Nat) (x y : Int) : Decidable (edgeW W H x y) := by unfold edgeW; infer_instance
def kindW (W H : Nat) (br : List Int) (x y : Int) : Int := if edgeW W H x y then 0 else at0 br (numP W x.toNat y.toNat)
def stepW (W H : Nat) (br : List Int) (w : Wk) : Wk :=
 (w.1 + w.2.2.1, w.2.1 + w.2.2.2,
  if w.1 + w.2.2.1 = 0 ∨ w.1 + w.2.2.1 = 2 * W ∨ kindW W H br (w.1 + w.2.2.1) (w.2.1 + w.2.2.2) = 1 then -w.2.2.1 else w.2.2.1,
  if w.2.1 + w.2.2.2 = 0 ∨ w.2.1 + w.2.2.2 = 2 * H ∨ kindW W H br (w.1 + w.2.2.1) (w.2.1 + w.2.2.2) = 2 then -w.2.2.2 else w.2.2.2)
def backW (w : Wk) : Wk := (w.1 + w.2.2.1, w.2.1 + w.2.2.2, -w.2.2.1, -w.2.2.2)
structure OkW (W H : Nat) (w : Wk) : Prop where
 dx : w.2.2.1 = 1 ∨ w.2.2.1 = -1
 dy : w.2.2.2 = 1 ∨ w.2.2.2 = -1
 x : 0 ≤ w.1 ∧ w.1 ≤ 2 * W
 y : 0 ≤ w.2.1 ∧ w.2.1 ≤ 2 * H
 nx : 0 ≤ w.1 + w.2.2.1 ∧ w.1 + w.2.2.1 ≤ 2 * W
 ny : 0 ≤ w.2.1 + w.2.2.2 ∧ w.2.1 + w.2.2.2 ≤ 2 * H
 p : (w.1 + w.2.1) % 2 = 1
def minI (a b : Int) : Int := if a ≤ b then a else b
def segW (H : Nat) (w : Wk) : Nat := (minI w.1 (w.1 + w.2.2.1) * (2 * H) + minI w.2.1 (w.2.1 + w.2.2.2)).toNat
theorem minI_one {x d : Int} (h : d = 1 ∨ d = -1) : minI x (x + d) = if d = 1 then x else x - 1 := by
 unfold minI; rcases h with rfl | rfl
 ·rw [if_pos (by omega), if_pos rfl]
 ·rw [if_neg (by omega), if_neg (by omega)]; omega
theorem pair_eq {H a b c d : Int} (h : 0 < H) (hb : 0 ≤ b ∧ b < H) (hd : 0 ≤ d ∧ d < H) (e : a * H + b = c * H + d) : a = c ∧ b = d := by
 have h1 : (a * H + b) / H = a := by
  rw [Int.add_comm, Int.add_mul_ediv_right _ _ (by omega), Int.ediv_eq_zero_of_lt hb.1 hb.2]; omega
 have h2 : (c * H + d) / H = c := by
  rw [Int.add_comm, Int.add_mul_ediv_right _ _ (by omega), Int.ediv_eq_zero_of_lt hd.1 hd.2]; omega
 have : a = c := by rw [← h1, e, h2]
 subst this
 exact ⟨rfl, by omega⟩
theorem seg_bd {W H : Nat} {w : Wk} (h : OkW W H w) : (0 ≤ minI w.1 (w.1 + w.2.2.1) ∧ minI w.1 (w.1 + w.2.2.1) ≤ 2 * W - 1) ∧ (0 ≤ minI w.2.1 (w.2.1 + w.2.2.2) ∧ minI w.2.1 (w.2.1 + w.2.2.2) ≤ 2 * H - 1) := by
 obtain ⟨dx, dy, x, y, nx, ny, p⟩ := h
 rw [minI_one dx, minI_one dy]
 rcases dx with e | e <;> rcases dy with e' | e' <;> rw [e, e'] <;> rw [e] at nx <;> rw [e'] at ny <;> simp <;> omega
theorem seg_cast {W H : Nat} {w : Wk} (h : OkW W H w) : (segW H w : Int) = minI w.1 (w.1 + w.2.2.1) * (2 * H) + minI w.2.1 (w.2.1 + w.2.2.2) := by
 obtain ⟨⟨a, _⟩, b, _⟩ := seg_bd h
 have : 0 ≤ minI w.1 (w.1 + w.2.2.1) * (2 * (H : Int)) := Int.mul_nonneg a (by omega)
 unfold segW; omega
theorem seg_lt {W H : Nat} {w : Wk} (h : OkW W H w) : segW H w < 4 * W * H := by
 obtain ⟨⟨a, a'⟩, b, b'⟩ := seg_bd h
 have hc := seg_cast h
 have h1 : minI w.1 (w.1 + w.2.2.1) * (2 * (H : Int)) ≤ (2 * W - 1) * (2 * H) := Int.mul_le_mul_of_nonneg_right a' (by omega)
 have h2 : ((2 : Int) * W - 1) * (2 * H) = 4 * W * H - 2 * H := by
  rw [Int.sub_mul]; simp only [Int.one_mul]
  congr 1
  rw [show (2 : Int) * W * (2 * H) = (2 * 2) * (W * H) by ac_rfl, show (4 : Int) * W * H = 4 * (W * H) by ac_rfl]
  rfl
 have h3 : ((4 * W * H : Nat) : Int) = 4 * W * H := by simp
 omega
theorem kindW_edge {W H : Nat} {br : List Int} {x y : Int} (h : edgeW W H x y) : kindW W H br x y = 0 := if_pos h
theorem walks {W H : Nat} {br : List Int} (w1 : 1 ≤ W) (h1 : 1 ≤ H) : Walks (stepW W H br) backW (segW H) (OkW W H) (4 * W * H) where
 vf := by
  rintro ⟨x, y, dx, dy⟩ ⟨hdx, hdy, hx, hy, hnx, hny, hp⟩
  simp only at *
  have c1 : ∀ k : Int, (if x + dx = 0 ∨ x + dx = 2 * (W : Int) ∨ k = 1 then -dx else dx) = 1 ∨ (if x + dx = 0 ∨ x + dx = 2 * (W : Int) ∨ k = 1 then -dx else dx) = -1 := by intro k; split <;> omega
  have c2 : ∀ k : Int, (if y + dy = 0 ∨ y + dy = 2 * (H : Int) ∨ k = 2 then -dy else dy) = 1 ∨ (if y + dy = 0 ∨ y + dy = 2 * (H : Int) ∨ k = 2 then -dy else dy) = -1 := by intro k; split <;> omega
  refine ⟨c1 _, c2 _, hnx, hny, ?_, ?_, by simp only [stepW]; omega⟩
  ·simp only [stepW]; split <;> omega
  ·simp only [stepW]; split <;> omega
 vr := by
  rintro ⟨x, y, dx, dy⟩ ⟨hdx, hdy, hx, hy, hnx, hny, hp⟩
  simp only at *
  refine ⟨?_, ?_, hnx, hny, ?_, ?_, ?_⟩ <;> simp only [backW] <;> omega
 rr := by
  rintro ⟨x, y, dx, dy⟩
  simp only [backW, Prod.mk.injEq]
  omega
 fr := by
  rintro ⟨x, y, dx, dy⟩ ⟨hdx, hdy, hx, hy, hnx, hny, hp⟩
  simp only at *
  have e1 : ∀ a : Int, x + dx + a + -a = x + dx := by intro a; omega
  have e2 : ∀ a : Int, y + dy + a + -a = y + dy := by intro a; omega
  simp only [stepW, backW, e1, e2, Prod.mk.injEq, true_and]
  constructor
  ·split <;> simp
  ·split <;> simp
 ne := by
  rintro ⟨x, y, dx, dy⟩ ⟨hdx, hdy, hx, hy, hnx, hny, hp⟩ e
  simp only [stepW, backW, Prod.mk.injEq, true_and] at *
  obtain ⟨e1, e2⟩ := e
  have hk := kindW_edge (W := W) (H := H) (br := br) (x := x + dx) (y := y + dy)
  unfold edgeW at hk
  split at e1
  ·split at e2
   ·rename_i q1 q2
    have : ¬ (x + dx = 0 ∨ x + dx = 2 * (W : Int) ∨ y + dy = 0 ∨ y + dy = 2 * (H : Int)) ∨ kindW W H br (x + dx) (y + dy) = 0 := by
     by_cases q : x + dx = 0 ∨ x + dx = 2 * (W : Int) ∨ y + dy = 0 ∨ y + dy = 2 * (H : Int)
     ·exact .inr (hk q)
     ·exact .inl q
    omega
   ·omega
  ·omega
 nr := by
  rintro ⟨x, y, dx, dy⟩ ⟨hdx, hdy, hx, hy, hnx, hny, hp⟩ e
  simp only [backW, Prod.mk.injEq] at *
  omega
 sg := by
  intro w v hw hv
  have cw := seg_cast hw
  have cv := seg_cast hv
  obtain ⟨⟨a, a'⟩, b, b'⟩ := seg_bd hw
  obtain ⟨⟨c, c'⟩, d, d'⟩ := seg_bd hv
  constructor
  ·intro e
   rw [e, cv] at cw
   obtain ⟨e1, e2⟩ := pair_eq (H := 2 * (H : Int)) (by omega) ⟨d, by omega⟩ ⟨b, by omega⟩ cw
   obtain ⟨x, y, dx, dy⟩ := w
   obtain ⟨x', y', dx', dy'⟩ := v
   obtain ⟨hdx, hdy, hx, hy, hnx, hny, hp⟩ := hw
   obtain ⟨hdx', hdy', hx', hy', hnx', hny', hp'⟩ := hv
   simp only at *
   rw [minI_one hdx, minI_one hdx'] at e1
   rw [minI_one hdy, minI_one hdy'] at e2
   simp only [backW, Prod.mk.injEq]
   rcases hdx with rfl | rfl <;> rcases hdy with rfl | rfl <;> rcases hdx' with rfl | rfl <;> rcases hdy' with rfl | rfl <;> simp at e1 e2 ⊢ <;> omega
  ·rintro (e | e)
   ·rw [e]
   ·have : (segW H w : Int) = segW H v := by
     rw [cw, cv, e]
     obtain ⟨x', y', dx', dy'⟩ := v
     simp only [backW]
     have q1 : ∀ p d : Int, minI (p + d) (p + d + -d) = minI p (p + d) := by
      intro p d; unfold minI
      rw [show p + d + -d = p by omega]
      split <;> split <;> omega
     rw [q1, q1]
    omega
 lt := fun w h => seg_lt h
/-- The walker along a segment, to the right. -/
def wkW (H : Nat) (k : Nat) : Wk := if (k / (2 * H) + k % (2 * H)) % 2 = 1 then ((k / (2 * H) : Nat), (k % (2 * H) : Nat), 1, 1) else ((k / (2 * H) : Nat), (k % (2 * H) : Nat) + 1, 1, -1)
theorem wkW_ok {W H k : Nat} (h1 : 1 ≤ H) (hk : k < 4 * W * H) : OkW W H (wkW H k) := by
 have a : k % (2 * H) < 2 * H := Nat.mod_lt _ (by omega)
 have b : k / (2 * H) < 2 * W := by
  rw [Nat.div_lt_iff_lt_mul (by omega)]
  have : 2 * W * (2 * H) = 4 * W * H := by
   rw [show 2 * W * (2 * H) = (2 * 2) * (W * H) by ac_rfl, show 4 * W * H = 4 * (W * H) by ac_rfl]
  omega
 unfold wkW
 generalize k / (2 * H) = q at *
 generalize k % (2 * H) = r at *
 split <;> constructor <;> simp only <;> first | omega | simp
theorem wkW_seg {W H k : Nat} (h1 : 1 ≤ H) (hk : k < 4 * W * H) : segW H (wkW H k) = k := by
 have hc := seg_cast (wkW_ok (W := W) h1 hk)
 have hd := Nat.div_add_mod k (2 * H)
 have hd' : ((2 * H * (k / (2 * H)) : Nat) : Int) = ((k / (2 * H) : Nat) : Int) * (2 * H) := by
  rw [Nat.mul_comm]; simp
 have : (segW H (wkW H k) : Int) = k := by
  rw [hc]
  unfold wkW minI
  split
  ·simp only; rw [if_pos (by omega), if_pos (by omega)]; omega
  ·simp only; rw [if_pos (by omega), if_neg (by omega)]; omega
 omega
noncomputable def curvesP (X : Pan) : List Int × Nat := curvesSt (stepW X.1.toNat X.2.1.toNat X.2.2) (segW X.2.1.toNat) (wkW X.2.1.toNat) (4 * X.1.toNat * X.2.1.toNat) (4 * X.1.toNat * X.2.1.toNat)
/-- The number of curves. -/
noncomputable def curveN (X : Pan) : Nat := (curvesP X).2
def small (c : UInt8) : Bool := decide ((97 : Int) ≤ c.toNat) && decide ((c.toNat : Int) ≤ 122)
def nameC (c : UInt8) : Bool := small c || (isDig c || decide (c = 45))
def nameOk (s : List UInt8) : Bool := decide (1 ≤ s.length) && (decide (s.length ≤ 12) && (small (at8 s 0) && s.all nameC))
theorem lexLt_irr : ∀ s : List UInt8, lexLt s s = false
 | [] => rfl
 | a :: s => by simp [lexLt, lexLt_irr s]
theorem lexLt_not : ∀ a b : List UInt8, lexLt a b = !(lexLt b a || decide (b = a))
 | [], [] => by simp [lexLt]
 | [], b :: m => by simp [lexLt]
 | a :: l, [] => by simp [lexLt]
 | a :: l, b :: m => by
  have ih := lexLt_not l m
  simp only [lexLt, List.cons.injEq]
  by_cases e : a = b
  ·subst e
   simp [ih]
  ·have e' : ¬ b = a := fun h => e h.symm
   rcases UInt8.lt_or_lt_of_ne e with h | h
   ·have h2 : ¬ b < a := UInt8.lt_asymm h
    simp [h, e', h2]
   ·have h2 : ¬ a < b := UInt8.lt_asymm h
    simp [h, e, h2]
theorem lexLt_trans : ∀ {a b c : List UInt8}, lexLt a b = true → lexLt b c = true → lexLt a c = true
 | [], b, [], h1, h2 => by cases b <;> simp [lexLt] at h2
 | [], b, c :: n, h1, h2 => by simp [lexLt]
 | a :: l, [], c, h1, h2 => by simp [lexLt] at h1
 | a :: l, b :: m, [], h1, h2 => by simp [lexLt] at h2
 | a :: l, b :: m, c :: n, h1, h2 => by
  simp only [lexLt, Bool.or_eq_true, Bool.and_eq_true, decide_eq_true_eq, beq_iff_eq] at h1 h2 ⊢
  rcases h1 with h1 | ⟨e1, h1⟩
  ·rcases h2 with h2 | ⟨e2, h2⟩
   ·exact .inl (UInt8.lt_trans h1 h2)
   ·exact .inl (e2 ▸ h1)
  ·subst e1
   rcases h2 with h2 | ⟨e2, h2⟩
   ·exact .inl h2
   ·exact .inr ⟨e2, lexLt_trans h1 h2⟩
abbrev Lib := List Kpt
def kN (X : Lib) (i : Nat) : List UInt8 := (X.getD i ([], 0, 0, [])).1
def kP (X : Lib) (i : Nat) : Pan := (X.getD i ([], 0, 0, [])).2
theorem kN_of {X : Lib} {i : Nat} (h : i < X.length) : kN X i = X[i].1 := by simp [kN, h]
theorem kP_of {X : Lib} {i : Nat} (h : i < X.length) : kP X i = X[i].2 := by simp [kP, h]
/-- The index of a panel; the length if there is none. -/
def likeN (X : Lib) (p : Pan) : Nat := X.findIdx fun k => decide (k.2 = p)
def nameN (X : Lib) (s : List UInt8) : Nat := X.findIdx fun k => decide (k.1 = s)
theorem likeN_le (X : Lib) (p : Pan) : likeN X p ≤ X.length := List.findIdx_le_length
theorem nameN_le (X : Lib) (s : List UInt8) : nameN X s ≤ X.length := List.findIdx_le_length
theorem nameN_lt {X : Lib} {s : List UInt8} : nameN X s < X.length ↔ ∃ e ∈ X, e.1 = s := by
 unfold nameN; rw [List.findIdx_lt_length]; simp
theorem likeN_lt {X : Lib} {p : Pan} : likeN X p < X.length ↔ ∃ e ∈ X, e.2 = p := by
 unfold likeN; rw [List.findIdx_lt_length]; simp
theorem nameN_at {X : Lib} {s : List UInt8} (h : nameN X s < X.length) : (X[nameN X s]).1 = s := by
 have := List.findIdx_getElem (w := h) (p := fun k : Kpt => decide (k.1 = s)) (xs := X)
 exact of_decide_eq_true this
theorem likeN_at {X : Lib} {p : Pan} (h : likeN X p < X.length) : (X[likeN X p]).2 = p := by
 have := List.findIdx_getElem (w := h) (p := fun k : Kpt => decide (k.2 = p)) (xs := X)
 exact of_decide_eq_true this
/-- An index, or -1. -/
def ixI (k n : Nat) : Int := if k < n then k else -1
noncomputable def entOk (X : Lib) (i : Nat) : Bool := nameOk (kN X i) && (okP (kP X i) && ((decide (i = 0) || lexLt (kN X (i - 1)) (kN X i)) && (samP (canonP (kP X i)) (kP X i) && decide (likeN (X.take i) (kP X i) = i))))
noncomputable def allEnt (X : Lib) (k : Nat) : Bool := (List.range k).all (entOk X)
theorem allEnt_succ (X : Lib) (k : Nat) : allEnt X (k + 1) = (allEnt X k && entOk X k) := by simp [allEnt, List.range_succ]
noncomputable def keptOk (X : Lib) : Bool := decide (X.length ≤ 40) && allEnt X X.length
theorem allEnt_mono {X : Lib} : ∀ {k n : Nat}, k ≤ n → allEnt X n = true → allEnt X k = true := by
 intro k n h a
 simp only [allEnt, List.all_eq_true, List.mem_range] at a ⊢
 exact fun i hi => a i (by omega)
theorem keptOk_not {X : Lib} {k : Nat} (hk : k < X.length) (h : entOk X k = false) : keptOk X = false := by
 refine Bool.eq_false_iff.2 fun hc => ?_
 simp only [keptOk, Bool.and_eq_true, decide_eq_true_eq] at hc
 have := allEnt_mono (k := k + 1) (by omega) hc.2
 rw [allEnt_succ, h] at this
 simp at this
structure EntOk (X : Lib) (i : Nat) : Prop where
 name : nameOk (kN X i) = true
 ok : OkP (kP X i)
 ord : i = 0 ∨ lexLt (kN X (i - 1)) (kN X i) = true
 canon : canonP (kP X i) = kP X i
 new : likeN (X.take i) (kP X i) = i
theorem entOk_iff {X : Lib} {i : Nat} : entOk X i = true ↔ EntOk X i := by
 simp only [entOk, Bool.and_eq_true, Bool.or_eq_true, decide_eq_true_eq, okP_iff, samP]
 exact ⟨fun ⟨a, b, c, d, e⟩ => ⟨a, b, c, d, e⟩, fun ⟨a, b, c, d, e⟩ => ⟨a, b, c, d, e⟩⟩
structure KeptOk (X : Lib) : Prop where
 len : X.length ≤ 40
 ent : ∀ i, i < X.length → EntOk X i
theorem keptOk_iff {X : Lib} : keptOk X = true ↔ KeptOk X := by
 simp only [keptOk, Bool.and_eq_true, decide_eq_true_eq, allEnt, List.all_eq_true, List.mem_range, entOk_iff]
 exact ⟨fun ⟨a, b⟩ => ⟨a, b⟩, fun ⟨a, b⟩ => ⟨a, b⟩⟩
theorem KeptOk.name12 {X : Lib} (ok : KeptOk X) {i : Nat} (hi : i < X.length) : (kN X i).length ≤ 12 ∧ 1 ≤ (kN X i).length := by
 have := (ok.ent i hi).name
 simp only [nameOk, Bool.and_eq_true, decide_eq_true_eq] at this
 exact ⟨this.2.1, this.1⟩
theorem bit4' : ∀ {s : Nat}, s < 8 → IntKind.i64.wrap ((BitVec.ofInt IntKind.i64.bits (s : Int) &&& BitVec.ofInt IntKind.i64.bits 4).toNat : Int) = (if 4 ≤ s then 4 else 0) := by decide +kernel
theorem bit1' : ∀ {s : Nat}, s < 8 → IntKind.i64.wrap ((BitVec.ofInt IntKind.i64.bits (s : Int) &&& BitVec.ofInt IntKind.i64.bits 1).toNat : Int) = (if s % 2 = 1 then 1 else 0) := by decide +kernel
theorem bit2' : ∀ {s : Nat}, s < 8 → IntKind.i64.wrap ((BitVec.ofInt IntKind.i64.bits (s : Int) &&& BitVec.ofInt IntKind.i64.bits 2).toNat : Int) = (if s / 2 % 2 = 1 then 2 else 0) := by decide +kernel
theorem bitr' : ∀ {s : Nat}, s < 8 → IntKind.i64.wrap ((BitVec.ofInt IntKind.i64.bits ((s : Int).fdiv 2) &&& BitVec.ofInt IntKind.i64.bits 1).toNat : Int) = (if s / 2 % 2 = 1 then 1 else 0) := by decide +kernel
theorem bit4 {s : Nat} (h : s < 8) : bitsOp .i64 (fun x y => x &&& y) (s : Int) 4 = I (if 4 ≤ s then 4 else 0) := congrArg (Value.int .i64) (bit4' h)
theorem bit1 {s : Nat} (h : s < 8) : bitsOp .i64 (fun x y => x &&& y) (s : Int) 1 = I (if s % 2 = 1 then 1 else 0) := congrArg (Value.int .i64) (bit1' h)
theorem bit2 {s : Nat} (h : s < 8) : bitsOp .i64 (fun x y => x &&& y) (s : Int) 2 = I (if s / 2 % 2 = 1 then 2 else 0) := congrArg (Value.int .i64) (bit2' h)
theorem bitr {s : Nat} (h : s < 8) : bitsOp .i64 (fun x y => x &&& y) ((s : Int).fdiv (2 ^ min 1 IntKind.i64.bits)) 1 = I (if s / 2 % 2 = 1 then 1 else 0) := congrArg (Value.int .i64) (bitr' h)
theorem c479 (h : Heap) (W H x y s : Nat) (w8 : W < 9) (h8 : H < 9) (hx : 1 ≤ x ∧ x < 2 * W) (hy : 1 ≤ y ∧ y < 2 * H) (hs : s < 8) :
  ACall Gam 479 [I W, I H, .agg #[I x, I y], I s] h fun r h' => r = .agg #[I (mapX W H x y s), I (mapY W H x y s)] ∧ h' = h := by
 refine ACall_intro g479 rfl ?_
 unfold fn479
 rw [awp_seq, awp_reg]
 generalize hK : seqQ Gam _ _ 0 = K
 simp (disch := omega)
 subst hK
 simp only [seqQ_zero]
 rw [awp_seq, awp_reg]
 generalize hK : seqQ Gam _ _ 0 = K
 simp (disch := omega)
 subst hK
 simp only [seqQ_zero]
 rw [awp_seq]
 generalize hK : seqQ Gam _ (retQ _ _) = K
 have main : ∀ σ (w' h' x' y' : Nat), σ 0 = I w' → σ 1 = I h' → σ 3 = I s → σ 8 = .agg #[I 0, I 0] → σ 9 = .agg #[I x', I y'] → w' < 9 → h' < 9 → x' < 2 * w' → y' < 2 * h' → (if s % 2 = 1 then 2 * w' - x' else x') = mapX W H x y s → (if s / 2 % 2 = 1 then 2 * h' - y' else y') = mapY W H x y s → K 0 σ h := by
  intro σ w' h' x' y' p0 p1 p3 p8 p9 hw' hh' hx' hy' ex ey
  subst hK
  simp only [seqQ_zero]
  rw [awp_seq]
  generalize hK : seqQ Gam _ (retQ _ _) = K
  have main2 : ∀ σ (x' y' : Nat), σ 0 = I w' → σ 1 = I h' → σ 3 = I s → σ 8 = .agg #[I 0, I 0] → σ 9 = .agg #[I x', I y'] → y' < 2 * h' → x' = mapX W H x y s → (if s / 2 % 2 = 1 then 2 * h' - y' else y') = mapY W H x y s → K 0 σ h := by
   intro σ x' y' p0 p1 p3 p8 p9 hy' ex ey
   subst hK
   simp only [seqQ_zero]
   by_cases c : s / 2 % 2 = 1
   ·simp only [c, if_true] at ey
    simp (disch := omega) [p0, p1, p3, p8, p9, bit2 hs, c, wrap64, resOf_box, aField]
    omega
   ·simp only [c, if_false] at ey
    simp (disch := omega) [p0, p1, p3, p8, p9, bit2 hs, c, wrap64, resOf_box, aField]
    omega
  by_cases b : s % 2 = 1
  ·simp only [b, if_true] at ex
   simp (disch := omega) [p0, p1, p3, p8, p9, bit1 hs, b, wrap64]
   exact main2 _ (2 * w' - x') y' (by simp [p0]) (by simp [p1]) (by simp [p3]) (by simp [p8]) (by simp [p9]; omega) hy' ex ey
  ·simp only [b, if_false] at ex
   simp (disch := omega) [p0, p1, p3, p8, p9, bit1 hs, b, wrap64]
   exact main2 _ x' y' (by simp [p0]) (by simp [p1]) (by simp [p3]) (by simp [p8]) (by simp [p9]) hy' ex ey
 by_cases a : 4 ≤ s
 ·have a' : (4 : Int) ≤ s := by omega
  simp (disch := omega) [bit4 hs, a, a']
  exact main _ H W y x (by simp) (by simp) (by simp) (by simp) (by simp) (by omega) (by omega) (by omega) (by omega) (by simp [mapX, a]) (by simp [mapY, a])
 ·have a' : ¬ (4 : Int) ≤ s := by omega
  simp (disch := omega) [bit4 hs, a, a']
  exact main _ W H x y (by simp) (by simp) (by simp) (by simp) (by simp) (by omega) (by omega) (by omega) (by omega) (by simp [mapX, a]) (by simp [mapY, a])
theorem c38 (h : Heap) (W H x y s : Nat) (z : Value) (w8 : W < 9) (h8 : H < 9) (hx : 1 ≤ x ∧ x < 2 * W) (hy : 1 ≤ y ∧ y < 2 * H) (hs : s < 8) :
  ACall Gam 38 [.agg #[I W, I H, z], .agg #[I x, I y], I s] h fun r h' => r = .agg #[I (mapX W H x y s), I (mapY W H x y s)] ∧ h' = h := by
 refine ACall_intro g38 rfl ?_
 unfold fn38
 rw [awp_seq, awp_reg]
 generalize hK : seqQ Gam _ _ 0 = K
 simp (disch := omega)
 subst hK
 simp only [seqQ_zero]
 rw [awp_seq, awp_reg]
 generalize hK : seqQ Gam _ _ 0 = K
 simp (disch := omega)
 subst hK
 simp only [seqQ_zero]
 rw [awp_seq]
 generalize hK : seqQ Gam _ (retQ _ _) = K
 have main : ∀ σ (w' h' x' y' : Nat), σ 7 = I w' → σ 8 = I h' → σ 2 = I s → σ 6 = .agg #[I 0, I 0] → σ 4 = .agg #[I x', I y'] → w' < 9 → h' < 9 → x' < 2 * w' → y' < 2 * h' → (if s % 2 = 1 then 2 * w' - x' else x') = mapX W H x y s → (if s / 2 % 2 = 1 then 2 * h' - y' else y') = mapY W H x y s → K 0 σ h := by
  intro σ w' h' x' y' p0 p1 p3 p8 p9 hw' hh' hx' hy' ex ey
  subst hK
  simp only [seqQ_zero]
  rw [awp_seq]
  generalize hK : seqQ Gam _ (retQ _ _) = K
  have main2 : ∀ σ (x' y' : Nat), σ 7 = I w' → σ 8 = I h' → σ 2 = I s → σ 6 = .agg #[I 0, I 0] → σ 4 = .agg #[I x', I y'] → y' < 2 * h' → x' = mapX W H x y s → (if s / 2 % 2 = 1 then 2 * h' - y' else y') = mapY W H x y s → K 0 σ h := by
   intro σ x' y' p0 p1 p3 p8 p9 hy' ex ey
   subst hK
   simp only [seqQ_zero]
   by_cases c : s / 2 % 2 = 1
   ·simp only [c, if_true] at ey
    simp (disch := omega) [p0, p1, p3, p8, p9, bitr hs, c, wrap64, resOf_box, aField]
    omega
   ·simp only [c, if_false] at ey
    simp (disch := omega) [p0, p1, p3, p8, p9, bitr hs, c, wrap64, resOf_box, aField]
    omega
  by_cases b : s % 2 = 1
  ·simp only [b, if_true] at ex
   simp (disch := omega) [p0, p1, p3, p8, p9, bit1 hs, b, wrap64]
   exact main2 _ (2 * w' - x') y' (by simp [p0]) (by simp [p1]) (by simp [p3]) (by simp [p8]) (by simp [p9]; omega) hy' ex ey
  ·simp only [b, if_false] at ex
   simp (disch := omega) [p0, p1, p3, p8, p9, bit1 hs, b, wrap64]
   exact main2 _ x' y' (by simp [p0]) (by simp [p1]) (by simp [p3]) (by simp [p8]) (by simp [p9]) hy' ex ey
 by_cases a : 4 ≤ s
 ·have a' : (4 : Int) ≤ s := by omega
  simp (disch := omega) [bit4 hs, a, a']
  exact main _ H W y x (by simp) (by simp) (by simp) (by simp) (by simp) (by omega) (by omega) (by omega) (by omega) (by simp [mapX, a]) (by simp [mapY, a])
 ·have a' : ¬ (4 : Int) ≤ s := by omega
  simp (disch := omega) [bit4 hs, a, a']
  exact main _ W H x y (by simp) (by simp) (by simp) (by simp) (by simp) (by omega) (by omega) (by omega) (by omega) (by simp [mapX, a]) (by simp [mapY, a])
theorem c475 (h : Heap) (k : Int) (s : Nat) (hk : 0 ≤ k ∧ k ≤ 2) (hs : s < 8) : ACall Gam 475 [I k, I s] h fun r h' => r = I (kindM k s) ∧ h' = h := by
 refine ACall_intro g475 rfl ?_
 unfold fn475
 by_cases a : 4 ≤ s <;> by_cases b : k = 0
 all_goals
  simp (disch := omega) [bit4 hs, a, b, wrap64, kindM]
theorem c172 (h : Heap) (k : Int) (s : Nat) (hk : 0 ≤ k ∧ k ≤ 2) (hs : s < 8) : ACall Gam 172 [I k, I s] h fun r h' => r = I (kindM k s) ∧ h' = h := by
 refine ACall_intro g172 rfl ?_
 unfold fn172
 by_cases a : 4 ≤ s
 ·have a' : (4 : Int) ≤ s := by omega
  by_cases b : k = 0 <;> simp (disch := omega) [a, a', b, wrap64, kindM]
 ·have a' : ¬ (4 : Int) ≤ s := by omega
  by_cases b : k = 0 <;> simp (disch := omega) [a, a', b, wrap64, kindM]
/-- A break stored. -/
theorem store_map {h : Heap} {b k : Nat} {l : List Int} {v : Int} (hb : h[b]? = some ⟨ints l, true⟩) (hk : k < l.length) : storeAt h b k [I v] = some (h.set b ⟨ints (l.set k v), true⟩) := by
 rw [store_one hb (by simp [ints]; exact hk)]
 simp [ints, List.map_set]
/-- What is done to make a moved panel: its box, or its own value, and the block of its breaks. -/
theorem map_done {h : Heap} {lo bb zz W H s : Nat} {br : List Int} {n : Nat} (hb : ∀ x ∈ br, 0 ≤ x ∧ x ≤ 2) (w8 : mapW W H s < 9) (h8 : mapH W H s < 9) (hz : zz = 1 ∨ bb = 0 ∧ rowN (mapW W H s) (2 * mapH W H s) = 0) (hc : rowN (mapW W H s) (2 * mapH W H s) = 0 ∨ h[bb]? = some ⟨ints (mapSt W H s br n), true⟩ ∧ lo ≤ bb) :
  Vo h lo h.length shPanel (.agg #[I (mapW W H s), I (mapH W H s), sl bb 0 (rowN (mapW W H s) (2 * mapH W H s)) zz]) ((mapW W H s : Nat), (mapH W H s : Nat), mapSt W H s br n) := by
 have hl := mapSt_len (W := W) (H := H) (s := s) (br := br) n
 have h128 := rowN_le w8 (y := 2 * mapH W H s) (by omega)
 refine Vo.of_panel (by unfold I64; omega) (by unfold I64; omega) ?_
 have := Vo.of_ints (h := h) (b := bb) (lo := lo) (hi := h.length) (z := zz) (X := mapSt W H s br n) (by
  rcases hz with e | ⟨e, e'⟩
  ·exact .inl e
  ·exact .inr ⟨e, List.length_eq_zero_iff.1 (by rw [hl, e'])⟩) (by rw [hl, maxLen_eq]; omega) (by
  intro x hx
  have := mapSt_rng hb n x hx
  unfold I64; omega) (by
  rcases hc with e | e
  ·exact .inl (List.length_eq_zero_iff.1 (by rw [hl, e]))
  ·exact .inr ⟨e.1, e.2, at_lt e.1⟩)
 rw [hl] at this
 exact this
theorem c477 (h : Heap) (hp : 0 < h.length) (v : Value) (X : Pan) (s : Nat) (hv : PtP h v X) (ok : OkP X) (hs : s < 8) : ACall Gam 477 [v, I s] h fun r h' => Grows h h' ∧ Vo h' h.length h'.length shPanel r (mapP X s) := by
 have hrow := ok.row
 obtain ⟨W, H, br⟩ := X
 obtain ⟨okW, okH, okn, okb⟩ := ok
 simp only at okW okH okn okb hrow
 obtain ⟨Wn, rfl⟩ := Int.eq_ofNat_of_zero_le (show 0 ≤ W by omega)
 obtain ⟨Hn, rfl⟩ := Int.eq_ofNat_of_zero_le (show 0 ≤ H by omega)
 rw [Int.toNat_natCast, Int.toNat_natCast] at hrow
 have eP : mapP ((Wn : Int), (Hn : Int), br) s = (((mapW Wn Hn s : Nat) : Int), ((mapH Wn Hn s : Nat) : Int), mapSt Wn Hn s br br.length) := rfl
 rw [eP]
 have a1 : 1 ≤ mapW Wn Hn s ∧ mapW Wn Hn s < 9 := by unfold mapW; split <;> omega
 have a2 : 1 ≤ mapH Wn Hn s ∧ mapH Wn Hn s < 9 := by unfold mapH; split <;> omega
 obtain ⟨N, hN⟩ : ∃ N, N = rowN (mapW Wn Hn s) (2 * mapH Wn Hn s) := ⟨_, rfl⟩
 have hN128 : N ≤ 128 := by rw [hN]; exact rowN_le a1.2 (by omega)
 have hbl : br.length = N := by
  have e1 := rowN_end (W := Wn) (by omega) (H := Hn) (by omega) (by omega) (by omega)
  have e2 := rowN_end a1.2 a2.2 a1.1 a2.1
  rw [← hrow] at e1
  rw [← hN] at e2
  unfold mapW mapH at e2
  have : ((Wn : Int) * (Hn - 1) + Hn * (Wn - 1)) = Hn * (Wn - 1) + Wn * (Hn - 1) := Int.add_comm _ _
  split at e2 <;> omega
 have hv0 := hv
 obtain ⟨b, o, sv, rfl, y1, y2, y3, r0, v1, v2⟩ := hv
 obtain ⟨b0, o0, z0, rfl, hz0, hm0, hx0, hc0⟩ := r0.ints
 simp only at y1 y2 y3 hv0
 refine ACall_intro g477 rfl ?_
 unfold fn477
 rw [awp_seq, awp_reg]
 generalize hK0 : seqQ Gam _ _ 0 = K0
 simp (disch := omega)
 subst hK0
 simp only [seqQ_zero]
 rw [awp_seq, awp_reg]
 generalize hK : seqQ Gam _ _ 0 = K
 simp (disch := omega) [y1, y2]
 have hi : (inner (Wn : Int) (Hn : Int)).toNat = rowN Wn (2 * Hn) := inner_row (by omega) (by omega) (by omega) (by omega)
 refine callW_of (c450 h Wn Hn ⟨by omega, by omega⟩ ⟨by omega, by omega⟩ hp) ?_
 rintro r1 h1 ⟨g1, o1⟩
 refine ⟨fun _ => g1, ?_⟩
 unfold newP at o1
 rw [hi, ← hrow, hbl] at o1
 obtain ⟨s1, rfl, _, _, o1⟩ := o1.panel
 obtain ⟨bb, zz, rfl, hzz, _, _, hbb⟩ := o1.ints
 rw [List.length_replicate]
 have st1 := store_box (h := h1) (cs := [I 0, I 0, sl 0 0 0 0]) (xs := [I Wn, I Hn, sl bb 0 N zz]) rfl
 simp (disch := omega) [st1]
 obtain ⟨h2, eh2⟩ : ∃ h2, h2 = h1 ++ [⟨[I Wn, I Hn, sl bb 0 N zz], true⟩] := ⟨_, rfl⟩
 rw [← eh2]
 have g2 : Grows h h2 := g1.trans ⟨_, eh2⟩
 have kb2 : h2[h1.length]? = some ⟨[I Wn, I Hn, sl bb 0 N zz], true⟩ := by rw [eh2]; simp
 have nz : ∀ {b z : Nat}, (z = 1 ∨ b = 0 ∧ List.replicate N (0 : Int) = []) → (z = 1 ∨ b = 0 ∧ N = 0) := by
  intro b z q
  exact q.imp id fun q => ⟨q.1, by simpa using q.2⟩
 have nb2 : N = 0 ∨ h2[bb]? = some ⟨ints (List.replicate N 0), true⟩ ∧ h.length ≤ bb := by
  rcases hbb with q | q
  ·exact .inl (by simpa using q)
  ·exact .inr ⟨by rw [eh2, List.getElem?_append_left q.2.2]; exact q.1, q.2.1⟩
 have ne2 : 0 < N → bb ≠ h1.length := by
  intro hn
  rcases hbb with q | q
  ·simp at q; omega
  ·omega
 subst hK
 simp only [seqQ_zero]
 rw [awp_seq]
 generalize hK : seqQ Gam _ (retQ _ _) = K
 have main : ∀ σ h2 (bo bb zz : Nat), σ 0 = pt b o → σ 1 = I s → σ 4 = .agg #[I 0, I 0, sl 0 0 0 0] → σ 5 = pt bo 0 → Grows h h2 → h.length ≤ bo → h2[bo]? = some ⟨[I (mapW Wn Hn s), I (mapH Wn Hn s), sl bb 0 N zz], true⟩ → (N = 0 ∨ h2[bb]? = some ⟨ints (List.replicate N 0), true⟩ ∧ h.length ≤ bb) → (0 < N → bb ≠ bo) → (zz = 1 ∨ bb = 0 ∧ N = 0) → K 0 σ h2 := by
  intro σ h2 bo bb zz p0 p1 p4 p5 g2 hbo kbo kbb hne hzz
  subst hK
  simp only [seqQ_zero]
  rw [awp_seq]
  generalize hK : seqQ Gam _ (retQ _ _) = K
  simp (disch := omega)
  refine awp_loop (fun (k : Nat) σ h' => k ≤ N ∧ σ 0 = pt b o ∧ σ 1 = I s ∧ σ 4 = .agg #[I 0, I 0, sl 0 0 0 0] ∧ σ 5 = pt bo 0 ∧ σ 6 = I k ∧ (N = 0 ∧ h' = h2 ∨ N ≠ 0 ∧ Mod bb (bb + 1) h2 h' ∧ h'[bb]? = some ⟨ints (mapSt Wn Hn s br k), true⟩)) (fun k => N - k) 0 ?_ ?_
  ·refine ⟨by omega, by simp [p0], by simp [p1], by simp [p4], by simp [p5], by simp, ?_⟩
   rcases kbb with q | q
   ·exact .inl ⟨q, rfl⟩
   ·by_cases e : N = 0
    ·exact .inl ⟨e, rfl⟩
    ·right
     exact ⟨e, Mod.refl _ _ _, by rw [q.1, hN]; rfl⟩
  ·rintro k σ h' ⟨hk, q0, q1, q4, q5, q6, hb⟩
   have gB : Grows h h' := by
    rcases hb with q | ⟨hn, hmd, _⟩
    ·rw [q.2]; exact g2
    ·rcases kbb with q | q
     ·exact absurd q hn
     ·exact hmd.grows g2 q.2
   have c3 := gB.cell y3
   have c1 := gB.cell y1
   have c2 := gB.cell y2
   simp (disch := omega) [q0, q6, c3]
   refine fork_dec (fun hlt => ?_) (fun hge => ?_)
   ·have k1 : k < br.length := by omega
    obtain ⟨hn, hmd, hb⟩ := hb.resolve_left (by omega)
    have hbb := (kbb.resolve_left hn).2
    obtain ⟨x, y, hpt⟩ := IsPt.ex (W := Wn) (H := Hn) (k := k) (by omega) (by omega) (by omega)
    simp (disch := omega) [q0, q1, q6, c1, c2]
    refine callW_of (c454 h' _ _ Wn Hn k (hv0.grow gB) rfl rfl (by omega) (by omega) (by omega) (by omega) (by omega)) ?_
    rintro _ h' ⟨⟨x', y', hpt', rfl⟩, rfl⟩
    obtain ⟨rfl, rfl⟩ := hpt.uniq hpt'
    refine ⟨fun _ => Grows.refl _, ?_⟩
    obtain ⟨d1, d2, d3⟩ := hpt.bd
    have d4 := hpt.y1
    have d5 := hpt.y2
    refine callW_of (c479 h' Wn Hn x y s (by omega) (by omega) ⟨by omega, by omega⟩ ⟨by omega, by omega⟩ hs) ?_
    rintro _ h' ⟨rfl, rfl⟩
    obtain ⟨X', hX'⟩ : ∃ X', X' = mapX Wn Hn x y s := ⟨_, rfl⟩
    obtain ⟨Y', hY'⟩ : ∃ Y', Y' = mapY Wn Hn x y s := ⟨_, rfl⟩
    obtain ⟨m1, m2, m3⟩ := map_pt (s := s) ⟨d1, d2⟩ ⟨d4, d5⟩ d3
    rw [← hX'] at m1 m3
    rw [← hY'] at m2 m3
    have hix : idxM Wn Hn s k = numP (mapW Wn Hn s) X' Y' := by
     unfold idxM; rw [thePt_eq hpt, hX', hY']
    have hnum := numP_lt m1 m2 m3
    rw [← hN, ← hix] at hnum
    have hml := mapSt_len (W := Wn) (H := Hn) (s := s) (br := br) k
    rw [← hN] at hml
    have kbo' : h'[bo]? = some ⟨[I (mapW Wn Hn s), I (mapH Wn Hn s), sl bb 0 N zz], true⟩ := by
     rw [hmd.2 bo (at_lt kbo) (by have := hne (by omega); omega)]; exact kbo
    have hz1 : zz = 1 := by
     rcases hzz with q | q
     ·exact q
     ·omega
    have hvo : Vr h' shInts (sl bb 0 N zz) (mapSt Wn Hn s br k) := by
     have := Vr.of_ints (h := h') (b := bb) (o := 0) (z := zz) (X := mapSt Wn Hn s br k) (.inl hz1) (by rw [hml, maxLen_eq]; omega) (by
      intro a ha
      have := mapSt_rng okb k a ha
      unfold I64; omega) (.inr (by rw [cellsAt_of hb (by simp [ints])]; simp [ints, List.take_of_length_le]))
     rw [hml] at this
     exact this
    have hpo : PtP h' (pt bo 0) ((mapW Wn Hn s : Nat), (mapH Wn Hn s : Nat), mapSt Wn Hn s br k) := PtP.at kbo' hvo (by unfold I64; omega) (by unfold I64; omega)
    have cl : cell h' bo 2 = some (sl bb 0 N zz) := by simp [cell, kbo']
    have hcell := ints_cell (hc0.imp id (grows_cellsAt gB)) k1
    have hcell : cell h' b0 (o0 + k) = some (I br[k]) := hcell
    have hbk := okb _ (List.getElem_mem k1)
    rw [← hX', ← hY']
    simp (disch := omega) [q0, q1, q5, q6, cl]
    refine callW_of (c451 h' _ _ (mapW Wn Hn s) X' Y' hpo rfl (by omega) (by omega) (by omega) (by omega)) ?_
    rintro _ h' ⟨rfl, rfl⟩
    refine ⟨fun _ => Grows.refl _, ?_⟩
    rw [← hix]
    simp (disch := omega) [q0, q1, q5, q6, c3, k1, hcell]
    refine callW_of (c475 h' br[k] s hbk hs) ?_
    rintro _ h' ⟨rfl, rfl⟩
    refine ⟨fun _ => Grows.refl _, ?_⟩
    have hst := store_map (v := kindM br[k] s) hb (k := idxM Wn Hn s k) (by omega)
    have eS : mapSt Wn Hn s br (k + 1) = (mapSt Wn Hn s br k).set (idxM Wn Hn s k) (kindM br[k] s) := by
     rw [mapSt, at0_of k1]
    simp (disch := omega) [q4, q5, hnum, hst, wrap64]
    refine ⟨k + 1, ⟨by omega, by omega, .inr ⟨hn, hmd.put (by omega) _, ?_⟩⟩, by omega⟩
    rw [eS]; simp [at_lt hb]
   ·have hkn : k = N := by omega
    have kbo' : h'[bo]? = some ⟨[I (mapW Wn Hn s), I (mapH Wn Hn s), sl bb 0 N zz], true⟩ := by
     rcases hb with q | ⟨hn, hmd, _⟩
     ·rw [q.2]; exact kbo
     ·rw [hmd.2 bo (at_lt kbo) (by have := hne (by omega); omega)]; exact kbo
    have hcl : cellsAt h' bo 0 3 = some [I (mapW Wn Hn s), I (mapH Wn Hn s), sl bb 0 N zz] := cellsAt_all kbo' rfl
    have hdone := map_done (h := h') (lo := h.length) (bb := bb) (zz := zz) (W := Wn) (H := Hn) (s := s) (br := br) (n := k) okb (by omega) (by omega) (by rw [← hN]; exact hzz) (by
     rw [← hN]
     rcases hb with q | ⟨hn, hmd, q⟩
     ·exact .inl q.1
     ·exact .inr ⟨q, (kbb.resolve_left hn).2⟩)
    rw [← hN, show k = br.length by omega] at hdone
    subst hK
    simp (disch := omega) [q4, q5, hcl]
    exact ⟨gB, hdone⟩
 by_cases a : 4 ≤ s
 ·have e1 : mapW Wn Hn s = Hn := by simp [mapW, a]
  have e2 : mapH Wn Hn s = Wn := by simp [mapH, a]
  have cy1 := g2.cell y1
  have cy2 := g2.cell y2
  simp (disch := omega) [bit4 hs, a, cy1, cy2]
  refine callW_of (c450 h2 Hn Wn ⟨by omega, by omega⟩ ⟨by omega, by omega⟩ (by have := g2.le; omega)) ?_
  rintro r3 h3 ⟨g3, o3⟩
  have hi2 : (inner (Hn : Int) (Wn : Int)).toNat = N := by
   rw [inner_row (by omega) (by omega) (by omega) (by omega), hN, e1, e2]
  unfold newP at o3
  rw [hi2] at o3
  obtain ⟨s3, rfl, _, _, o3⟩ := o3.panel
  obtain ⟨bb3, zz3, rfl, hzz3, _, _, hbb3⟩ := o3.ints
  rw [List.length_replicate]
  have kb3 : h3[h1.length]? = some ⟨[I Wn, I Hn, sl bb 0 N zz], true⟩ := g3.at kb2
  have st3 : storeAt h3 h1.length 0 [I Hn, I Wn, sl bb3 0 N zz3] = some (h3.set h1.length ⟨[I Hn, I Wn, sl bb3 0 N zz3], true⟩) := by
   simp [storeAt, kb3, splice]
  simp (disch := omega) [st3]
  have hlt3 := at_lt kb3
  have l2 : h2.length = h1.length + 1 := by rw [eh2]; simp
  refine main _ _ h1.length bb3 zz3 (by simp) (by simp) (by simp) (by simp) ((g2.trans g3).put g1.le _) g1.le (by rw [e1, e2]; simp [hlt3]) ?_ ?_ (nz hzz3)
  ·rcases hbb3 with q | q
   ·exact .inl (by simpa using q)
   ·exact .inr ⟨by rw [List.getElem?_set_ne (by omega)]; exact q.1, by have := g2.le; omega⟩
  ·intro hn
   rcases hbb3 with q | q
   ·simp at q; omega
   ·omega
 ·have e1 : mapW Wn Hn s = Wn := by simp [mapW, a]
  have e2 : mapH Wn Hn s = Hn := by simp [mapH, a]
  simp (disch := omega) [bit4 hs, a]
  exact main _ h2 h1.length bb zz (by simp) (by simp) (by simp) (by simp) g2 g1.le (by rw [e1, e2]; exact kb2) nb2 ne2 (nz hzz)
theorem c173 (h : Heap) (hp : 0 < h.length) (v : Value) (X : Pan) (s : Nat) (hv : Vr h shPanel v X) (ok : OkP X) (hs : s < 8) : ACall Gam 173 [v, I s] h fun r h' => Grows h h' ∧ Vo h' h.length h'.length shPanel r (mapP X s) := by
 have hrow := ok.row
 obtain ⟨W, H, br⟩ := X
 obtain ⟨okW, okH, okn, okb⟩ := ok
 simp only at okW okH okn okb hrow
 obtain ⟨Wn, rfl⟩ := Int.eq_ofNat_of_zero_le (show 0 ≤ W by omega)
 obtain ⟨Hn, rfl⟩ := Int.eq_ofNat_of_zero_le (show 0 ≤ H by omega)
 rw [Int.toNat_natCast, Int.toNat_natCast] at hrow
 have eP : mapP ((Wn : Int), (Hn : Int), br) s = (((mapW Wn Hn s : Nat) : Int), ((mapH Wn Hn s : Nat) : Int), mapSt Wn Hn s br br.length) := rfl
 rw [eP]
 have a1 : 1 ≤ mapW Wn Hn s ∧ mapW Wn Hn s < 9 := by unfold mapW; split <;> omega
 have a2 : 1 ≤ mapH Wn Hn s ∧ mapH Wn Hn s < 9 := by unfold mapH; split <;> omega
 obtain ⟨N, hN⟩ : ∃ N, N = rowN (mapW Wn Hn s) (2 * mapH Wn Hn s) := ⟨_, rfl⟩
 have hN128 : N ≤ 128 := by rw [hN]; exact rowN_le a1.2 (by omega)
 have hbl : br.length = N := by
  have e1 := rowN_end (W := Wn) (by omega) (H := Hn) (by omega) (by omega) (by omega)
  have e2 := rowN_end a1.2 a2.2 a1.1 a2.1
  rw [← hrow] at e1
  rw [← hN] at e2
  unfold mapW mapH at e2
  have : ((Wn : Int) * (Hn - 1) + Hn * (Wn - 1)) = Hn * (Wn - 1) + Wn * (Hn - 1) := Int.add_comm _ _
  split at e2 <;> omega
 obtain ⟨sv, rfl, v1, v2, r0⟩ := hv.panel
 obtain ⟨b0, o0, z0, rfl, hz0, hm0, hx0, hc0⟩ := r0.ints
 have hi : (inner (Wn : Int) (Hn : Int)).toNat = rowN Wn (2 * Hn) := inner_row (by omega) (by omega) (by omega) (by omega)
 have nz : ∀ {b z : Nat}, (z = 1 ∨ b = 0 ∧ List.replicate N (0 : Int) = []) → (z = 1 ∨ b = 0 ∧ N = 0) := by
  intro b z q
  exact q.imp id fun q => ⟨q.1, by simpa using q.2⟩
 refine ACall_intro g173 rfl ?_
 unfold fn173
 rw [awp_seq, awp_reg]
 generalize hK0 : seqQ Gam _ _ 0 = K0
 simp (disch := omega)
 subst hK0
 simp only [seqQ_zero]
 rw [awp_seq, awp_reg]
 generalize hK : seqQ Gam _ _ 0 = K
 simp (disch := omega)
 refine callW_of (c177 h Wn Hn ⟨by omega, by omega⟩ ⟨by omega, by omega⟩ hp) ?_
 rintro r1 h1 ⟨g1, o1⟩
 unfold newP at o1
 rw [hi, ← hrow, hbl] at o1
 obtain ⟨s1, rfl, _, _, o1⟩ := o1.panel
 obtain ⟨bb, zz, rfl, hzz, _, _, hbb⟩ := o1.ints
 rw [List.length_replicate]
 simp (disch := omega)
 have nb1 : N = 0 ∨ h1[bb]? = some ⟨ints (List.replicate N 0), true⟩ ∧ h.length ≤ bb := by
  rcases hbb with q | q
  ·exact .inl (by simpa using q)
  ·exact .inr ⟨q.1, q.2.1⟩
 subst hK
 simp only [seqQ_zero]
 rw [awp_seq]
 generalize hK : seqQ Gam _ (retQ _ _) = K
 have main : ∀ σ h2 (bb zz : Nat), σ 1 = I s → σ 2 = .agg #[I Wn, I Hn, sl b0 o0 br.length z0] → σ 4 = .agg #[I 0, I 0, sl 0 0 0 0] → σ 5 = .agg #[I (mapW Wn Hn s), I (mapH Wn Hn s), sl bb 0 N zz] → Grows h h2 → (N = 0 ∨ h2[bb]? = some ⟨ints (List.replicate N 0), true⟩ ∧ h.length ≤ bb) → (zz = 1 ∨ bb = 0 ∧ N = 0) → K 0 σ h2 := by
  intro σ h2 bb zz p1 p2 p4 p5 g2 kbb hzz
  subst hK
  simp only [seqQ_zero]
  rw [awp_seq]
  generalize hK : seqQ Gam _ (retQ _ _) = K
  have l2 := g2.le
  simp (disch := omega) [p2]
  refine callW_of (c49 h2 Wn Hn (sl b0 o0 br.length z0) (by omega) (by omega) (by omega) (by omega) (by omega)) ?_
  rintro v h3 ⟨g3, l, hl, hll, hbuf⟩
  rw [← hrow] at hll
  obtain ⟨pb, pz, rfl, hpc⟩ : ∃ pb pz, v = sl pb 0 br.length pz ∧ (br.length = 0 ∨ cellsAt h3 pb 0 (br.length * 2) = some (pairsV l) ∧ h2.length ≤ pb ∧ pb < h3.length) := by
   rcases hbuf with ⟨e1, rfl⟩ | ⟨b, m, rfl, e2, e3, e4⟩
   ·have : br.length = 0 := by
     have := congrArg List.length e1
     rw [pairsV_len] at this; simp at this; omega
    exact ⟨0, 2, by rw [this], .inl this⟩
   ·rw [pairsV_len] at e2
    have : m = br.length := by omega
    subst this
    exact ⟨b, 2, rfl, .inr ⟨cellsAt_all e4 (by rw [pairsV_len]; omega), e3, at_lt e4⟩⟩
  have kbb3 : N = 0 ∨ h3[bb]? = some ⟨ints (List.replicate N 0), true⟩ ∧ h.length ≤ bb ∧ bb < h2.length := by
   rcases kbb with q | q
   ·exact .inl q
   ·exact .inr ⟨g3.at q.1, q.2, at_lt q.1⟩
  simp (disch := omega)
  refine awp_loop (fun (k : Nat) σ h' => k ≤ N ∧ σ 1 = I s ∧ σ 2 = .agg #[I Wn, I Hn, sl b0 o0 br.length z0] ∧ σ 4 = .agg #[I 0, I 0, sl 0 0 0 0] ∧ σ 5 = .agg #[I (mapW Wn Hn s), I (mapH Wn Hn s), sl bb 0 N zz] ∧ σ 21 = sl pb 0 br.length pz ∧ σ 22 = I br.length ∧ σ 23 = I k ∧
   (N = 0 ∧ h' = h3 ∨ N ≠ 0 ∧ Mod bb (bb + 1) h3 h' ∧ h'[bb]? = some ⟨ints (mapSt Wn Hn s br k), true⟩)) (fun k => N - k) 0 ?_ ?_
  ·refine ⟨by omega, by simp [p1], by simp [p2], by simp [p4], by simp [p5], by simp, by simp, by simp, ?_⟩
   rcases kbb3 with q | q
   ·exact .inl ⟨q, rfl⟩
   ·by_cases e : N = 0
    ·exact .inl ⟨e, rfl⟩
    ·right
     exact ⟨e, Mod.refl _ _ _, by rw [q.1, hN]; rfl⟩
  ·rintro k σ h' ⟨hk, q1, q2, q4, q5, q21, q22, q23, hb⟩
   have gB : Grows h h' := by
    rcases hb with q | ⟨hn, hmd, _⟩
    ·rw [q.2]; exact g2.trans g3
    ·rcases kbb with q | q
     ·exact absurd q hn
     ·exact hmd.grows (g2.trans g3) q.2
   simp (disch := omega) [q22, q23]
   refine fork_dec (fun hlt => ?_) (fun hge => ?_)
   ·have k1 : k < br.length := by omega
    obtain ⟨hn, hmd, hb⟩ := hb.resolve_left (by omega)
    obtain ⟨_, hbb1, hbb2⟩ := kbb3.resolve_left hn
    obtain ⟨hpc, hp1, hp2⟩ := hpc.resolve_left (by omega)
    have hpc' : cellsAt h' pb 0 (br.length * 2) = some (pairsV l) := by
     unfold cellsAt at hpc ⊢
     rw [hmd.2 pb hp2 (by omega)]; exact hpc
    have hcp := cellsAt_in (i := k * 2) (m := 2) hpc' (by omega)
    rw [pairs_get l k (by omega)] at hcp
    have hpt := hl k (by omega)
    obtain ⟨x, hx⟩ : ∃ px, px = (l[k]'(by omega)).1 := ⟨_, rfl⟩
    obtain ⟨y, hy⟩ : ∃ py, py = (l[k]'(by omega)).2 := ⟨_, rfl⟩
    rw [← hx, ← hy] at hpt
    have hpv : pairV (l[k]'(by omega)) = [I x, I y] := by rw [hx, hy]; rfl
    rw [hpv] at hcp
    simp only [Nat.zero_add] at hcp
    obtain ⟨d1, d2, d3⟩ := hpt.bd
    have d4 := hpt.y1
    have d5 := hpt.y2
    obtain ⟨X', hX'⟩ : ∃ X', X' = mapX Wn Hn x y s := ⟨_, rfl⟩
    obtain ⟨Y', hY'⟩ : ∃ Y', Y' = mapY Wn Hn x y s := ⟨_, rfl⟩
    obtain ⟨m1, m2, m3⟩ := map_pt (s := s) ⟨d1, d2⟩ ⟨d4, d5⟩ d3
    rw [← hX'] at m1 m3
    rw [← hY'] at m2 m3
    have hix : idxM Wn Hn s k = numP (mapW Wn Hn s) X' Y' := by
     unfold idxM; rw [thePt_eq hpt, hX', hY']
    have hnum := numP_lt m1 m2 m3
    rw [← hN, ← hix] at hnum
    have hml := mapSt_len (W := Wn) (H := Hn) (s := s) (br := br) k
    rw [← hN] at hml
    have hcell := ints_cell (hc0.imp id (grows_cellsAt gB)) k1
    have hbk := okb _ (List.getElem_mem k1)
    simp (disch := omega) [q1, q2, q4, q5, q21, q23, k1, hcp]
    refine callW_of (c38 h' Wn Hn x y s _ (by omega) (by omega) ⟨by omega, by omega⟩ ⟨by omega, by omega⟩ hs) ?_
    rintro _ h' ⟨rfl, rfl⟩
    refine ⟨fun _ => Grows.refl _, ?_⟩
    rw [← hX', ← hY']
    refine callW_of (c40 h' (mapW Wn Hn s) (mapH Wn Hn s) X' Y' _ (by omega) (by omega) (by omega) (by omega) m3) ?_
    rintro _ h' ⟨rfl, rfl⟩
    refine ⟨fun _ => Grows.refl _, ?_⟩
    rw [← hix]
    simp (disch := omega) [q1, q2, q4, q5, q23, k1, hcell]
    refine callW_of (c172 h' br[k] s hbk hs) ?_
    rintro _ h' ⟨rfl, rfl⟩
    have hst := store_map (v := kindM br[k] s) hb (k := idxM Wn Hn s k) (by omega)
    have eS : mapSt Wn Hn s br (k + 1) = (mapSt Wn Hn s br k).set (idxM Wn Hn s k) (kindM br[k] s) := by
     rw [mapSt, at0_of k1]
    simp (disch := omega) [q1, q2, q4, q5, q21, q22, q23, hnum, hst, wrap64]
    refine ⟨k + 1, ⟨by omega, by omega, .inr ⟨hn, hmd.put (by omega) _, ?_⟩⟩, by omega⟩
    rw [eS]; simp [at_lt hb]
   ·have hkn : k = N := by omega
    have hdone := map_done (h := h') (lo := h.length) (bb := bb) (zz := zz) (W := Wn) (H := Hn) (s := s) (br := br) (n := k) okb (by omega) (by omega) (by rw [← hN]; exact hzz) (by
     rw [← hN]
     rcases hb with q | ⟨hn, hmd, q⟩
     ·exact .inl q.1
     ·exact .inr ⟨q, (kbb.resolve_left hn).2⟩)
    rw [← hN, show k = br.length by omega] at hdone
    subst hK
    simp (disch := omega) [q4, q5]
    exact ⟨gB, hdone⟩
 by_cases a : 4 ≤ s
 ·have a' : (4 : Int) ≤ s := by omega
  have e1 : mapW Wn Hn s = Hn := by simp [mapW, a]
  have e2 : mapH Wn Hn s = Wn := by simp [mapH, a]
  simp (disch := omega) [a']
  refine callW_of (c177 h1 Hn Wn ⟨by omega, by omega⟩ ⟨by omega, by omega⟩ (by have := g1.le; omega)) ?_
  rintro r3 h3 ⟨g3, o3⟩
  have hi2 : (inner (Hn : Int) (Wn : Int)).toNat = N := by
   rw [inner_row (by omega) (by omega) (by omega) (by omega), hN, e1, e2]
  unfold newP at o3
  rw [hi2] at o3
  obtain ⟨s3, rfl, _, _, o3⟩ := o3.panel
  obtain ⟨bb3, zz3, rfl, hzz3, _, _, hbb3⟩ := o3.ints
  rw [List.length_replicate]
  simp (disch := omega)
  refine main _ h3 bb3 zz3 (by simp) (by simp) (by simp) (by simp [e1, e2]) (g1.trans g3) ?_ (nz hzz3)
  rcases hbb3 with q | q
  ·exact .inl (by simpa using q)
  ·exact .inr ⟨q.1, by have := g1.le; omega⟩
 ·have a' : ¬ (4 : Int) ≤ s := by omega
  have e1 : mapW Wn Hn s = Wn := by simp [mapW, a]
  have e2 : mapH Wn Hn s = Hn := by simp [mapH, a]
  simp (disch := omega) [a']
  exact main _ h1 bb zz (by simp) (by simp) (by simp) (by simp [e1, e2]) g1 nb1 (nz hzz)
end Am

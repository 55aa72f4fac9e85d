/- Contracts: AmS3, AmS4, AmS5, AmS6, AmY1, AmY7, AmY2, AmY3, AmY4, AmY9, AmY10, AmY11, AmY5, AmY6, AmY12, AmY14, AmY8, AmY15. -/
import Derived.Test.YtaeaaogpdipjfaaAmK5
import Derived.Test.YtaeaaogpdipjfaaAmK2
import Derived.Test.YtaeaaogpdipjfaaAmK3
import Derived.Test.YtaeaaogpdipjfaaAmK4
import Derived.Test.YtaeaaogpdipjfaaAmK1
/-! AmS3 -/
set_option linter.unusedVariables false
set_option linter.unusedSimpArgs false
set_option maxHeartbeats 4000000
set_option maxRecDepth 4000
namespace Am
open Go

theorem JM.mod {h h' : Heap} {lo jb lo' hi' : Nat} {X : Jrn} {rest : List Value} (x : JM h lo jb X rest) (m : Mod lo' hi' h h') (hd : hi' ≤ lo) : JM h' lo jb X rest := by
  obtain ⟨b1, z1, b2, z2, b3, z3, hjb, hlo, hpos, hz1, i1, i2, i3, wf⟩ := x
  exact ⟨b1, z1, b2, z2, b3, z3, by rw [m.2 _ (at_lt hjb) (by omega)]; exact hjb, hlo, hpos, hz1, i1.imp id fun e => ⟨by rw [m.2 _ (at_lt e.1) (by omega)]; exact e.1, e.2⟩, i2.imp id fun e => ⟨e.1, by rw [m.2 _ (at_lt e.2.1) (by omega)]; exact e.2.1, e.2.2⟩, i3.imp id fun e => ⟨e.1, by rw [m.2 _ (at_lt e.2.1) (by omega)]; exact e.2.1, e.2.2⟩, wf⟩
/-- A journal of ours that is valid. -/
def OwnJ (h : Heap) (lo jb c : Nat) : Prop := ∃ X rest, JM h lo jb X rest ∧ okJ X = true ∧ X.2.1.length + X.2.2.length ≤ c

end Am
/-! AmS4 -/
set_option linter.unusedVariables false
set_option linter.unusedSimpArgs false
set_option maxHeartbeats 4000000
set_option maxRecDepth 4000
namespace Am
open Go

theorem c420 (h : Heap) (v w : Value) (X Y : Pan) (hv : Vr h shPanel v X) (hw : Vr h shPanel w Y) : ACall Gam 420 [v, w] h fun r h' => r = B (samP X Y) ∧ Grows h h' := by
  obtain ⟨W, H, br⟩ := X
  obtain ⟨W2, H2, br2⟩ := Y
  obtain ⟨s, rfl, w1, w2, r1⟩ := hv.panel
  obtain ⟨s', rfl, w3, w4, r2⟩ := hw.panel
  refine ACall_intro g420 rfl ?_
  unfold fn420
  simp (disch := omega)
  obtain ⟨ha, eha⟩ : ∃ ha, ha = h ++ [⟨[I W, I H, s], true⟩] ++ [⟨[I W2, I H2, s'], true⟩] := ⟨_, rfl⟩
  have ga : Grows h ha := ⟨[⟨[I W, I H, s], true⟩, ⟨[I W2, I H2, s'], true⟩], by rw [eha]; simp⟩
  have ka : ha[h.length]? = some ⟨[I W, I H, s], true⟩ := by rw [eha]; simp
  have kb : ha[h.length + 1]? = some ⟨[I W2, I H2, s'], true⟩ := by rw [eha]; simp
  simp only [List.append_assoc, List.cons_append, List.nil_append] at eha
  rw [← eha]
  refine callW_of (c456 ha _ _ _ _ (PtP.at ka (r1.grow ga) w1 w2) (PtP.at kb (r2.grow ga) w3 w4)) ?_
  rintro _ h1 ⟨rfl, rfl⟩
  refine ⟨fun e => (by cases e), ?_⟩
  simp (disch := omega)
  exact ga
end Am
/-! AmS5 -/
set_option linter.unusedVariables false
set_option linter.unusedSimpArgs false
set_option maxHeartbeats 4000000
set_option maxRecDepth 4000
namespace Am
open Go

theorem c4 (h : Heap) (b m lb : Nat) (L : List Int) (hs : Src h b m) (hm : m ≤ 100000000) (hl : h[lb]? = some ⟨ints L, true⟩) (hne : lb ≠ b) (h0 : 0 < L.length) (h1 : L.length ≤ 200) :
    ACall Gam 4 [pt b 0, sl lb 0 L.length 1] h fun r h' => ∃ x ∈ L, r = I x ∧ Mod b (b + 1) h h' ∧ h'.length = h.length ∧ Src h' b (m + 2) := by
  refine ACall_intro g4 rfl ?_
  unfold fn4
  rw [awp_seq, awp_reg]
  generalize hK : seqQ Gam _ _ 0 = K
  simp (disch := omega)
  subst hK
  simp only [seqQ_zero]
  rw [awp_seq, awp_reg]
  generalize hK : seqQ Gam _ _ 0 = K
  simp (disch := omega)
  refine callW_of (c7 h b m L.length hs (by omega) (by unfold I64; omega)) ?_
  rintro _ h2 ⟨k, rfl, k1, k2, md, l2, hs2⟩
  have hk : k < L.length := by
    by_cases e : L.length = 1
    · have := k1 (by omega); omega
    · have := k2 (by omega); omega
  have hb2 : h2[lb]? = some ⟨ints L, true⟩ := by rw [md.2 lb (at_lt hl) (by omega)]; exact hl
  have cb := cell_int hb2 hk
  simp (disch := omega) [hk, cb]
  subst hK
  simp only [seqQ_zero]
  simp (disch := omega)
  exact ⟨at0 L k, by rw [at0_of hk]; exact List.getElem_mem hk, rfl, md, l2, hs2⟩
theorem c269 (h : Heap) (v : Value) (X : List Int) (hv : Vr h shBytes v X) : ACall Gam 269 [v] h fun r h' => r = B (decide (4096 < X.length)) ∧ h' = h := by
  obtain ⟨b, o, z, rfl, hm, _⟩ := byte_at hv
  refine ACall_intro g269 rfl ?_
  unfold fn269
  simp (disch := omega)
  omega
end Am
/-! AmS6 -/
set_option linter.unusedVariables false
set_option linter.unusedSimpArgs false
set_option maxHeartbeats 4000000
set_option maxRecDepth 4000
namespace Am
open Go

end Am
/-! AmY1 -/
set_option linter.unusedVariables false
set_option linter.unusedSimpArgs false
set_option maxHeartbeats 4000000
set_option maxRecDepth 4000
namespace Am
open Go

/-- Where a symmetry moves a point. -/
def mapX (W H x y s : Nat) : Nat :=
  let x1 := if 4 ≤ s then y else x
  let w := if 4 ≤ s then H else W
  if s % 2 = 1 then 2 * w - x1 else x1
def mapY (W H x y s : Nat) : Nat :=
  let y1 := if 4 ≤ s then x else y
  let h := if 4 ≤ s then W else H
  if s / 2 % 2 = 1 then 2 * h - y1 else y1
def mapW (W H s : Nat) : Nat := if 4 ≤ s then H else W
def mapH (W H s : Nat) : Nat := if 4 ≤ s then W else H
/-- A break as a symmetry moves it. -/
def kindM (k : Int) (s : Nat) : Int := if 4 ≤ s ∧ k ≠ 0 then 3 - k else k
noncomputable def idxM (W H s k : Nat) : Nat := numP (mapW W H s) (mapX W H (thePt W H k).1 (thePt W H k).2 s) (mapY W H (thePt W H k).1 (thePt W H k).2 s)
noncomputable def mapSt (W H s : Nat) (br : List Int) : Nat → List Int
  | 0 => List.replicate (rowN (mapW W H s) (2 * mapH W H s)) 0
  | k + 1 => (mapSt W H s br k).set (idxM W H s k) (kindM (at0 br k) s)
noncomputable def mapP (X : Pan) (s : Nat) : Pan := ((mapW X.1.toNat X.2.1.toNat s : Nat), (mapH X.1.toNat X.2.1.toNat s : Nat), mapSt X.1.toNat X.2.1.toNat s X.2.2 X.2.2.length)
theorem OkP.row {X : Pan} (ok : OkP X) : X.2.2.length = rowN X.1.toNat (2 * X.2.1.toNat) := by
  have h1 := ok.w; have h2 := ok.h; have h3 := ok.n
  have := rowN_end (W := X.1.toNat) (by omega) (H := X.2.1.toNat) (by omega) (by omega) (by omega)
  rw [Int.toNat_of_nonneg (by omega), Int.toNat_of_nonneg (by omega)] at this
  unfold inner at h3
  omega
/-! ### the order of panels -/
def cmpI (a b : Int) : Int := if a < b then -1 else if b < a then 1 else 0
def cmpL : List Int → List Int → Int
  | [], [] => 0
  | [], _ :: _ => -1
  | _ :: _, [] => 1
  | a :: l, b :: m => if cmpI a b = 0 then cmpL l m else cmpI a b
def cmpP (X Y : Pan) : Int := if cmpI X.1 Y.1 ≠ 0 then cmpI X.1 Y.1 else if cmpI X.2.1 Y.2.1 ≠ 0 then cmpI X.2.1 Y.2.1 else cmpL X.2.2 Y.2.2
noncomputable def canonF (X : Pan) : Nat → Pan
  | 0 => X
  | s + 1 => if cmpP (mapP X (s + 1)) (canonF X s) < 0 then mapP X (s + 1) else canonF X s
noncomputable def canonP (X : Pan) : Pan := canonF X 7
theorem OkP.siz {X : Pan} (ok : OkP X) : X.2.2.length ≤ 128 := by
  have h1 := ok.w; have h2 := ok.h
  rw [ok.row]
  exact rowN_le (by omega) (by omega)
end Am
/-! AmY7 -/
set_option linter.unusedVariables false
set_option linter.unusedSimpArgs false
set_option maxHeartbeats 4000000
set_option maxRecDepth 4000
namespace Am
open Go

section
variable {α : Type} (f R : α → α) (seg : α → Nat) (V : α → Prop) (N : Nat)
def itW (f : α → α) : Nat → α → α
  | 0, w => w
  | k + 1, w => f (itW f k w)
theorem itW_add {f : α → α} (i j : Nat) (w : α) : itW f (i + j) w = itW f j (itW f i w) := by
  induction j with
  | zero => rfl
  | succ j ih => rw [← Nat.add_assoc]; simp only [itW]; rw [ih]
/-- What makes the curves of walkers closed. -/
structure Walks : Prop where
  vf : ∀ w, V w → V (f w)
  vr : ∀ w, V w → V (R w)
  rr : ∀ w, R (R w) = w
  fr : ∀ w, V w → f (R (f w)) = R w
  ne : ∀ w, V w → f w ≠ R w
  nr : ∀ w, V w → R w ≠ w
  sg : ∀ w v, V w → V v → (seg w = seg v ↔ w = v ∨ w = R v)
  lt : ∀ w, V w → seg w < N
variable {f R seg V N}
theorem Walks.vi (a : Walks f R seg V N) {w : α} (h : V w) : ∀ k, V (itW f k w)
  | 0 => h
  | k + 1 => a.vf _ (a.vi h k)
theorem Walks.inj (a : Walks f R seg V N) {w v : α} (h1 : V w) (h2 : V v) (e : f w = f v) : w = v := by
  have e1 := a.fr w h1
  have e2 := a.fr v h2
  rw [e, e2] at e1
  rw [← a.rr w, ← e1, a.rr]
/-- A walker turned back walks back. -/
theorem Walks.back (a : Walks f R seg V N) {w : α} (h : V w) : ∀ k, itW f k (R (itW f k w)) = R w
  | 0 => rfl
  | k + 1 => by
    have e := a.fr _ (a.vi h k)
    have := a.back h k
    rw [show k + 1 = 1 + k by omega, itW_add, Nat.add_comm]
    simp only [itW]
    rw [e]; exact this
theorem Walks.injI (a : Walks f R seg V N) {u v : α} (h : V u) (h' : V v) : ∀ k, itW f k u = itW f k v → u = v
  | 0, e => e
  | k + 1, e => a.injI h h' k (a.inj (a.vi h k) (a.vi h' k) e)
theorem Walks.never (a : Walks f R seg V N) {w : α} (h : V w) (m : Nat) : itW f m w ≠ R w := by
  intro e
  rcases Nat.mod_two_eq_zero_or_one m with hm | hm
  · obtain ⟨k, rfl⟩ : ∃ k, m = k + k := ⟨m / 2, by omega⟩
    rw [itW_add] at e
    have hb := a.back h k
    rw [← e] at hb
    have := a.injI (a.vr _ (a.vi h k)) (a.vi h k) k hb
    exact a.nr _ (a.vi h k) this
  · obtain ⟨k, rfl⟩ : ∃ k, m = k + 1 + k := ⟨m / 2, by omega⟩
    rw [itW_add] at e
    have hb := a.back h k
    rw [← e] at hb
    have := a.injI (a.vr _ (a.vi h k)) (a.vi h (k + 1)) k hb
    exact a.ne _ (a.vi h k) this.symm
theorem Walks.same (a : Walks f R seg V N) {w : α} (h : V w) {i j : Nat} (hij : i ≤ j) (e : seg (itW f i w) = seg (itW f j w)) : itW f (j - i) w = w := by
  have hi := a.vi h i
  have hj := a.vi h j
  rcases (a.sg _ _ hj hi).1 e.symm with q | q
  · have : itW f i (itW f (j - i) w) = itW f i w := by
      rw [← itW_add, show j - i + i = j by omega, q]
    exact a.injI (a.vi h (j - i)) h i this
  · exfalso
    refine a.never hi (j - i) ?_
    rw [← itW_add, show i + (j - i) = j by omega]; exact q
theorem pigeon : ∀ (n : Nat) (g : Nat → Nat), (∀ i, i ≤ n → g i < n) → ∃ i j, i < j ∧ j ≤ n ∧ g i = g j
  | 0, g, hb => by have := hb 0 (Nat.le_refl _); omega
  | n + 1, g, hb => by
    by_cases q : ∃ i, i ≤ n ∧ g i = g (n + 1)
    · obtain ⟨i, h1, h2⟩ := q
      exact ⟨i, n + 1, by omega, Nat.le_refl _, h2⟩
    · have hc := hb (n + 1) (Nat.le_refl _)
      have hne : ∀ i, i ≤ n → g i ≠ g (n + 1) := fun i hi e => q ⟨i, hi, e⟩
      obtain ⟨i, j, h1, h2, h3⟩ := pigeon n (fun i => if g (n + 1) < g i then g i - 1 else g i) (fun i hi => by
        have := hne i hi
        have := hb i (by omega)
        split <;> omega)
      have e1 := hne i (by omega)
      have e2 := hne j (by omega)
      refine ⟨i, j, h1, by omega, ?_⟩
      split at h3 <;> split at h3 <;> omega
theorem least {P : Nat → Prop} : ∀ n, P n → ∃ m, m ≤ n ∧ P m ∧ ∀ k, k < m → ¬ P k := by
  intro n
  induction n using Nat.strongRecOn with
  | ind n ih =>
    intro hp
    by_cases q : ∃ k, k < n ∧ P k
    · obtain ⟨k, h1, h2⟩ := q
      obtain ⟨m, a, b, c⟩ := ih k h1 h2
      exact ⟨m, by omega, b, c⟩
    · exact ⟨n, Nat.le_refl _, hp, fun k hk hx => q ⟨k, hk, hx⟩⟩
/-- The length of a walker's curve. -/
theorem Walks.period (a : Walks f R seg V N) {w : α} (h : V w) : ∃ n, 0 < n ∧ n ≤ N ∧ itW f n w = w := by
  obtain ⟨i, j, h1, h2, h3⟩ := pigeon N (fun i => seg (itW f i w)) fun i _ => a.lt _ (a.vi h i)
  exact ⟨j - i, by omega, by omega, a.same h (by omega) h3⟩
open Classical in
noncomputable def perW (f : α → α) (w : α) : Nat := if h : ∃ n, (0 < n ∧ itW f n w = w) ∧ ∀ k, k < n → ¬ (0 < k ∧ itW f k w = w) then Classical.choose h else 0
theorem Walks.per (a : Walks f R seg V N) {w : α} (h : V w) : 0 < perW f w ∧ perW f w ≤ N ∧ itW f (perW f w) w = w ∧ ∀ j, 0 < j → j < perW f w → itW f j w ≠ w := by
  obtain ⟨n, h1, h2, h3⟩ := a.period h
  obtain ⟨m, m1, m2, m3⟩ := least (P := fun n => 0 < n ∧ itW f n w = w) n ⟨h1, h3⟩
  have e : ∃ n, (0 < n ∧ itW f n w = w) ∧ ∀ k, k < n → ¬ (0 < k ∧ itW f k w = w) := ⟨m, m2, m3⟩
  unfold perW
  rw [dif_pos e]
  obtain ⟨p1, p2⟩ := Classical.choose_spec e
  refine ⟨p1.1, ?_, p1.2, fun j hj hl hx => p2 j hl ⟨hj, hx⟩⟩
  by_cases q : Classical.choose e ≤ N
  · exact q
  · exact absurd ⟨h1, h3⟩ (p2 n (by omega))
theorem Walks.dist (a : Walks f R seg V N) {w : α} (h : V w) {i j : Nat} (hij : i < j) (hj : j < perW f w) : seg (itW f i w) ≠ seg (itW f j w) := by
  intro e
  exact (a.per h).2.2.2 (j - i) (by omega) (by omega) (a.same h (by omega) e)

/-! ### the curve of each segment -/
def paint (f : α → α) (seg : α → Nat) (w : α) (c : Int) (o : List Int) : Nat → List Int
  | 0 => o
  | k + 1 => (paint f seg w c o k).set (seg (itW f k w)) c
theorem paint_len {w : α} {c : Int} {o : List Int} : ∀ k, (paint f seg w c o k).length = o.length
  | 0 => rfl
  | k + 1 => by simp [paint, paint_len k]
theorem paint_at {w : α} {c : Int} {o : List Int} {s : Nat} (hs : s < o.length) : ∀ k, at0 (paint f seg w c o k) s = if ∃ j, j < k ∧ seg (itW f j w) = s then c else at0 o s
  | 0 => by simp [paint]
  | k + 1 => by
    simp only [paint]
    have ih := paint_at (w := w) (c := c) hs k
    have hl := paint_len (f := f) (seg := seg) (w := w) (c := c) (o := o) k
    by_cases e : seg (itW f k w) = s
    · rw [if_pos ⟨k, by omega, e⟩]
      unfold at0
      rw [List.getD_eq_getElem?_getD, e, List.getElem?_set_self (by omega)]; rfl
    · have : at0 ((paint f seg w c o k).set (seg (itW f k w)) c) s = at0 (paint f seg w c o k) s := by
        unfold at0
        rw [List.getD_eq_getElem?_getD, List.getElem?_set_ne e, ← List.getD_eq_getElem?_getD]
      rw [this, ih]
      by_cases q : ∃ j, j < k ∧ seg (itW f j w) = s
      · obtain ⟨j, a, b⟩ := q
        rw [if_pos ⟨j, a, b⟩, if_pos ⟨j, by omega, b⟩]
      · rw [if_neg q, if_neg]
        rintro ⟨j, a, b⟩
        by_cases ej : j = k
        · exact e (ej ▸ b)
        · exact q ⟨j, by omega, b⟩
/-- Owned segments are owned with all of their curve. -/
def Closed (f : α → α) (seg : α → Nat) (V : α → Prop) (o : List Int) : Prop := ∀ w, V w → (0 ≤ at0 o (seg w) ↔ 0 ≤ at0 o (seg (f w)))
theorem Closed.it (hV : ∀ w, V w → V (f w)) {o : List Int} (a : Closed f seg V o) {w : α} (h : V w) : ∀ k, V (itW f k w) ∧ (0 ≤ at0 o (seg w) ↔ 0 ≤ at0 o (seg (itW f k w)))
  | 0 => ⟨h, Iff.rfl⟩
  | k + 1 => by
    obtain ⟨h1, h2⟩ := Closed.it hV a h k
    exact ⟨hV _ h1, h2.trans (a _ h1)⟩
theorem Walks.closed (a : Walks f R seg V N) {w : α} (h : V w) {c : Int} (hc : 0 ≤ c) {o : List Int} (ho : o.length = N) (cl : Closed f seg V o) : Closed f seg V (paint f seg w c o (perW f w)) := by
  obtain ⟨p1, p2, p3, p4⟩ := a.per h
  intro v hv
  rw [paint_at (by rw [ho]; exact a.lt v hv), paint_at (by rw [ho]; exact a.lt _ (a.vf v hv))]
  have key : (∃ j, j < perW f w ∧ seg (itW f j w) = seg v) ↔ ∃ j, j < perW f w ∧ seg (itW f j w) = seg (f v) := by
    constructor
    · rintro ⟨j, h1, h2⟩
      rcases (a.sg _ _ (a.vi h j) hv).1 h2 with q | q
      · by_cases e : j + 1 < perW f w
        · exact ⟨j + 1, e, by simp only [itW]; rw [q]⟩
        · refine ⟨0, p1, ?_⟩
          have : itW f (j + 1) w = w := by rw [show j + 1 = perW f w by omega]; exact p3
          simp only [itW] at this ⊢
          rw [← q, this]
      · -- f^j w = R v, so R (f v) = f^(j-1) w
        have hb : f (R (f v)) = R v := a.fr v hv
        by_cases e : j = 0
        · subst e
          refine ⟨perW f w - 1, by omega, (a.sg _ _ (a.vi h _) (a.vf v hv)).2 (.inr ?_)⟩
          refine a.inj (a.vi h _) (a.vr _ (a.vf v hv)) ?_
          rw [hb, ← q]
          have : itW f (perW f w - 1 + 1) w = w := by rw [show perW f w - 1 + 1 = perW f w by omega]; exact p3
          exact this
        · refine ⟨j - 1, by omega, (a.sg _ _ (a.vi h _) (a.vf v hv)).2 (.inr ?_)⟩
          refine a.inj (a.vi h _) (a.vr _ (a.vf v hv)) ?_
          rw [hb, ← q]
          show itW f (j - 1 + 1) w = _
          rw [show j - 1 + 1 = j by omega]
    · rintro ⟨j, h1, h2⟩
      rcases (a.sg _ _ (a.vi h j) (a.vf v hv)).1 h2 with q | q
      · by_cases e : j = 0
        · subst e
          refine ⟨perW f w - 1, by omega, (a.sg _ _ (a.vi h _) hv).2 (.inl ?_)⟩
          refine a.inj (a.vi h _) hv ?_
          rw [← q]
          show itW f (perW f w - 1 + 1) w = _
          rw [show perW f w - 1 + 1 = perW f w by omega]; exact p3
        · refine ⟨j - 1, by omega, (a.sg _ _ (a.vi h _) hv).2 (.inl ?_)⟩
          refine a.inj (a.vi h _) hv ?_
          rw [← q]
          show itW f (j - 1 + 1) w = _
          rw [show j - 1 + 1 = j by omega]
      · -- f^j w = R (f v), so f^(j+1) w = R v
        have hb : f (R (f v)) = R v := a.fr v hv
        by_cases e : j + 1 < perW f w
        · exact ⟨j + 1, e, (a.sg _ _ (a.vi h _) hv).2 (.inr (by simp only [itW]; rw [q, hb]))⟩
        · refine ⟨0, p1, (a.sg _ _ h hv).2 (.inr ?_)⟩
          have : itW f (j + 1) w = w := by rw [show j + 1 = perW f w by omega]; exact p3
          simp only [itW] at this
          rw [q, hb] at this
          exact this.symm
  by_cases q : ∃ j, j < perW f w ∧ seg (itW f j w) = seg v
  · rw [if_pos q, if_pos (key.1 q)]
  · rw [if_neg q, if_neg (fun x => q (key.2 x))]; exact cl v hv

/-- After the first segments: the curve of each segment, the number of curves. -/
noncomputable def curvesSt (f : α → α) (seg : α → Nat) (wk : Nat → α) (N : Nat) : Nat → List Int × Nat
  | 0 => (List.replicate N (-1), 0)
  | k + 1 => if 0 ≤ at0 (curvesSt f seg wk N k).1 k then curvesSt f seg wk N k else (paint f seg (wk k) (curvesSt f seg wk N k).2 (curvesSt f seg wk N k).1 (perW f (wk k)), (curvesSt f seg wk N k).2 + 1)
theorem Walks.st (a : Walks f R seg V N) {wk : Nat → α} (hw : ∀ k, k < N → V (wk k)) : ∀ k, k ≤ N → (curvesSt f seg wk N k).1.length = N ∧ Closed f seg V (curvesSt f seg wk N k).1 ∧ (curvesSt f seg wk N k).2 ≤ k
  | 0, _ => by
    refine ⟨by simp [curvesSt], ?_, by simp [curvesSt]⟩
    intro w hw
    have h1 := a.lt w hw
    have h2 := a.lt _ (a.vf w hw)
    simp [curvesSt, at0, List.getD_eq_getElem?_getD, List.getElem?_replicate, h1, h2]
  | k + 1, hk => by
    obtain ⟨h1, h2, h3⟩ := Walks.st a hw k (by omega)
    simp only [curvesSt]
    split
    · exact ⟨h1, h2, by omega⟩
    · exact ⟨by rw [paint_len, h1], a.closed (hw k (by omega)) (by omega) h1 h2, by simp only; omega⟩
/-- The steps of the walk that paints a curve: not owned before the end, owned at the end. -/
theorem Walks.run (a : Walks f R seg V N) {w : α} (h : V w) {c : Int} (hc : 0 ≤ c) {o : List Int} (ho : o.length = N) (cl : Closed f seg V o) (hn : at0 o (seg w) < 0) :
    (∀ k, k < perW f w → at0 (paint f seg w c o k) (seg (itW f k w)) < 0) ∧ 0 ≤ at0 (paint f seg w c o (perW f w)) (seg (itW f (perW f w) w)) := by
  obtain ⟨p1, p2, p3, p4⟩ := a.per h
  constructor
  · intro k hk
    have hv := a.vi h k
    rw [paint_at (by rw [ho]; exact a.lt _ hv), if_neg]
    · have := (Closed.it a.vf cl h k).2
      omega
    · rintro ⟨j, hj, e⟩
      exact a.dist h hj hk e
  · rw [p3, paint_at (by rw [ho]; exact a.lt _ h), if_pos ⟨0, p1, rfl⟩]; exact hc
end

/-! ### the walkers of a panel -/
abbrev Wk := Int × Int × Int × Int
def edgeW (W H : Nat) (x y : Int) : Prop := x = 0 ∨ x = 2 * W ∨ y = 0 ∨ y = 2 * H
instance (W H : Nat) (x y : Int) : Decidable (edgeW W H x y) := by unfold edgeW; infer_instance
def kindW (W H : Nat) (br : List Int) (x y : Int) : Int := if edgeW W H x y then 0 else at0 br (numP W x.toNat y.toNat)
def stepW (W H : Nat) (br : List Int) (w : Wk) : Wk :=
  (w.1 + w.2.2.1, w.2.1 + w.2.2.2,
   if w.1 + w.2.2.1 = 0 ∨ w.1 + w.2.2.1 = 2 * W ∨ kindW W H br (w.1 + w.2.2.1) (w.2.1 + w.2.2.2) = 1 then -w.2.2.1 else w.2.2.1,
   if w.2.1 + w.2.2.2 = 0 ∨ w.2.1 + w.2.2.2 = 2 * H ∨ kindW W H br (w.1 + w.2.2.1) (w.2.1 + w.2.2.2) = 2 then -w.2.2.2 else w.2.2.2)
def backW (w : Wk) : Wk := (w.1 + w.2.2.1, w.2.1 + w.2.2.2, -w.2.2.1, -w.2.2.2)
structure OkW (W H : Nat) (w : Wk) : Prop where
  dx : w.2.2.1 = 1 ∨ w.2.2.1 = -1
  dy : w.2.2.2 = 1 ∨ w.2.2.2 = -1
  x : 0 ≤ w.1 ∧ w.1 ≤ 2 * W
  y : 0 ≤ w.2.1 ∧ w.2.1 ≤ 2 * H
  nx : 0 ≤ w.1 + w.2.2.1 ∧ w.1 + w.2.2.1 ≤ 2 * W
  ny : 0 ≤ w.2.1 + w.2.2.2 ∧ w.2.1 + w.2.2.2 ≤ 2 * H
  p : (w.1 + w.2.1) % 2 = 1
def minI (a b : Int) : Int := if a ≤ b then a else b
def segW (H : Nat) (w : Wk) : Nat := (minI w.1 (w.1 + w.2.2.1) * (2 * H) + minI w.2.1 (w.2.1 + w.2.2.2)).toNat
theorem minI_one {x d : Int} (h : d = 1 ∨ d = -1) : minI x (x + d) = if d = 1 then x else x - 1 := by
  unfold minI; rcases h with rfl | rfl
  · rw [if_pos (by omega), if_pos rfl]
  · rw [if_neg (by omega), if_neg (by omega)]; omega
theorem pair_eq {H a b c d : Int} (h : 0 < H) (hb : 0 ≤ b ∧ b < H) (hd : 0 ≤ d ∧ d < H) (e : a * H + b = c * H + d) : a = c ∧ b = d := by
  have h1 : (a * H + b) / H = a := by
    rw [Int.add_comm, Int.add_mul_ediv_right _ _ (by omega), Int.ediv_eq_zero_of_lt hb.1 hb.2]; omega
  have h2 : (c * H + d) / H = c := by
    rw [Int.add_comm, Int.add_mul_ediv_right _ _ (by omega), Int.ediv_eq_zero_of_lt hd.1 hd.2]; omega
  have : a = c := by rw [← h1, e, h2]
  subst this
  exact ⟨rfl, by omega⟩
theorem seg_bd {W H : Nat} {w : Wk} (h : OkW W H w) : (0 ≤ minI w.1 (w.1 + w.2.2.1) ∧ minI w.1 (w.1 + w.2.2.1) ≤ 2 * W - 1) ∧ (0 ≤ minI w.2.1 (w.2.1 + w.2.2.2) ∧ minI w.2.1 (w.2.1 + w.2.2.2) ≤ 2 * H - 1) := by
  obtain ⟨dx, dy, x, y, nx, ny, p⟩ := h
  rw [minI_one dx, minI_one dy]
  rcases dx with e | e <;> rcases dy with e' | e' <;> rw [e, e'] <;> rw [e] at nx <;> rw [e'] at ny <;> simp <;> omega
theorem seg_cast {W H : Nat} {w : Wk} (h : OkW W H w) : (segW H w : Int) = minI w.1 (w.1 + w.2.2.1) * (2 * H) + minI w.2.1 (w.2.1 + w.2.2.2) := by
  obtain ⟨⟨a, _⟩, b, _⟩ := seg_bd h
  have : 0 ≤ minI w.1 (w.1 + w.2.2.1) * (2 * (H : Int)) := Int.mul_nonneg a (by omega)
  unfold segW; omega
theorem seg_lt {W H : Nat} {w : Wk} (h : OkW W H w) : segW H w < 4 * W * H := by
  obtain ⟨⟨a, a'⟩, b, b'⟩ := seg_bd h
  have hc := seg_cast h
  have h1 : minI w.1 (w.1 + w.2.2.1) * (2 * (H : Int)) ≤ (2 * W - 1) * (2 * H) := Int.mul_le_mul_of_nonneg_right a' (by omega)
  have h2 : ((2 : Int) * W - 1) * (2 * H) = 4 * W * H - 2 * H := by
    rw [Int.sub_mul]; simp only [Int.one_mul]
    congr 1
    rw [show (2 : Int) * W * (2 * H) = (2 * 2) * (W * H) by ac_rfl, show (4 : Int) * W * H = 4 * (W * H) by ac_rfl]
    rfl
  have h3 : ((4 * W * H : Nat) : Int) = 4 * W * H := by simp
  omega
theorem kindW_edge {W H : Nat} {br : List Int} {x y : Int} (h : edgeW W H x y) : kindW W H br x y = 0 := if_pos h
theorem walks {W H : Nat} {br : List Int} (w1 : 1 ≤ W) (h1 : 1 ≤ H) : Walks (stepW W H br) backW (segW H) (OkW W H) (4 * W * H) where
  vf := by
    rintro ⟨x, y, dx, dy⟩ ⟨hdx, hdy, hx, hy, hnx, hny, hp⟩
    simp only at *
    have c1 : ∀ k : Int, (if x + dx = 0 ∨ x + dx = 2 * (W : Int) ∨ k = 1 then -dx else dx) = 1 ∨ (if x + dx = 0 ∨ x + dx = 2 * (W : Int) ∨ k = 1 then -dx else dx) = -1 := by intro k; split <;> omega
    have c2 : ∀ k : Int, (if y + dy = 0 ∨ y + dy = 2 * (H : Int) ∨ k = 2 then -dy else dy) = 1 ∨ (if y + dy = 0 ∨ y + dy = 2 * (H : Int) ∨ k = 2 then -dy else dy) = -1 := by intro k; split <;> omega
    refine ⟨c1 _, c2 _, hnx, hny, ?_, ?_, by simp only [stepW]; omega⟩
    · simp only [stepW]; split <;> omega
    · simp only [stepW]; split <;> omega
  vr := by
    rintro ⟨x, y, dx, dy⟩ ⟨hdx, hdy, hx, hy, hnx, hny, hp⟩
    simp only at *
    refine ⟨?_, ?_, hnx, hny, ?_, ?_, ?_⟩ <;> simp only [backW] <;> omega
  rr := by
    rintro ⟨x, y, dx, dy⟩
    simp only [backW, Prod.mk.injEq]
    omega
  fr := by
    rintro ⟨x, y, dx, dy⟩ ⟨hdx, hdy, hx, hy, hnx, hny, hp⟩
    simp only at *
    have e1 : ∀ a : Int, x + dx + a + -a = x + dx := by intro a; omega
    have e2 : ∀ a : Int, y + dy + a + -a = y + dy := by intro a; omega
    simp only [stepW, backW, e1, e2, Prod.mk.injEq, true_and]
    constructor
    · split <;> simp
    · split <;> simp
  ne := by
    rintro ⟨x, y, dx, dy⟩ ⟨hdx, hdy, hx, hy, hnx, hny, hp⟩ e
    simp only [stepW, backW, Prod.mk.injEq, true_and] at *
    obtain ⟨e1, e2⟩ := e
    have hk := kindW_edge (W := W) (H := H) (br := br) (x := x + dx) (y := y + dy)
    unfold edgeW at hk
    split at e1
    · split at e2
      · rename_i q1 q2
        have : ¬ (x + dx = 0 ∨ x + dx = 2 * (W : Int) ∨ y + dy = 0 ∨ y + dy = 2 * (H : Int)) ∨ kindW W H br (x + dx) (y + dy) = 0 := by
          by_cases q : x + dx = 0 ∨ x + dx = 2 * (W : Int) ∨ y + dy = 0 ∨ y + dy = 2 * (H : Int)
          · exact .inr (hk q)
          · exact .inl q
        omega
      · omega
    · omega
  nr := by
    rintro ⟨x, y, dx, dy⟩ ⟨hdx, hdy, hx, hy, hnx, hny, hp⟩ e
    simp only [backW, Prod.mk.injEq] at *
    omega
  sg := by
    intro w v hw hv
    have cw := seg_cast hw
    have cv := seg_cast hv
    obtain ⟨⟨a, a'⟩, b, b'⟩ := seg_bd hw
    obtain ⟨⟨c, c'⟩, d, d'⟩ := seg_bd hv
    constructor
    · intro e
      rw [e, cv] at cw
      obtain ⟨e1, e2⟩ := pair_eq (H := 2 * (H : Int)) (by omega) ⟨d, by omega⟩ ⟨b, by omega⟩ cw
      obtain ⟨x, y, dx, dy⟩ := w
      obtain ⟨x', y', dx', dy'⟩ := v
      obtain ⟨hdx, hdy, hx, hy, hnx, hny, hp⟩ := hw
      obtain ⟨hdx', hdy', hx', hy', hnx', hny', hp'⟩ := hv
      simp only at *
      rw [minI_one hdx, minI_one hdx'] at e1
      rw [minI_one hdy, minI_one hdy'] at e2
      simp only [backW, Prod.mk.injEq]
      rcases hdx with rfl | rfl <;> rcases hdy with rfl | rfl <;> rcases hdx' with rfl | rfl <;> rcases hdy' with rfl | rfl <;> simp at e1 e2 ⊢ <;> omega
    · rintro (e | e)
      · rw [e]
      · have : (segW H w : Int) = segW H v := by
          rw [cw, cv, e]
          obtain ⟨x', y', dx', dy'⟩ := v
          simp only [backW]
          have q1 : ∀ p d : Int, minI (p + d) (p + d + -d) = minI p (p + d) := by
            intro p d; unfold minI
            rw [show p + d + -d = p by omega]
            split <;> split <;> omega
          rw [q1, q1]
        omega
  lt := fun w h => seg_lt h
/-- The walker along a segment, to the right. -/
def wkW (H : Nat) (k : Nat) : Wk := if (k / (2 * H) + k % (2 * H)) % 2 = 1 then ((k / (2 * H) : Nat), (k % (2 * H) : Nat), 1, 1) else ((k / (2 * H) : Nat), (k % (2 * H) : Nat) + 1, 1, -1)
theorem wkW_ok {W H k : Nat} (h1 : 1 ≤ H) (hk : k < 4 * W * H) : OkW W H (wkW H k) := by
  have a : k % (2 * H) < 2 * H := Nat.mod_lt _ (by omega)
  have b : k / (2 * H) < 2 * W := by
    rw [Nat.div_lt_iff_lt_mul (by omega)]
    have : 2 * W * (2 * H) = 4 * W * H := by
      rw [show 2 * W * (2 * H) = (2 * 2) * (W * H) by ac_rfl, show 4 * W * H = 4 * (W * H) by ac_rfl]
    omega
  unfold wkW
  generalize k / (2 * H) = q at *
  generalize k % (2 * H) = r at *
  split <;> constructor <;> simp only <;> first | omega | simp
theorem wkW_seg {W H k : Nat} (h1 : 1 ≤ H) (hk : k < 4 * W * H) : segW H (wkW H k) = k := by
  have hc := seg_cast (wkW_ok (W := W) h1 hk)
  have hd := Nat.div_add_mod k (2 * H)
  have hd' : ((2 * H * (k / (2 * H)) : Nat) : Int) = ((k / (2 * H) : Nat) : Int) * (2 * H) := by
    rw [Nat.mul_comm]; simp
  have : (segW H (wkW H k) : Int) = k := by
    rw [hc]
    unfold wkW minI
    split
    · simp only; rw [if_pos (by omega), if_pos (by omega)]; omega
    · simp only; rw [if_pos (by omega), if_neg (by omega)]; omega
  omega
noncomputable def curvesP (X : Pan) : List Int × Nat := curvesSt (stepW X.1.toNat X.2.1.toNat X.2.2) (segW X.2.1.toNat) (wkW X.2.1.toNat) (4 * X.1.toNat * X.2.1.toNat) (4 * X.1.toNat * X.2.1.toNat)
/-- The number of curves. -/
noncomputable def curveN (X : Pan) : Nat := (curvesP X).2
end Am
/-! AmY2 -/
set_option linter.unusedVariables false
set_option linter.unusedSimpArgs false
set_option maxHeartbeats 4000000
set_option maxRecDepth 4000
namespace Am
open Go

/-! ### names -/
def small (c : UInt8) : Bool := decide ((97 : Int) ≤ c.toNat) && decide ((c.toNat : Int) ≤ 122)
def nameC (c : UInt8) : Bool := small c || (isDig c || decide (c = 45))
def nameOk (s : List UInt8) : Bool := decide (1 ≤ s.length) && (decide (s.length ≤ 12) && (small (at8 s 0) && s.all nameC))

/-! ### the order of texts -/
theorem lexLt_trans : ∀ {a b c : List UInt8}, lexLt a b = true → lexLt b c = true → lexLt a c = true
  | [], b, [], h1, h2 => by cases b <;> simp [lexLt] at h2
  | [], b, c :: n, h1, h2 => by simp [lexLt]
  | a :: l, [], c, h1, h2 => by simp [lexLt] at h1
  | a :: l, b :: m, [], h1, h2 => by simp [lexLt] at h2
  | a :: l, b :: m, c :: n, h1, h2 => by
    simp only [lexLt, Bool.or_eq_true, Bool.and_eq_true, decide_eq_true_eq, beq_iff_eq] at h1 h2 ⊢
    rcases h1 with h1 | ⟨e1, h1⟩
    · rcases h2 with h2 | ⟨e2, h2⟩
      · exact .inl (UInt8.lt_trans h1 h2)
      · exact .inl (e2 ▸ h1)
    · subst e1
      rcases h2 with h2 | ⟨e2, h2⟩
      · exact .inl h2
      · exact .inr ⟨e2, lexLt_trans h1 h2⟩

/-! ### libraries -/
abbrev Lib := List Kpt
def kN (X : Lib) (i : Nat) : List UInt8 := (X.getD i ([], 0, 0, [])).1
def kP (X : Lib) (i : Nat) : Pan := (X.getD i ([], 0, 0, [])).2
theorem kN_of {X : Lib} {i : Nat} (h : i < X.length) : kN X i = X[i].1 := by simp [kN, h]
theorem kP_of {X : Lib} {i : Nat} (h : i < X.length) : kP X i = X[i].2 := by simp [kP, h]
/-- The index of a panel; the length if there is none. -/
def likeN (X : Lib) (p : Pan) : Nat := X.findIdx fun k => decide (k.2 = p)
def nameN (X : Lib) (s : List UInt8) : Nat := X.findIdx fun k => decide (k.1 = s)
/-- An index, or -1. -/
def ixI (k n : Nat) : Int := if k < n then k else -1
noncomputable def entOk (X : Lib) (i : Nat) : Bool := nameOk (kN X i) && (okP (kP X i) && ((decide (i = 0) || lexLt (kN X (i - 1)) (kN X i)) && (samP (canonP (kP X i)) (kP X i) && decide (likeN (X.take i) (kP X i) = i))))
noncomputable def allEnt (X : Lib) (k : Nat) : Bool := (List.range k).all (entOk X)
noncomputable def keptOk (X : Lib) : Bool := decide (X.length ≤ 40) && allEnt X X.length
structure EntOk (X : Lib) (i : Nat) : Prop where
  name : nameOk (kN X i) = true
  ok : OkP (kP X i)
  ord : i = 0 ∨ lexLt (kN X (i - 1)) (kN X i) = true
  canon : canonP (kP X i) = kP X i
  new : likeN (X.take i) (kP X i) = i
structure KeptOk (X : Lib) : Prop where
  len : X.length ≤ 40
  ent : ∀ i, i < X.length → EntOk X i
theorem KeptOk.name12 {X : Lib} (ok : KeptOk X) {i : Nat} (hi : i < X.length) : (kN X i).length ≤ 12 ∧ 1 ≤ (kN X i).length := by
  have := (ok.ent i hi).name
  simp only [nameOk, Bool.and_eq_true, decide_eq_true_eq] at this
  exact ⟨this.2.1, this.1⟩
end Am
/-! AmY3 -/
set_option linter.unusedVariables false
set_option linter.unusedSimpArgs false
set_option maxHeartbeats 4000000
set_option maxRecDepth 4000
namespace Am
open Go

end Am
/-! AmY4 -/
set_option linter.unusedVariables false
set_option linter.unusedSimpArgs false
set_option maxHeartbeats 4000000
set_option maxRecDepth 4000
namespace Am
open Go

end Am
/-! AmY9 -/
set_option linter.unusedVariables false
set_option linter.unusedSimpArgs false
set_option maxHeartbeats 4000000
set_option maxRecDepth 4000
namespace Am
open Go

end Am
/-! AmY10 -/
set_option linter.unusedVariables false
set_option linter.unusedSimpArgs false
set_option maxHeartbeats 4000000
set_option maxRecDepth 4000
namespace Am
open Go

/-- A library's entries are there. -/
def KAt (h : Heap) (b o z : Nat) (X : Lib) : Prop := (X.length ≤ maxLen ∧ (z = 4 ∨ b = 0)) ∧ ∀ i (hi : i < X.length), ∃ s, cellsAt h b (o + i * 4) 4 = some [S X[i].1, I X[i].2.1, I X[i].2.2.1, s] ∧ Vr h shInts s X[i].2.2.2 ∧ I64 X[i].2.1 ∧ I64 X[i].2.2.1 ∧ X[i].1.length ≤ 9223372036854775807
theorem KAt.grow {h h' : Heap} {b o z : Nat} {X : Lib} (x : KAt h b o z X) (g : Grows h h') : KAt h' b o z X :=
  ⟨x.1, fun i hi => by
    obtain ⟨s, c, r, w⟩ := x.2 i hi
    exact ⟨s, g.cellsAt c, r.grow g, w⟩⟩
theorem KAt.take {h : Heap} {b o z : Nat} {X : Lib} (x : KAt h b o z X) (i : Nat) : KAt h b o z (X.take i) :=
  ⟨⟨by rw [List.length_take]; have := x.1.1; omega, x.1.2⟩, fun j hj => by
    have hj' : j < X.length := by rw [List.length_take] at hj; omega
    obtain ⟨s, c, r, w⟩ := x.2 j hj'
    refine ⟨s, ?_, ?_, ?_⟩ <;> simp only [List.getElem_take] <;> assumption⟩
theorem KAt.cells {h : Heap} {b o z : Nat} {X : Lib} (x : KAt h b o z X) {i : Nat} (hi : i < X.length) : ∃ s, cellsAt h b (o + i * 4) 4 = some [S X[i].1, I X[i].2.1, I X[i].2.2.1, s] ∧ cell h b (o + i * 4) = some (S X[i].1) ∧ Vr h shPanel (.agg #[I X[i].2.1, I X[i].2.2.1, s]) X[i].2 ∧ PtP h (pt b (o + i * 4 + 1)) X[i].2 ∧ Vr h shInts s X[i].2.2.2 ∧ I64 X[i].2.1 ∧ I64 X[i].2.2.1 := by
  obtain ⟨s, c, r, w1, w2, w0⟩ := x.2 i hi
  have a1 := (cell_in (i := 0) c (by omega)).1
  have a2 := (cell_in (i := 1) c (by omega)).1
  have a3 := (cell_in (i := 2) c (by omega)).1
  have a4 := (cell_in (i := 3) c (by omega)).1
  refine ⟨s, c, by simpa using a1, Vr.of_panel w1 w2 r, ⟨b, o + i * 4 + 1, s, rfl, by simpa using a2, by simpa [Nat.add_assoc] using a3, by simpa [Nat.add_assoc] using a4, r, w1, w2⟩, r, w1, w2⟩
end Am
/-! AmY11 -/
set_option linter.unusedVariables false
set_option linter.unusedSimpArgs false
set_option maxHeartbeats 4000000
set_option maxRecDepth 4000
namespace Am
open Go

end Am
/-! AmY5 -/
set_option linter.unusedVariables false
set_option linter.unusedSimpArgs false
set_option maxHeartbeats 4000000
set_option maxRecDepth 4000
namespace Am
open Go

def pTxt (X : Pan) : List UInt8 := decS X.1 ++ ([120] ++ (decS X.2.1 ++ ([58] ++ X.2.2.map signB)))
def dgB (W : Int) : UInt8 := UInt8.ofNat (48 + W.toNat)
open Classical in
/-- The panel with a text; false if there is none. -/
noncomputable def readAns (s : List UInt8) : Pan × Bool := if e : ∃ X, OkP X ∧ pTxt X = s then (Classical.choose e, true) else ((0, 0, []), false)
/-! ### by places -/
def rpX (s : List UInt8) : Nat := (idx s 120 0).toNat
def rpC (s : List UInt8) : Nat := (idx s 58 0).toNat
def rpBad (s : List UInt8) : Prop := idx s 120 0 < 0 ∨ idx s 58 0 < idx s 120 0 ∨ (129 : Int) < s.length - idx s 58 0
def rpP (s : List UInt8) : Pan := ((rdDec (s.take (rpX s))).1, (rdDec ((s.take (rpC s)).drop (rpX s + 1))).1, (s.drop (rpC s + 1)).map kindB)
def rpOk (s : List UInt8) : Bool := (rdDec (s.take (rpX s))).2 && ((rdDec ((s.take (rpC s)).drop (rpX s + 1))).2 && (okP (rpP s) && decide (pTxt (rpP s) = s)))
/-! ### by parts -/
def nth (l : List (List UInt8)) (i : Nat) : List UInt8 := l.getD i []
def spW (s : List UInt8) : List (List UInt8) := splitS 58 s
def spV (s : List UInt8) : List (List UInt8) := splitS 120 (nth (spW s) 0)
def spP (s : List UInt8) : Pan := ((rdDec (nth (spV s) 0)).1, (rdDec (nth (spV s) 1)).1, (nth (spW s) 1).map kindB)
def spOk (s : List UInt8) : Bool := (rdDec (nth (spV s) 0)).2 && (rdDec (nth (spV s) 1)).2
end Am
/-! AmY6 -/
set_option linter.unusedVariables false
set_option linter.unusedSimpArgs false
set_option maxHeartbeats 4000000
set_option maxRecDepth 4000
namespace Am
open Go

def lineK (k : Kpt) : List UInt8 := k.1 ++ ([32] ++ (pTxt k.2 ++ [10]))
def kTxt (X : Lib) : List UInt8 := (X.map lineK).flatten
noncomputable def keptText (X : Lib) : List UInt8 := if keptOk X then kTxt X else []
theorem KeptOk.getOk {X : Lib} (ok : KeptOk X) {i : Nat} (hi : i < X.length) : OkP X[i].2 ∧ X[i].1.length ≤ 12 := by
  have h1 := (ok.ent i hi).ok
  have h2 := (ok.name12 hi).1
  rw [kP_of hi] at h1
  rw [kN_of hi] at h2
  exact ⟨h1, h2⟩
/-! ### packed -/
def packE (k : Kpt) : List UInt8 := byteI k.1.length :: (k.1 ++ packP k.2)
def packBodyK (X : Lib) : List UInt8 := (X.map packE).flatten
def packK (X : Lib) : List UInt8 := ended ([76, byteI X.length] ++ packBodyK X)
noncomputable def packAnsK (X : Lib) : List UInt8 × Int := if keptOk X then (packK X, 0) else ([], 1)

/-! ### found -/
def nameAt (X : Lib) (i : Nat) : List UInt8 := kN X i
noncomputable def nameOfAns (X : Lib) (p : Pan) : List UInt8 × Int := if keptOk X && okP p then (if likeN X (canonP p) < X.length then (kN X (likeN X (canonP p)), 0) else ([], 3)) else ([], 1)
noncomputable def namedAns (X : Lib) (s : List UInt8) : Pan × Int := if keptOk X then (if nameN X s < X.length then (kP X (nameN X s), 0) else ((0, 0, []), 3)) else ((0, 0, []), 1)
noncomputable def removeAns (X : Lib) (s : List UInt8) : Lib × Int := if keptOk X then (if nameN X s < X.length then (X.eraseIdx (nameN X s), 0) else ([], 3)) else ([], 1)
end Am
/-! AmY12 -/
set_option linter.unusedVariables false
set_option linter.unusedSimpArgs false
set_option maxHeartbeats 4000000
set_option maxRecDepth 4000
namespace Am
open Go

def pTxtK (X : Pan) (k : Nat) : List UInt8 := dgB X.1 :: 120 :: dgB X.2.1 :: 58 :: (X.2.2.take k).map signB
end Am
/-! AmY14 -/
set_option linter.unusedVariables false
set_option linter.unusedSimpArgs false
set_option maxHeartbeats 4000000
set_option maxRecDepth 4000
namespace Am
open Go

def keptIx (X : Lib) (s : List UInt8) (ok : Bool) : Int × Int := if ok then (if nameN X s < X.length then (nameN X s, 0) else (0, 3)) else (0, 1)
end Am
/-! AmY8 -/
set_option linter.unusedVariables false
set_option linter.unusedSimpArgs false
set_option maxHeartbeats 4000000
set_option maxRecDepth 4000
namespace Am
open Go

/-- In the order of the names. -/
def SortK (X : Lib) : Prop := X.Pairwise fun a b => lexLt a.1 b.1 = true
theorem KeptOk.lt {X : Lib} (ok : KeptOk X) : ∀ j i, i < j → j < X.length → lexLt (kN X i) (kN X j) = true := by
  intro j
  induction j with
  | zero => intro i h; omega
  | succ j ih =>
    intro i hi hj
    have h1 := ((ok.ent (j + 1) hj).ord).resolve_left (by omega)
    rw [Nat.add_sub_cancel] at h1
    by_cases e : i = j
    · subst e; exact h1
    · exact lexLt_trans (ih i (by omega) (by omega)) h1
structure IsPut (X : Lib) (s : List UInt8) (k : Nat) : Prop where
  le : k ≤ X.length
  lo : ∀ i (h : i < X.length), i < k → lexLt X[i].1 s = true
  hi : ∀ i (h : i < X.length), k ≤ i → lexLt s X[i].1 = true
def insK (k : Kpt) : Lib → Lib
  | [] => [k]
  | x :: X => if lexLt x.1 k.1 then x :: insK k X else k :: x :: X
theorem SortK.put {X : Lib} (h : SortK X) {s : List UInt8} (hn : ∀ y ∈ X, y.1 ≠ s) {k : Nat} (hk : k ≤ X.length) (lo : 0 < k → ∀ h : k - 1 < X.length, lexLt X[k - 1].1 s = true) (hi : ∀ h : k < X.length, lexLt s X[k].1 = true) : IsPut X s k := by
  unfold SortK at h
  rw [List.pairwise_iff_getElem] at h
  refine ⟨hk, fun i hl hik => ?_, fun i hl hik => ?_⟩
  · by_cases e : i = k - 1
    · subst e; exact lo (by omega) hl
    · exact lexLt_trans (h i (k - 1) hl (by omega) (by omega)) (lo (by omega) (by omega))
  · by_cases e : i = k
    · subst e; exact hi hl
    · exact lexLt_trans (hi (by omega)) (h k i (by omega) hl (by omega))

noncomputable def addAns (X : Lib) (s : List UInt8) (p : Pan) : Lib × Int :=
  if keptOk X && okP p then (if nameOk s then (if nameN X s < X.length ∨ likeN X (canonP p) < X.length then ([], 4) else if 40 ≤ X.length then ([], 5) else (insK (s, canonP p) X, 0)) else ([], 7)) else ([], 1)

/-! ### merged -/
def mrg (A : Lib) : Lib → Lib → Option Lib
  | out, [] => some out
  | out, b :: l => if ixI (nameN A b.1) A.length = ixI (likeN A b.2) A.length then (if nameN A b.1 < A.length then mrg A out l else mrg A (insK b out) l) else none
def mrgS : Lib → Lib → Option Lib
  | out, [] => some out
  | out, b :: l => if ixI (nameN out b.1) out.length = ixI (likeN out b.2) out.length then (if nameN out b.1 < out.length then mrgS out l else mrgS (insK b out) l) else none
def SameAt (X : Lib) (s : List UInt8) (p : Pan) : Prop := (∀ e ∈ X, e.1 ≠ s ∧ e.2 ≠ p) ∨ ∃ e ∈ X, e.1 = s ∧ e.2 = p
/-- Names are different, and so are panels. -/
structure Diff (X : Lib) : Prop where
  n : X.Pairwise fun a b => a.1 ≠ b.1
  p : X.Pairwise fun a b => a.2 ≠ b.2
noncomputable def mergeRes (o : Option Lib) : Lib × Int := match o with
  | none => ([], 4)
  | some x => if 40 < x.length then ([], 5) else (x, 0)
noncomputable def mergeAnsK (A B : Lib) : Lib × Int := if keptOk A && keptOk B then mergeRes (mrg A A B) else ([], 1)
noncomputable def withAns (X : Lib) (f : Pan → Int) (c : Int) : List (List UInt8) × Int := if keptOk X then ((X.filter fun k => decide (f k.2 = c)).map (·.1), 0) else ([], 1)
end Am
/-! AmY15 -/
set_option linter.unusedVariables false
set_option linter.unusedSimpArgs false
set_option maxHeartbeats 4000000
set_option maxRecDepth 4000
namespace Am
open Go

/-- An entry, the block of its breaks and what its slice says of the size. -/
abbrev Row := Kpt × Nat × Nat
def rbr (r : Row) : List Int := r.1.2.2.2
def rowS (r : Row) : Value := sl r.2.1 0 (rbr r).length r.2.2
def rowC (r : Row) : List Value := [S r.1.1, I r.1.2.1, I r.1.2.2.1, rowS r]
def rowB (r : Row) : List Nat := if rbr r = [] then [] else [r.2.1]
structure EntO (h : Heap) (r : Row) : Prop where
  z : r.2.2 = 1 ∨ r.2.1 = 0 ∧ rbr r = []
  m : (rbr r).length ≤ maxLen
  x : ∀ x ∈ rbr r, I64 x
  b : rbr r = [] ∨ h[r.2.1]? = some ⟨ints (rbr r), true⟩
  w : I64 r.1.2.1
  h : I64 r.1.2.2.1
  n : r.1.1.length ≤ maxLen
def rowsC (L : List Row) : List Value := (L.map rowC).flatten
theorem rowsC_len : ∀ L : List Row, (rowsC L).length = L.length * 4
  | [] => rfl
  | r :: L => by
    have := rowsC_len L
    simp only [rowsC, List.map_cons, List.flatten_cons, List.length_append, List.length_cons] at this ⊢
    rw [this]; simp [rowC]; omega
theorem rowsC_cons (r : Row) (b : List Row) : rowsC (r :: b) = rowC r ++ rowsC b := by simp [rowsC]
structure KO (h : Heap) (lo hi b z : Nat) (L : List Row) : Prop where
  z : z = 4 ∨ b = 0 ∧ L = []
  m : L.length ≤ maxLen
  el : ∀ r ∈ L, EntO h r
  blk : L = [] ∨ h[b]? = some ⟨rowsC L, true⟩ ∧ lo ≤ b ∧ b < hi
  nd : (L.map rowB).flatten.Nodup
  rg : ∀ r ∈ L, ∀ c ∈ rowB r, lo ≤ c ∧ c < hi
theorem EntO.ow {h : Heap} {r : Row} (e : EntO h r) : Ow h shKept (rowC r) r.1 (rowB r) := by
  refine ⟨[S r.1.1], [I r.1.2.1, I r.1.2.2.1, rowS r], [], rowB r, rfl, rfl, ⟨rfl, e.n, rfl⟩, [I r.1.2.1], [I r.1.2.2.1, rowS r], [], rowB r, rfl, rfl, ⟨rfl, wf_i64.2 e.w, rfl⟩, [I r.1.2.2.1], [rowS r], [], rowB r, rfl, rfl, ⟨rfl, wf_i64.2 e.h, rfl⟩, ?_⟩
  refine ⟨r.2.1, r.2.2, (rbr r).map fun x => [I x], (rbr r).map fun _ => [], rfl, e.z, e.m, all3_ints h _ e.x, ?_⟩
  by_cases h0 : rbr r = []
  · exact .inl ⟨h0, by simp [rowB, h0]⟩
  · exact .inr ⟨h0, by rw [rowB, if_neg h0, nils_flat], by rw [flat_ints]; exact e.b.resolve_left h0⟩
theorem EntO.of {h : Heap} {c : List Value} {k : Kpt} {s : List Nat} (o : Ow h shKept c k s) : ∃ b z, c = rowC (k, b, z) ∧ s = rowB (k, b, z) ∧ EntO h (k, b, z) := by
  obtain ⟨n, W, H, br⟩ := k
  obtain ⟨c1, c2, b1, b2, rfl, rfl, ⟨rfl, w0, rfl⟩, c3, c4, b3, b4, rfl, rfl, ⟨rfl, w1, rfl⟩, c5, c6, b5, b6, rfl, rfl, ⟨rfl, w2, rfl⟩, b, z, css, bss, rfl, hz, hm, h1, h2⟩ := o
  obtain ⟨e1, e2, e3⟩ := All3.ints h1
  refine ⟨b, z, rfl, ?_, hz, hm, e2, ?_, wf_i64.1 w1, wf_i64.1 w2, w0⟩
  · rcases h2 with ⟨q1, q2⟩ | ⟨q1, q2, q3⟩
    · have q1' : br = [] := q1
      subst q1'; simp [rowB, rbr, q2]
    · have q1' : ¬ br = [] := q1
      rw [e3] at q2
      simp [rowB, rbr, q1', q2]
  · rcases h2 with ⟨q1, q2⟩ | ⟨q1, q2, q3⟩
    · exact .inl q1
    · rw [e1] at q3; exact .inr q3
theorem rows_of {h : Heap} : ∀ {css : List (List Value)} {X : Lib} {bss : List (List Nat)}, All3 (fun c y s => Ow h shKept c y s) css X bss → ∃ L : List Row, X = L.map (·.1) ∧ css = L.map rowC ∧ bss = L.map rowB ∧ ∀ r ∈ L, EntO h r
  | [], [], [], _ => ⟨[], rfl, rfl, rfl, by simp⟩
  | c :: css, y :: x, s :: bss, r => by
    obtain ⟨b, z, e1, e2, e3⟩ := EntO.of r.1
    obtain ⟨L, f1, f2, f3, f4⟩ := rows_of r.2
    refine ⟨(y, b, z) :: L, by rw [f1]; rfl, by rw [e1, f2]; rfl, by rw [e2, f3]; rfl, fun q hq => ?_⟩
    rcases List.mem_cons.1 hq with e | e
    · rw [e]; exact e3
    · exact f4 q e
  | [], _ :: _, _, r => r.elim
  | [], [], _ :: _, r => r.elim
  | _ :: _, [], _, r => r.elim
  | _ :: _, _ :: _, [], r => r.elim
theorem rows_all {h : Heap} : ∀ {L : List Row}, (∀ r ∈ L, EntO h r) → All3 (fun c y s => Ow h shKept c y s) (L.map rowC) (L.map (·.1)) (L.map rowB)
  | [], _ => trivial
  | r :: L, f => ⟨(f r (by simp)).ow, rows_all fun q hq => f q (by simp [hq])⟩
/-- The list's own block is none of its entries' blocks. -/
theorem rows_nb {h : Heap} {b : Nat} {L : List Row} (el : ∀ r ∈ L, EntO h r) (hb : L = [] ∨ h[b]? = some ⟨rowsC L, true⟩) : ∀ r ∈ L, b ∉ rowB r := by
  intro r hr hm
  unfold rowB at hm
  split at hm
  · simp at hm
  · rename_i hne
    simp at hm
    have e1 := (el r hr).b.resolve_left hne
    rw [← hm] at e1
    cases L with
    | nil => simp at hr
    | cons q L =>
      have e2 := hb.resolve_left (by simp)
      rw [e1] at e2
      simp only [Option.some.injEq, Blk.mk.injEq, and_true] at e2
      rw [rowsC_cons] at e2
      cases hx : rbr r with
      | nil => exact hne hx
      | cons a l => rw [hx] at e2; simp [ints, rowC] at e2
theorem Vo.rows {h : Heap} {lo hi : Nat} {v : Value} {X : Lib} (x : Vo h lo hi shKepts v X) : ∃ b z L, v = sl b 0 X.length z ∧ X = L.map (·.1) ∧ KO h lo hi b z L := by
  obtain ⟨cs, bs, ⟨b, z, css, bss, rfl, hz, hm, h1, h2⟩, rfl, nd, hb⟩ := x
  obtain ⟨L, f1, f2, f3, f4⟩ := rows_of h1
  have hl : L = [] ↔ X = [] := by rw [f1]; simp
  refine ⟨b, z, L, rfl, f1, hz.imp id (fun q => ⟨q.1, hl.2 q.2⟩), by have := congrArg List.length f1; simp at this; rw [← this]; exact hm, f4, ?_, ?_, ?_⟩
  · rcases h2 with ⟨q, _⟩ | ⟨_, q2, q3⟩
    · exact .inl (hl.2 q)
    · exact .inr ⟨by rw [f2] at q3; exact q3, hb b (by rw [q2]; simp)⟩
  · rcases h2 with ⟨q, _⟩ | ⟨_, q2, q3⟩
    · have := hl.2 q
      subst this; simp
    · rw [q2] at nd
      rw [← f3]; exact (List.nodup_cons.1 nd).2
  · intro r hr c hc
    rcases h2 with ⟨q, _⟩ | ⟨_, q2, q3⟩
    · have := hl.2 q
      subst this; simp at hr
    · refine hb c ?_
      rw [q2, f3]
      exact List.mem_cons_of_mem _ (List.mem_flatten.2 ⟨_, List.mem_map.2 ⟨r, hr, rfl⟩, hc⟩)
theorem KO.vo {h : Heap} {lo hi b z : Nat} {L : List Row} (k : KO h lo hi b z L) : Vo h lo hi shKepts (sl b 0 L.length z) (L.map (·.1)) := by
  have nb := rows_nb (b := b) k.el (k.blk.imp id fun q => q.1)
  refine ⟨[sl b 0 L.length z], if L = [] then [] else b :: (L.map rowB).flatten, ⟨b, z, L.map rowC, L.map rowB, by simp, k.z.imp id fun q => ⟨q.1, by rw [q.2]; rfl⟩, by rw [List.length_map]; exact k.m, rows_all k.el, ?_⟩, rfl, ?_, ?_⟩
  · by_cases e : L = []
    · exact .inl ⟨by rw [e]; rfl, by rw [if_pos e]⟩
    · exact .inr ⟨by simpa using e, by rw [if_neg e], (k.blk.resolve_left e).1⟩
  · split
    · simp
    · refine List.nodup_cons.2 ⟨fun hm => ?_, k.nd⟩
      obtain ⟨s, hs, hb⟩ := List.mem_flatten.1 hm
      obtain ⟨r, hr, rfl⟩ := List.mem_map.1 hs
      exact nb r hr hb
  · intro c hc
    split at hc
    · simp at hc
    · rename_i e
      rcases List.mem_cons.1 hc with q | q
      · rw [q]; exact (k.blk.resolve_left e).2
      · obtain ⟨s, hs, hb⟩ := List.mem_flatten.1 q
        obtain ⟨r, hr, rfl⟩ := List.mem_map.1 hs
        exact k.rg r hr c hb
theorem EntO.frame {h h' : Heap} {r : Row} (e : EntO h r) (f : ∀ c ∈ rowB r, h'[c]? = h[c]?) : EntO h' r := by
  refine ⟨e.z, e.m, e.x, ?_, e.w, e.h, e.n⟩
  by_cases h0 : rbr r = []
  · exact .inl h0
  · exact .inr (by rw [f r.2.1 (by rw [rowB, if_neg h0]; simp)]; exact e.b.resolve_left h0)
theorem EntO.lt {h : Heap} {r : Row} (e : EntO h r) : ∀ c ∈ rowB r, c < h.length := by
  intro c hc
  unfold rowB at hc
  split at hc
  · simp at hc
  · rename_i h0
    simp at hc; rw [hc]; exact at_lt (e.b.resolve_left h0)
end Am

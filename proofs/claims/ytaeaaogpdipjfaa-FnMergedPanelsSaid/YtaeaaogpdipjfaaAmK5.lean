/- Contracts: AmD1, AmD2, AmD3, AmJ1, AmJ2, AmJ3, AmJ4, AmJ5, AmJ6, AmJ7, AmJ8, AmE1, AmW1, AmW2, AmW3, AmW4, AmW5, AmJ9, AmJ10, AmJ11, AmJ12, AmJ13, AmJ14, AmJ15, AmS1, AmS2. -/
import Derived.Test.YtaeaaogpdipjfaaAmK2
import Derived.Test.YtaeaaogpdipjfaaAmK1
import Derived.Test.YtaeaaogpdipjfaaAmK3
import Derived.Test.YtaeaaogpdipjfaaAmK4
/-! AmD1 -/
set_option linter.unusedVariables false
set_option linter.unusedSimpArgs false
set_option maxHeartbeats 4000000
set_option maxRecDepth 20000
namespace Am
open Go

/-- The digits of a number; none for 0. -/
def decN (n : Nat) : List UInt8 := if h : n = 0 then [] else decN (n / 10) ++ [UInt8.ofNat (48 + n % 10)]
termination_by n
decreasing_by omega
def decS (n : Int) : List UInt8 := if n = 0 then [48] else if n < 0 then 45 :: decN n.natAbs else decN n.natAbs
end Am
/-! AmD2 -/
set_option linter.unusedVariables false
set_option linter.unusedSimpArgs false
set_option maxHeartbeats 4000000
set_option maxRecDepth 4000
namespace Am
open Go

/-- Texts with a text between them. -/
def joinS (sep : List UInt8) : List (List UInt8) → List UInt8
  | [] => []
  | a :: r => a ++ r.flatMap fun x => sep ++ x
def okT (t : Trip) : Bool := inR t.1 0 111 && (okBr t.2.1 && okBr t.2.2)
def okD (X : List Trip) : Bool := X.all okT && decide (X.length ≤ 112)
def signB (b : Int) : UInt8 := if b = 1 then 124 else if b = 2 then 45 else 43
def wordT (t : Trip) : List UInt8 := decS t.1 ++ [signB t.2.1, signB t.2.2]
def diffT (X : List Trip) : List UInt8 := joinS [32] (X.map wordT)
def diffText (X : List Trip) : List UInt8 := if okD X then diffT X else []

end Am
/-! AmD3 -/
set_option linter.unusedVariables false
set_option linter.unusedSimpArgs false
set_option maxHeartbeats 4000000
set_option maxRecDepth 4000
namespace Am
open Go

end Am
/-! AmJ1 -/
set_option linter.unusedVariables false
set_option linter.unusedSimpArgs false
set_option maxHeartbeats 4000000
set_option maxRecDepth 4000
namespace Am
open Go

/-- A step fits a panel with n points. -/
def okStep (n : Nat) (s : Trip) : Bool := inR s.1 0 ((n : Int) - 1) && (okBr s.2.1 && (okBr s.2.2 && !decide (s.2.1 = s.2.2)))
theorem okStep_iff {n : Nat} {s : Trip} : okStep n s = true ↔ (0 ≤ s.1 ∧ s.1 < n) ∧ (0 ≤ s.2.1 ∧ s.2.1 ≤ 2) ∧ (0 ≤ s.2.2 ∧ s.2.2 ≤ 2) ∧ s.2.1 ≠ s.2.2 := by
  simp only [okStep, okBr, Bool.and_eq_true, inR_iff, Bool.not_eq_true', decide_eq_false_iff_not]
  omega
/-- Steps undone, the last one first: none if one does not fit. -/
def runB : List Trip → List Int → Option (List Int)
  | [], br => some br
  | s :: l, br => if okStep br.length s && decide (at0 br s.1.toNat = s.2.2) then runB l (br.set s.1.toNat s.2.1) else none
/-- Steps made. -/
def runF : List Trip → List Int → Option (List Int)
  | [], br => some br
  | s :: l, br => if okStep br.length s && decide (at0 br s.1.toNat = s.2.1) then runF l (br.set s.1.toNat s.2.2) else none
def okJ (X : Jrn) : Bool := okP X.1 && (decide (X.2.1.length + X.2.2.length ≤ 50) && ((runB X.2.1.reverse X.1.2.2).isSome && (runF X.2.2 X.1.2.2).isSome))

/-- A number written in a block of numbers. -/
theorem ints_set (l : List Int) (k : Nat) (v : Int) : (ints l).set k (I v) = ints (l.set k v) := by simp [ints, List.map_set]
theorem store_int {h : Heap} {b k : Nat} {l : List Int} {v : Int} (hb : h[b]? = some ⟨ints l, true⟩) (hk : k < l.length) : storeAt h b k [I v] = some (h.set b ⟨ints (l.set k v), true⟩) := by
  rw [store_one hb (by simp [ints]; exact hk), ints_set]
theorem cell_int {h : Heap} {b k : Nat} {l : List Int} {r : Bool} (hb : h[b]? = some ⟨ints l, r⟩) (hk : k < l.length) : cell h b k = some (I (at0 l k)) := by
  rw [at0_of hk]
  exact cell_of hb (by simp [ints, hk])
theorem ok_len {W H : Int} {br : List Int} (ok : OkP (W, H, br)) : br.length ≤ 112 := by
  have := inner_bd (a := W) (b := H) ok.w ok.h
  have := ok.n
  simp only at this
  omega
/-- A pointer to a journal. -/
def PtJ (h : Heap) (v : Value) (X : Jrn) : Prop := ∃ b o s sp sf, v = pt b o ∧ cellsAt h b o 5 = some [I X.1.1, I X.1.2.1, s, sp, sf] ∧ Vr h shInts s X.1.2.2 ∧ Vr h shTrips sp X.2.1 ∧ Vr h shTrips sf X.2.2 ∧ I64 X.1.1 ∧ I64 X.1.2.1
theorem PtJ.grow {h h' : Heap} {v : Value} {X : Jrn} (x : PtJ h v X) (g : Grows h h') : PtJ h' v X := by
  obtain ⟨b, o, s, sp, sf, e, h1, h2, h3, h4, h5⟩ := x
  exact ⟨b, o, s, sp, sf, e, g.cellsAt h1, h2.grow g, h3.grow g, h4.grow g, h5⟩
theorem PtJ.of {h : Heap} {b : Nat} {W H : Int} {s sp sf : Value} {br : List Int} {p f : List Trip} {r : Bool} (hb : h[b]? = some ⟨[I W, I H, s, sp, sf], r⟩) (h1 : Vr h shInts s br) (h2 : Vr h shTrips sp p) (h3 : Vr h shTrips sf f) (w1 : I64 W) (w2 : I64 H) : PtJ h (pt b 0) ((W, H, br), p, f) :=
  ⟨b, 0, s, sp, sf, rfl, cellsAt_all hb rfl, h1, h2, h3, w1, w2⟩
theorem PtJ.panel {h : Heap} {b o : Nat} {X : Jrn} (x : PtJ h (pt b o) X) : PtP h (pt b o) X.1 := by
  obtain ⟨b, o, s, sp, sf, e, h1, h2, h3, h4, w1, w2⟩ := x
  injection e with e; injection e with e; injection e with e1 e2; subst e1; subst e2
  have k0 := (cell_in (i := 0) h1 (by omega)).1
  have k1 := (cell_in (i := 1) h1 (by omega)).1
  have k2 := (cell_in (i := 2) h1 (by omega)).1
  exact ⟨_, _, s, rfl, by simpa using k0, by simpa using k1, by simpa using k2, h2, w1, w2⟩

end Am
/-! AmJ2 -/
set_option linter.unusedVariables false
set_option linter.unusedSimpArgs false
set_option maxHeartbeats 4000000
set_option maxRecDepth 4000
namespace Am
open Go

end Am
/-! AmJ3 -/
set_option linter.unusedVariables false
set_option linter.unusedSimpArgs false
set_option maxHeartbeats 4000000
set_option maxRecDepth 4000
namespace Am
open Go

def noJ : Jrn := ((0, 0, []), [], [])
/-! ### a journal without steps -/
def njAns (X : Pan) : Jrn × Int := if okP X then ((X, [], []), 0) else (noJ, 1)
/-! ### the panel before all steps -/
def startB (X : Jrn) : List Int := (runB X.2.1.reverse X.1.2.2).getD []
end Am
/-! AmJ4 -/
set_option linter.unusedVariables false
set_option linter.unusedSimpArgs false
set_option maxHeartbeats 4000000
set_option maxRecDepth 4000
namespace Am
open Go

def stAns (X : Jrn) : Pan × Int := if okJ X then ((X.1.1, X.1.2.1, startB X), 0) else ((0, 0, []), 1)
/-! ### slices that grow, empty ones of whatever kind -/
/-- A slice whose cells are these, in memory of our own; more cells may lie behind. -/
def Bf (h : Heap) (lo hi : Nat) (v : Value) (z : Nat) (cs : List Value) : Prop := (cs = [] ∧ ∃ y, v = sl 0 0 0 y) ∨ ∃ b n, v = sl b 0 n z ∧ n * z = cs.length ∧ lo ≤ b ∧ b < hi ∧ h[b]? = some ⟨cs, true⟩
theorem Bf.nil {h : Heap} {lo hi y z : Nat} : Bf h lo hi (sl 0 0 0 y) z [] := .inl ⟨rfl, y, rfl⟩
theorem Bf.sl {h : Heap} {lo hi : Nat} {v : Value} {z : Nat} {cs : List Value} (x : Bf h lo hi v z cs) : ∃ b n y, v = Am.sl b 0 n y := by
  rcases x with ⟨_, y, e⟩ | ⟨b, n, e, _⟩
  · exact ⟨0, 0, y, e⟩
  · exact ⟨b, n, z, e⟩
theorem Bf.wide {h : Heap} {lo hi lo' hi' : Nat} {v : Value} {z : Nat} {cs : List Value} (x : Bf h lo hi v z cs) (h1 : lo' ≤ lo) (h2 : hi ≤ hi') : Bf h lo' hi' v z cs := by
  rcases x with x | ⟨b, n, e, e2, e3, e4, e5⟩
  · exact .inl x
  · exact .inr ⟨b, n, e, e2, by omega, by omega, e5⟩
theorem Bf.mod {h h' : Heap} {lo hi lo' hi' : Nat} {v : Value} {z : Nat} {cs : List Value} (x : Bf h lo hi v z cs) (m : Mod lo' hi' h h') (hd : hi ≤ lo' ∨ hi' ≤ lo) : Bf h' lo hi v z cs := by
  rcases x with x | ⟨b, n, e, e2, e3, e4, e5⟩
  · exact .inl x
  · exact .inr ⟨b, n, e, e2, e3, e4, by rw [m.2 b (at_lt e5) (by omega)]; exact e5⟩
theorem Bf.grow {h h' : Heap} {lo hi : Nat} {v : Value} {z : Nat} {cs : List Value} (x : Bf h lo hi v z cs) (g : Grows h h') : Bf h' lo hi v z cs := by
  rcases x with x | ⟨b, n, e, e2, e3, e4, e5⟩
  · exact .inl x
  · exact .inr ⟨b, n, e, e2, e3, e4, g.at e5⟩
theorem Bf.trips {h : Heap} {lo hi : Nat} {v : Value} {X : List Trip} (x : Bf h lo hi v 3 (Am.trips X)) (hm : X.length ≤ maxLen) (hx : ∀ x ∈ X, T64 x) : Vo h lo hi shTrips v X := by
  rcases x with ⟨h1, y, rfl⟩ | ⟨b, n, rfl, h2, h3, h4, h5⟩
  · have := trips_inj_nil h1
    subst this
    exact Vo.of_trips (X := []) (.inr ⟨rfl, rfl⟩) (by simp) (by simp) (.inl rfl)
  · rw [trips_len] at h2
    have : n = X.length := by omega
    subst this
    exact Vo.of_trips (.inl rfl) hm hx (.inr ⟨h5, h3, h4⟩)
theorem Bf.ints {h : Heap} {lo hi : Nat} {v : Value} {X : List Int} (x : Bf h lo hi v 1 (Am.ints X)) (hm : X.length ≤ maxLen) (hx : ∀ x ∈ X, I64 x) : Vo h lo hi shInts v X := by
  rcases x with ⟨h1, y, rfl⟩ | ⟨b, n, rfl, h2, h3, h4, h5⟩
  · have := ints_inj_nil h1
    subst this
    exact Vo.of_ints (X := []) (.inr ⟨rfl, rfl⟩) (by simp) (by simp) (.inl rfl)
  · have : n = X.length := by simpa [Am.ints] using h2
    subst this
    exact Vo.of_ints (.inl rfl) hm hx (.inr ⟨h5, h3, h4⟩)
theorem Mod.push {lo hi : Nat} {h : Heap} (k : Blk) : Mod lo hi h (h ++ [k]) := Grows.mod ⟨_, rfl⟩
/-! ### squashed -/
def sqAns (X : Jrn) : Jrn × Int := if okJ X then ((X.1, dpre (startB X) X.1.2.2 X.1.2.2.length, []), 0) else (noJ, 1)
end Am
/-! AmJ5 -/
set_option linter.unusedVariables false
set_option linter.unusedSimpArgs false
set_option maxHeartbeats 4000000
set_option maxRecDepth 4000
namespace Am
open Go

/-- A journal in new memory. -/
def Own5 (h h' : Heap) (r : Value) (X : Jrn) : Prop := Grows h h' ∧ ∃ s sp sf m1 m2, r = .agg #[I X.1.1, I X.1.2.1, s, sp, sf] ∧ h.length ≤ m1 ∧ m1 ≤ m2 ∧ m2 ≤ h'.length ∧ Vo h' h.length m1 shInts s X.1.2.2 ∧ Bf h' m1 m2 sp 3 (trips X.2.1) ∧ Bf h' m2 h'.length sf 3 (trips X.2.2)

end Am
/-! AmJ6 -/
set_option linter.unusedVariables false
set_option linter.unusedSimpArgs false
set_option maxHeartbeats 4000000
set_option maxRecDepth 4000
namespace Am
open Go

def doCode (X : Jrn) (k kind : Int) : Int := if inR k 0 ((X.1.2.2.length : Int) - 1) && okBr kind then (if at0 X.1.2.2 k.toNat = kind then 6 else if 50 ≤ X.2.1.length then 5 else 0) else 2
def doJ (X : Jrn) (k kind : Int) : Jrn := ((X.1.1, X.1.2.1, X.1.2.2.set k.toNat kind), X.2.1 ++ [(k, at0 X.1.2.2 k.toNat, kind)], [])
def doAns (X : Jrn) (k kind : Int) : Jrn × Int := if okJ X then (if doCode X k kind = 0 then (doJ X k kind, 0) else (noJ, doCode X k kind)) else (noJ, 1)
/-- Numbers of a journal are numbers of the machine. -/
structure Jwf (X : Jrn) : Prop where
  w : I64 X.1.1
  h : I64 X.1.2.1
  b : ∀ x ∈ X.1.2.2, I64 x
  p : ∀ x ∈ X.2.1, T64 x
  f : ∀ x ∈ X.2.2, T64 x
  lb : X.1.2.2.length ≤ 1048576
  lp : X.2.1.length ≤ 1048576
  lf : X.2.2.length ≤ 1048576

end Am
/-! AmJ7 -/
set_option linter.unusedVariables false
set_option linter.unusedSimpArgs false
set_option maxHeartbeats 4000000
set_option maxRecDepth 4000
namespace Am
open Go

/-- A journal in a box of our own, its memory our own, apart. Behind its steps more cells may lie. -/
def JM (h : Heap) (lo jb : Nat) (X : Jrn) (rest : List Value) : Prop := ∃ b1 z1 b2 z2 b3 z3,
  h[jb]? = some ⟨[I X.1.1, I X.1.2.1, sl b1 0 X.1.2.2.length z1, sl b2 0 X.2.1.length z2, sl b3 0 X.2.2.length z3], true⟩ ∧ lo ≤ jb ∧ 0 < lo ∧ (z1 = 1 ∨ b1 = 0 ∧ X.1.2.2 = []) ∧
  (X.1.2.2 = [] ∨ h[b1]? = some ⟨ints X.1.2.2, true⟩ ∧ lo ≤ b1 ∧ b1 ≠ jb ∧ b1 ≠ b2 ∧ b1 ≠ b3) ∧
  (X.2.1 = [] ∧ b2 = 0 ∨ z2 = 3 ∧ h[b2]? = some ⟨trips X.2.1 ++ rest, true⟩ ∧ lo ≤ b2 ∧ b2 ≠ jb ∧ b2 ≠ b3) ∧
  (X.2.2 = [] ∧ b3 = 0 ∨ z3 = 3 ∧ h[b3]? = some ⟨trips X.2.2, true⟩ ∧ lo ≤ b3 ∧ b3 ≠ jb) ∧ Jwf X
theorem set_other {h : Heap} {b c : Nat} {k : Blk} (hne : c ≠ b) : (h.set b k)[c]? = h[c]? := List.getElem?_set_ne fun e => hne e.symm
/-- The box holds the clone. -/
theorem JM.own {h h1 : Heap} {r : Value} {X : Jrn} (hp : 0 < h.length) (x : Own5 h h1 r X) (wf : Jwf X) : ∃ b1 z1 b2 z2 b3 z3, r = .agg #[I X.1.1, I X.1.2.1, sl b1 0 X.1.2.2.length z1, sl b2 0 X.2.1.length z2, sl b3 0 X.2.2.length z3] ∧
    JM (h1 ++ [⟨[I X.1.1, I X.1.2.1, sl b1 0 X.1.2.2.length z1, sl b2 0 X.2.1.length z2, sl b3 0 X.2.2.length z3], true⟩]) h.length h1.length X [] := by
  obtain ⟨⟨W, H, br⟩, p, f⟩ := X
  obtain ⟨g, s, sp, sf, m1, m2, rfl, l1, l2, l3, o1, o2, o3⟩ := x
  obtain ⟨b1, z1, rfl, hz, hm, hx, hc⟩ := o1.ints
  have e2 : ∃ b2 z2, sp = sl b2 0 p.length z2 ∧ (p = [] ∧ b2 = 0 ∨ z2 = 3 ∧ h1[b2]? = some ⟨trips p, true⟩ ∧ m1 ≤ b2 ∧ b2 < m2) := by
    rcases o2 with ⟨e, y, e'⟩ | ⟨b, n, e, e', e3, e4, e5⟩
    · have := trips_inj_nil e
      simp only at this; subst this
      exact ⟨0, y, e', .inl ⟨rfl, rfl⟩⟩
    · rw [trips_len] at e'
      have : n = p.length := by simp only at e'; omega
      subst this
      exact ⟨b, 3, e, .inr ⟨rfl, e5, e3, e4⟩⟩
  have e3 : ∃ b2 z2, sf = sl b2 0 f.length z2 ∧ (f = [] ∧ b2 = 0 ∨ z2 = 3 ∧ h1[b2]? = some ⟨trips f, true⟩ ∧ m2 ≤ b2 ∧ b2 < h1.length) := by
    rcases o3 with ⟨e, y, e'⟩ | ⟨b, n, e, e', e3, e4, e5⟩
    · have := trips_inj_nil e
      simp only at this; subst this
      exact ⟨0, y, e', .inl ⟨rfl, rfl⟩⟩
    · rw [trips_len] at e'
      have : n = f.length := by simp only at e'; omega
      subst this
      exact ⟨b, 3, e, .inr ⟨rfl, e5, e3, e4⟩⟩
  obtain ⟨b2, z2, rfl, i2⟩ := e2
  obtain ⟨b3, z3, rfl, i3⟩ := e3
  simp only at hc hz
  refine ⟨b1, z1, b2, z2, b3, z3, rfl, b1, z1, b2, z2, b3, z3, by simp, by omega, hp, hz, ?_, ?_, ?_, wf⟩
  · refine hc.imp id fun e => ⟨push_at e.1, by omega, by omega, ?_, ?_⟩
    · rcases i2 with i2 | i2 <;> omega
    · rcases i3 with i3 | i3 <;> omega
  · refine i2.imp id fun e => ⟨e.1, by simpa using push_at e.2.1, by omega, by omega, ?_⟩
    rcases i3 with i3 | i3 <;> omega
  · exact i3.imp id fun e => ⟨e.1, push_at e.2.1, by omega, by omega⟩

/-- The journal's value, with memory of its own. -/
theorem JM.vo {h : Heap} {lo jb : Nat} {X : Jrn} (x : JM h lo jb X []) : ∃ cs, h[jb]? = some ⟨cs, true⟩ ∧ cs.length = 5 ∧ Vo h lo h.length shJournal (.agg cs.toArray) X := by
  obtain ⟨⟨W, H, br⟩, p, f⟩ := X
  obtain ⟨b1, z1, b2, z2, b3, z3, hjb, hlo, hpos, hz1, i1, i2, i3, wf⟩ := x
  obtain ⟨w1, w2, x1, x2, x3, y1, y2, y3⟩ := wf
  simp only at hjb hz1 i1 i2 i3 w1 w2 x1 x2 x3 y1 y2 y3
  refine ⟨_, hjb, rfl, ?_⟩
  have v1 : Vo h (if br = [] then 0 else b1) (if br = [] then 0 else b1 + 1) shInts (sl b1 0 br.length z1) br := Vo.of_ints hz1 (by rw [maxLen_eq]; omega) x1 (by
    rcases i1 with e | e
    · exact .inl e
    · by_cases e' : br = []
      · exact .inl e'
      · exact .inr ⟨e.1, by simp [e']⟩)
  have v2 : Vo h (if p = [] then 0 else b2) (if p = [] then 0 else b2 + 1) shTrips (sl b2 0 p.length z2) p := Vo.of_trips (i2.elim (fun e => .inr ⟨e.2, e.1⟩) fun e => .inl e.1) (by rw [maxLen_eq]; omega) x2 (by
    by_cases e' : p = []
    · exact .inl e'
    · rcases i2 with e | e
      · exact absurd e.1 e'
      · exact .inr ⟨by simpa using e.2.1, by simp [e']⟩)
  have v3 : Vo h (if f = [] then 0 else b3) (if f = [] then 0 else b3 + 1) shTrips (sl b3 0 f.length z3) f := Vo.of_trips (i3.elim (fun e => .inr ⟨e.2, e.1⟩) fun e => .inl e.1) (by rw [maxLen_eq]; omega) x3 (by
    by_cases e' : f = []
    · exact .inl e'
    · rcases i3 with e | e
      · exact absurd e.1 e'
      · exact .inr ⟨e.2.1, by simp [e']⟩)
  refine Vo.of_journal w1 w2 v1 v2 v3 ?_ ?_ ?_ ?_ ?_ ?_
  · unfold Sub2; split
    · exact .inl rfl
    · rename_i hn; have := i1.resolve_left hn; have := at_lt this.1; omega
  · unfold Sub2; split
    · exact .inl rfl
    · rename_i hn; have := i2.resolve_left (fun e => hn e.1); have := at_lt this.2.1; omega
  · unfold Sub2; split
    · exact .inl rfl
    · rename_i hn; have := i3.resolve_left (fun e => hn e.1); have := at_lt this.2.1; omega
  · unfold Dis
    by_cases h1 : br = [] <;> by_cases h2 : p = [] <;> simp only [h1, h2, if_true, if_false] <;> try omega
    have := i1.resolve_left h1; omega
  · unfold Dis
    by_cases h1 : br = [] <;> by_cases h2 : f = [] <;> simp only [h1, h2, if_true, if_false] <;> try omega
    have := i1.resolve_left h1; omega
  · unfold Dis
    by_cases h1 : p = [] <;> by_cases h2 : f = [] <;> simp only [h1, h2, if_true, if_false] <;> try omega
    have := i2.resolve_left (fun e => h1 e.1); omega
end Am
/-! AmJ8 -/
set_option linter.unusedVariables false
set_option linter.unusedSimpArgs false
set_option maxHeartbeats 4000000
set_option maxRecDepth 4000
namespace Am
open Go

end Am
/-! AmE1 -/
set_option linter.unusedVariables false
set_option linter.unusedSimpArgs false
set_option maxHeartbeats 4000000
set_option maxRecDepth 4000
namespace Am
open Go

/-- Changes made one after the other: the numbers, and a code. -/
def runD : List Trip → List Int → List Int × Int
  | [], br => (br, 0)
  | s :: l, br => if inR s.1 0 ((br.length : Int) - 1) && okBr s.2.2 then (if at0 br s.1.toNat = s.2.1 then runD l (br.set s.1.toNat s.2.2) else ([], 9)) else ([], 2)
def appAns (X : Pan) (l : List Trip) : Pan × Int := if okP X then (if (runD l X.2.2).2 = 0 then ((X.1, X.2.1, (runD l X.2.2).1), 0) else ((0, 0, []), (runD l X.2.2).2)) else ((0, 0, []), 1)
end Am
/-! AmW1 -/
set_option linter.unusedVariables false
set_option linter.unusedSimpArgs false
set_option maxHeartbeats 4000000
set_option maxRecDepth 4000
namespace Am
open Go

/-! ### splitting -/
def splitG (b : UInt8) (cur : List UInt8) : List UInt8 → List (List UInt8)
  | [] => [cur]
  | c :: r => if c = b then cur :: splitG b [] r else splitG b (cur ++ [c]) r
def splitS (b : UInt8) (s : List UInt8) : List (List UInt8) := splitG b [] s
/-! ### the sign of a break, read -/
def kindB (c : UInt8) : Int := if c = 43 then 0 else if c = 124 then 1 else if c = 45 then 2 else -1
end Am
/-! AmW2 -/
set_option linter.unusedVariables false
set_option linter.unusedSimpArgs false
set_option maxHeartbeats 4000000
set_option maxRecDepth 4000
namespace Am
open Go

def dgs (s : List UInt8) : List UInt8 := if s.head? = some 45 then s.drop 1 else s
def isDig (c : UInt8) : Bool := decide ((48 : Int) ≤ c.toNat) && decide ((c.toNat : Int) ≤ 57)
def valN (l : List UInt8) : Nat := l.foldl (fun n c => 10 * n + (c.toNat - 48)) 0
def rdV (s : List UInt8) : Int := if (dgs s).length < s.length then -(valN (dgs s) : Int) else valN (dgs s)
def rdOk (s : List UInt8) : Bool := decide (1 ≤ (dgs s).length) && (decide ((dgs s).length ≤ 18) && ((dgs s).all isDig && decide (decS (rdV s) = s)))
def rdDec (s : List UInt8) : Int × Bool := if rdOk s then (rdV s, true) else (0, false)
end Am
/-! AmW3 -/
set_option linter.unusedVariables false
set_option linter.unusedSimpArgs false
set_option maxHeartbeats 4000000
set_option maxRecDepth 4000
namespace Am
open Go

def at8 (s : List UInt8) (i : Nat) : UInt8 := s.getD i 0
def parseW (w : List UInt8) : Option Trip := if w.length < 3 then none else if (rdDec (w.take (w.length - 2))).2 then some ((rdDec (w.take (w.length - 2))).1, kindB (at8 w (w.length - 2)), kindB (at8 w (w.length - 1))) else none
def parseL : List (List UInt8) → List Trip → Option (List Trip)
  | [], acc => some acc
  | w :: r, acc => match parseW w with
    | none => none
    | some t => parseL r (acc ++ [t])
def AllT (l : List Trip) : Prop := ∀ x ∈ l, T64 x
def rdRes (o : Option (List Trip)) : List Trip × Bool := match o with
  | none => ([], false)
  | some l => if okD l then (l, true) else ([], false)
def rdAns (s : List UInt8) : List Trip × Bool := if s = [] then ([], true) else rdRes (parseL (splitS 32 s) [])
end Am
/-! AmW4 -/
set_option linter.unusedVariables false
set_option linter.unusedSimpArgs false
set_option maxHeartbeats 4000000
set_option maxRecDepth 4000
namespace Am
open Go

end Am
/-! AmW5 -/
set_option linter.unusedVariables false
set_option linter.unusedSimpArgs false
set_option maxHeartbeats 4000000
set_option maxRecDepth 4000
namespace Am
open Go

@[simp high] theorem add_str {n : Nat} {a b : List UInt8} (h : a.length + b.length ≤ 4611686018427387904) : aBin .add n (S a) (S b) = some (S (a ++ b)) := by
  simp [h]
def panH (W H : Int) : List UInt8 := decS W ++ [120] ++ decS H ++ [58]
def panT (X : Pan) : List UInt8 := panH X.1 X.2.1 ++ X.2.2.map signB
def sgT (br : List Int) (k : Nat) : List UInt8 := (br.take k).map signB
def panText (X : Pan) : List UInt8 := if okP X then panT X else []
/-! ### journals -/
def deskT (X : Jrn) : List UInt8 := panT X.1 ++ [32] ++ decS X.2.1.length ++ [32] ++ decS X.2.2.length
def deskAns (X : Jrn) : List UInt8 := if okJ X then deskT X else []
end Am
/-! AmJ9 -/
set_option linter.unusedVariables false
set_option linter.unusedSimpArgs false
set_option maxHeartbeats 4000000
set_option maxRecDepth 4000
namespace Am
open Go

/-- JM with its parts named. -/
def JMx (h : Heap) (lo jb : Nat) (X : Jrn) (rest : List Value) (b1 z1 b2 z2 b3 z3 : Nat) : Prop :=
  h[jb]? = some ⟨[I X.1.1, I X.1.2.1, sl b1 0 X.1.2.2.length z1, sl b2 0 X.2.1.length z2, sl b3 0 X.2.2.length z3], true⟩ ∧ lo ≤ jb ∧ 0 < lo ∧ (z1 = 1 ∨ b1 = 0 ∧ X.1.2.2 = []) ∧
  (X.1.2.2 = [] ∨ h[b1]? = some ⟨ints X.1.2.2, true⟩ ∧ lo ≤ b1 ∧ b1 ≠ jb ∧ b1 ≠ b2 ∧ b1 ≠ b3) ∧
  (X.2.1 = [] ∧ b2 = 0 ∨ z2 = 3 ∧ h[b2]? = some ⟨trips X.2.1 ++ rest, true⟩ ∧ lo ≤ b2 ∧ b2 ≠ jb ∧ b2 ≠ b3) ∧
  (X.2.2 = [] ∧ b3 = 0 ∨ z3 = 3 ∧ h[b3]? = some ⟨trips X.2.2, true⟩ ∧ lo ≤ b3 ∧ b3 ≠ jb) ∧ Jwf X
theorem JMx.cells {h : Heap} {lo jb : Nat} {X : Jrn} {rest : List Value} {b1 z1 b2 z2 b3 z3 : Nat} (x : JMx h lo jb X rest b1 z1 b2 z2 b3 z3) :
    cell h jb 2 = some (sl b1 0 X.1.2.2.length z1) ∧ cell h jb 3 = some (sl b2 0 X.2.1.length z2) ∧ cell h jb 4 = some (sl b3 0 X.2.2.length z3) := by
  have := x.1
  simp [cell, this]
theorem Mod.tr {lo : Nat} {a b c : Heap} (x : Mod lo a.length a b) (y : Mod lo b.length b c) : Mod lo a.length a c :=
  ⟨Nat.le_trans x.1 y.1, fun k hk hn => by rw [y.2 k (Nat.lt_of_lt_of_le hk x.1) (by omega), x.2 k hk hn]⟩
end Am
/-! AmJ10 -/
set_option linter.unusedVariables false
set_option linter.unusedSimpArgs false
set_option maxHeartbeats 4000000
set_option maxRecDepth 4000
namespace Am
open Go

/-- All steps fit the branches; there are not many. -/
structure JK (X : Jrn) : Prop where
  p : ∀ t ∈ X.2.1, 0 ≤ t.1 ∧ t.1 < X.1.2.2.length
  f : ∀ t ∈ X.2.2, 0 ≤ t.1 ∧ t.1 < X.1.2.2.length
  n : X.2.1.length + X.2.2.length ≤ 50
theorem runB_keys : ∀ (l : List Trip) (br : List Int), (runB l br).isSome = true → ∀ t ∈ l, 0 ≤ t.1 ∧ t.1 < br.length
  | [], _, _ => by simp
  | s :: l, br, h => by
    unfold runB at h
    by_cases hc : (okStep br.length s && decide (at0 br s.1.toNat = s.2.2)) = true
    · rw [if_pos hc] at h
      have := runB_keys l _ h
      rw [List.length_set] at this
      intro t ht
      rcases List.mem_cons.1 ht with rfl | ht
      · exact (okStep_iff.1 (by simp at hc; exact hc.1)).1
      · exact this t ht
    · rw [if_neg hc] at h; simp at h
theorem runF_keys : ∀ (l : List Trip) (br : List Int), (runF l br).isSome = true → ∀ t ∈ l, 0 ≤ t.1 ∧ t.1 < br.length
  | [], _, _ => by simp
  | s :: l, br, h => by
    unfold runF at h
    by_cases hc : (okStep br.length s && decide (at0 br s.1.toNat = s.2.1)) = true
    · rw [if_pos hc] at h
      have := runF_keys l _ h
      rw [List.length_set] at this
      intro t ht
      rcases List.mem_cons.1 ht with rfl | ht
      · exact (okStep_iff.1 (by simp at hc; exact hc.1)).1
      · exact this t ht
    · rw [if_neg hc] at h; simp at h
theorem JK.of {X : Jrn} (h : okJ X = true) : JK X := by
  unfold okJ at h
  simp only [Bool.and_eq_true, decide_eq_true_eq] at h
  exact ⟨fun t ht => runB_keys _ _ h.2.2.1 t (by simpa using ht), runF_keys _ _ h.2.2.2, h.2.1⟩

def redoJ (X : Jrn) : Jrn := match X.2.2 with
  | [] => X
  | s :: f => ((X.1.1, X.1.2.1, X.1.2.2.set s.1.toNat s.2.2), X.2.1 ++ [s], f)
def redoAns (X : Jrn) : Jrn × Int := if okJ X then (if X.2.2 = [] then (noJ, 6) else (redoJ X, 0)) else (noJ, 1)
end Am
/-! AmJ11 -/
set_option linter.unusedVariables false
set_option linter.unusedSimpArgs false
set_option maxHeartbeats 4000000
set_option maxRecDepth 4000
namespace Am
open Go

/-- As Vo, with cells behind Past. -/
def VoJ (h : Heap) (lo hi : Nat) (v : Value) (X : Jrn) : Prop := ∃ b1 z1 b2 z2 b3 z3 rest,
  v = .agg #[I X.1.1, I X.1.2.1, sl b1 0 X.1.2.2.length z1, sl b2 0 X.2.1.length z2, sl b3 0 X.2.2.length z3] ∧ (z1 = 1 ∨ b1 = 0 ∧ X.1.2.2 = []) ∧
  (X.1.2.2 = [] ∨ h[b1]? = some ⟨ints X.1.2.2, true⟩ ∧ lo ≤ b1 ∧ b1 < hi ∧ b1 ≠ b2 ∧ b1 ≠ b3) ∧
  (X.2.1 = [] ∧ b2 = 0 ∨ z2 = 3 ∧ h[b2]? = some ⟨trips X.2.1 ++ rest, true⟩ ∧ lo ≤ b2 ∧ b2 < hi ∧ b2 ≠ b3) ∧
  (X.2.2 = [] ∧ b3 = 0 ∨ z3 = 3 ∧ h[b3]? = some ⟨trips X.2.2, true⟩ ∧ lo ≤ b3 ∧ b3 < hi) ∧ Jwf X
theorem VoJ.no {h : Heap} {lo hi : Nat} : VoJ h lo hi (.agg #[I 0, I 0, sl 0 0 0 0, sl 0 0 0 0, sl 0 0 0 0]) noJ :=
  ⟨0, 0, 0, 0, 0, 0, [], rfl, .inr ⟨rfl, rfl⟩, .inl rfl, .inl ⟨rfl, rfl⟩, .inl ⟨rfl, rfl⟩, by constructor <;> simp [noJ, I64]⟩
theorem VoJ.mod {h h' : Heap} {lo hi lo' hi' : Nat} {v : Value} {X : Jrn} (x : VoJ h lo hi v X) (m : Mod lo' hi' h h') (hd : hi ≤ lo' ∨ hi' ≤ lo) : VoJ h' lo hi v X := by
  obtain ⟨b1, z1, b2, z2, b3, z3, rest, e, hz1, i1, i2, i3, wf⟩ := x
  exact ⟨b1, z1, b2, z2, b3, z3, rest, e, hz1, i1.imp id fun e => ⟨by rw [m.2 _ (at_lt e.1) (by omega)]; exact e.1, e.2⟩, i2.imp id fun e => ⟨e.1, by rw [m.2 _ (at_lt e.2.1) (by omega)]; exact e.2.1, e.2.2⟩, i3.imp id fun e => ⟨e.1, by rw [m.2 _ (at_lt e.2.1) (by omega)]; exact e.2.1, e.2.2⟩, wf⟩
theorem VoJ.grow {h h' : Heap} {lo hi : Nat} {v : Value} {X : Jrn} (x : VoJ h lo hi v X) (g : Grows h h') : VoJ h' lo hi v X := by
  obtain ⟨b1, z1, b2, z2, b3, z3, rest, e, hz1, i1, i2, i3, wf⟩ := x
  exact ⟨b1, z1, b2, z2, b3, z3, rest, e, hz1, i1.imp id fun e => ⟨by rw [g.look (at_lt e.1)]; exact e.1, e.2⟩, i2.imp id fun e => ⟨e.1, by rw [g.look (at_lt e.2.1)]; exact e.2.1, e.2.2⟩, i3.imp id fun e => ⟨e.1, by rw [g.look (at_lt e.2.1)]; exact e.2.1, e.2.2⟩, wf⟩
theorem VoJ.wide {h : Heap} {lo hi lo' hi' : Nat} {v : Value} {X : Jrn} (x : VoJ h lo hi v X) (h1 : lo' ≤ lo) (h2 : hi ≤ hi') : VoJ h lo' hi' v X := by
  obtain ⟨b1, z1, b2, z2, b3, z3, rest, e, hz1, i1, i2, i3, wf⟩ := x
  exact ⟨b1, z1, b2, z2, b3, z3, rest, e, hz1, i1.imp id fun e => ⟨e.1, by omega, by omega, e.2.2.2⟩, i2.imp id fun e => ⟨e.1, e.2.1, by omega, by omega, e.2.2.2.2⟩, i3.imp id fun e => ⟨e.1, e.2.1, by omega, by omega⟩, wf⟩

theorem VoJ.vr {h : Heap} {lo hi : Nat} {v : Value} {X : Jrn} (x : VoJ h lo hi v X) : Vr h shJournal v X := by
  obtain ⟨⟨W, H, br⟩, p, f⟩ := X
  obtain ⟨b1, z1, b2, z2, b3, z3, rest, rfl, hz1, i1, i2, i3, w1, w2, x1, x2, x3, y1, y2, y3⟩ := x
  simp only at hz1 i1 i2 i3 w1 w2 x1 x2 x3 y1 y2 y3
  refine Vr.of_journal w1 w2 (Vr.of_ints hz1 (by rw [maxLen_eq]; simp only; omega) x1 (i1.imp id fun e => cellsAt_all e.1 (by simp [ints])))
    (Vr.of_trips (i2.elim (fun e => .inr ⟨e.2, e.1⟩) fun e => .inl e.1) (by rw [maxLen_eq]; simp only; omega) x2 (i2.imp (fun e => e.1) fun e => ?_))
    (Vr.of_trips (i3.elim (fun e => .inr ⟨e.2, e.1⟩) fun e => .inl e.1) (by rw [maxLen_eq]; simp only; omega) x3 (i3.imp (fun e => e.1) fun e => cellsAt_all e.2.1 (by rw [trips_len]; omega)))
  rw [cellsAt_of e.2.1 (by simp [trips_len]; omega)]
  simp [trips_len, Nat.mul_comm]

end Am
/-! AmJ12 -/
set_option linter.unusedVariables false
set_option linter.unusedSimpArgs false
set_option maxHeartbeats 4000000
set_option maxRecDepth 4000
namespace Am
open Go

def undoJ (X : Jrn) : Jrn := match X.2.1.reverse with
  | [] => X
  | s :: r => ((X.1.1, X.1.2.1, X.1.2.2.set s.1.toNat s.2.1), r.reverse, s :: X.2.2)
def undoAns (X : Jrn) : Jrn × Int := if okJ X then (if X.2.1 = [] then (noJ, 6) else (undoJ X, 0)) else (noJ, 1)
end Am
/-! AmJ13 -/
set_option linter.unusedVariables false
set_option linter.unusedSimpArgs false
set_option maxHeartbeats 4000000
set_option maxRecDepth 4000
namespace Am
open Go

def undoN : Nat → Jrn → Jrn
  | 0, X => X
  | k + 1, X => undoN k (undoJ X)
def redoN : Nat → Jrn → Jrn
  | 0, X => X
  | k + 1, X => redoN k (redoJ X)
def goJ (X : Jrn) (n : Nat) : Jrn := redoN (n - (undoN (X.2.1.length - n) X).2.1.length) (undoN (X.2.1.length - n) X)
def goAns (X : Jrn) (n : Int) : Jrn × Int := if okJ X then (if inR n 0 (X.2.1.length + X.2.2.length : Nat) then (goJ X n.toNat, 0) else (noJ, 2)) else (noJ, 1)
/-- A journal of ours on the way to its goal. -/
def Way (lo jb n : Nat) (u : Bool) (Z : Jrn) (tot : Nat) (h : Heap) (m : Nat) : Prop := ∃ Y rest, JM h lo jb Y rest ∧ JK Y ∧ Y.2.1.length + Y.2.2.length = tot ∧ m = (if u then Y.2.1.length - n else n - Y.2.1.length) ∧ Z = if u then undoN m Y else redoN m Y

end Am
/-! AmJ14 -/
set_option linter.unusedVariables false
set_option linter.unusedSimpArgs false
set_option maxHeartbeats 4000000
set_option maxRecDepth 4000
namespace Am
open Go

end Am
/-! AmJ15 -/
set_option linter.unusedVariables false
set_option linter.unusedSimpArgs false
set_option maxHeartbeats 4000000
namespace Am
open Go

theorem okP_set {W H : Int} {br : List Int} {k : Nat} {v : Int} (h : okP (W, H, br) = true) (hv : 0 ≤ v ∧ v ≤ 2) : okP (W, H, br.set k v) = true := by
  rw [okP_iff] at h ⊢
  refine ⟨h.w, h.h, by simpa using h.n, fun x hx => ?_⟩
  rcases List.mem_or_eq_of_mem_set hx with hx | rfl
  · exact h.b x hx
  · exact hv
end Am
/-! AmS1 -/
set_option linter.unusedVariables false
set_option linter.unusedSimpArgs false
set_option maxHeartbeats 4000000
set_option maxRecDepth 4000
namespace Am
open Go

/-- A source in a box of our own: its code lies behind it, and it has given at most m bytes. -/
def Src (h : Heap) (b m : Nat) : Prop := ∃ (cb co n z a : Nat) (s : Int), h[b]? = some ⟨[sl cb co n z, I a, .int .u64 s], true⟩ ∧ a ≤ m ∧ 0 ≤ s ∧ s < 18446744073709551616 ∧ (n = 0 ∨ cb < b) ∧ n ≤ 9223372036854775807 ∧ ∀ i, i < n → ∃ x : Nat, cell h cb (co + i) = some (.int .u8 x) ∧ x < 256
theorem Src.mono {h : Heap} {b m m' : Nat} (x : Src h b m) (hm : m ≤ m') : Src h b m' := by
  obtain ⟨cb, co, n, z, a, s, h1, h2, h3⟩ := x
  exact ⟨cb, co, n, z, a, s, h1, by omega, h3⟩
theorem Src.mod {h h' : Heap} {b m lo hi : Nat} (x : Src h b m) (md : Mod lo hi h h') (hb : b < lo) : Src h' b m := by
  obtain ⟨cb, co, n, z, a, s, h1, h2, h3, h4, h5, h6, h7⟩ := x
  have hl := at_lt h1
  refine ⟨cb, co, n, z, a, s, by rw [md.2 b hl (.inl hb)]; exact h1, h2, h3, h4, h5, h6, fun i hi => ?_⟩
  obtain ⟨x, e1, e2⟩ := h7 i hi
  exact ⟨x, by unfold cell at e1 ⊢; rw [md.2 cb (by omega) (.inl (by omega))]; exact e1, e2⟩
theorem Src.grow {h h' : Heap} {b m : Nat} (x : Src h b m) (g : Grows h h') : Src h' b m := by
  obtain ⟨cb, co, n, z, a, s, h1, h2, h3, h4, h5, h6, h7⟩ := x
  have hl := at_lt h1
  refine ⟨cb, co, n, z, a, s, by rw [g.look hl]; exact h1, h2, h3, h4, h5, h6, fun i hi => ?_⟩
  obtain ⟨x, e1, e2⟩ := h7 i hi
  exact ⟨x, g.cell e1, e2⟩
theorem wrap_u64 (n : Int) : 0 ≤ IntKind.u64.wrap n ∧ IntKind.u64.wrap n < 18446744073709551616 := by
  simp only [IntKind.wrap, IntKind.signed, IntKind.bits]
  have h1 := Int.emod_nonneg n (show (2 ^ 64 : Int) ≠ 0 by decide)
  have h2 := Int.emod_lt_of_pos n (show (0 : Int) < 2 ^ 64 by decide)
  simp at *
  omega
theorem wrapUs {n : Int} (h1 : 0 ≤ n) (h2 : n < 18446744073709551616) : IntKind.u64.wrap n = n := wrap_unsigned (M := 18446744073709551616) rfl (by decide) h1 h2
theorem and_255 (a : Int) : ∃ x : Nat, bitsOp .u64 (· &&& ·) a 255 = .int .u64 x ∧ x < 256 := by
  obtain ⟨x, hx⟩ : ∃ x : Nat, x = (BitVec.ofInt 64 a &&& BitVec.ofInt 64 255).toNat := ⟨_, rfl⟩
  have hb : x < 256 := by
    rw [hx, BitVec.toNat_and]
    have : (BitVec.ofInt 64 255).toNat = 255 := by decide
    rw [this]
    have := @Nat.and_le_right (BitVec.ofInt 64 a).toNat 255
    omega
  refine ⟨x, ?_, hb⟩
  show Value.int .u64 (IntKind.u64.wrap ((BitVec.ofInt 64 a &&& BitVec.ofInt 64 255).toNat : Int)) = _
  rw [← hx, wrapUs (by omega) (by omega)]

theorem c5 (h : Heap) (b m : Nat) (hs : Src h b m) (hm : m ≤ 1099511627776) : ACall Gam 5 [pt b 0] h fun r h' => ∃ x : Nat, r = I x ∧ x < 256 ∧ Mod b (b + 1) h h' ∧ h'.length = h.length ∧ Src h' b (m + 1) := by
  obtain ⟨cb, co, n, z, a, s, h1, h2, h3, h4, h5, h6, h7⟩ := hs
  have hl := at_lt h1
  have k0 : cell h b 0 = some (sl cb co n z) := by simp [cell, h1]
  have k1 : cell h b 1 = some (I a) := by simp [cell, h1]
  have k2 : cell h b 2 = some (.int .u64 s) := by simp [cell, h1]
  refine ACall_intro g5 rfl ?_
  unfold fn5
  rw [awp_seq, awp_reg]
  generalize hK : seqQ Gam _ _ 0 = K
  simp (disch := omega)
  subst hK
  simp only [seqQ_zero]
  rw [awp_seq, awp_reg]
  generalize hK : seqQ Gam _ _ 0 = K
  simp (disch := omega)
  subst hK
  simp only [seqQ_zero]
  rw [awp_seq]
  generalize hK : seqQ Gam _ _ = K
  have step : ∀ (σ : Nat → Value) (x : Nat), x < 256 → σ 0 = pt b 0 → σ 3 = I x → K 0 σ h := by
    intro σ x hx q0 q3
    subst hK
    simp only [seqQ_zero]
    rw [awp_seq, awp_reg]
    generalize hK : seqQ Gam _ _ 0 = K
    have s1 := store_one (v := I ((a : Int) + 1)) (o := 1) h1 (by simp)
    obtain ⟨h', eh⟩ : ∃ h', h' = h.set b ⟨[sl cb co n z, I ((a : Int) + 1), .int .u64 s], true⟩ := ⟨_, rfl⟩
    simp only [List.set_cons_succ, List.set_cons_zero, ← eh] at s1
    simp (disch := omega) [q0, k1, s1, wrap64]
    subst hK
    simp only [seqQ_zero]
    have hb' : h'[b]? = some ⟨[sl cb co n z, I ((a : Int) + 1), .int .u64 s], true⟩ := by rw [eh]; simp [hl]
    have k0 : cell h' b 0 = some (sl cb co n z) := by simp [cell, hb']
    have k1 : cell h' b 1 = some (I ((a : Int) + 1)) := by simp [cell, hb']
    have k2 : cell h' b 2 = some (.int .u64 s) := by simp [cell, hb']
    rw [awp_seq, awp_reg]
    generalize hK : seqQ Gam _ _ 0 = K
    simp (disch := omega) [q0, q3, k2]
    obtain ⟨t, ht⟩ : ∃ t, t = IntKind.u64.wrap (IntKind.u64.wrap (IntKind.u64.wrap (s * 6364136223846793005) + IntKind.u64.wrap ↑x) + 1442695040888963407) := ⟨_, rfl⟩
    have tb := wrap_u64 (IntKind.u64.wrap (IntKind.u64.wrap (s * 6364136223846793005) + IntKind.u64.wrap ↑x) + 1442695040888963407)
    rw [← ht] at tb ⊢
    have s2 := store_one (v := .int .u64 t) (o := 2) hb' (by simp)
    obtain ⟨h2', eh2⟩ : ∃ h2', h2' = h'.set b ⟨[sl cb co n z, I ((a : Int) + 1), .int .u64 t], true⟩ := ⟨_, rfl⟩
    simp only [List.set_cons_succ, List.set_cons_zero, ← eh2] at s2
    rw [s2]
    have hb2 : h2'[b]? = some ⟨[sl cb co n z, I ((a : Int) + 1), .int .u64 t], true⟩ := by rw [eh2]; simp [at_lt hb']
    have k0 : cell h2' b 0 = some (sl cb co n z) := by simp [cell, hb2]
    have k1 : cell h2' b 1 = some (I ((a : Int) + 1)) := by simp [cell, hb2]
    have k2 : cell h2' b 2 = some (.int .u64 t) := by simp [cell, hb2]
    have hl2 : h2'.length = h.length := by rw [eh2, eh]; simp
    have ho : ∀ c, c ≠ b → h2'[c]? = h[c]? := fun c hc => by rw [eh2, set_other hc, eh, set_other hc]
    have md : Mod b (b + 1) h h2' := ⟨by omega, fun c hc hn => ho c (by omega)⟩
    have src : Src h2' b (m + 1) := ⟨cb, co, n, z, a + 1, t, by rw [hb2]; rfl, by omega, tb.1, tb.2, h5, h6, fun i hi => by
      obtain ⟨x, e1, e2⟩ := h7 i hi
      exact ⟨x, by unfold cell at e1 ⊢; rw [ho cb (by omega)]; exact e1, e2⟩⟩
    simp (disch := omega)
    subst hK
    simp only [seqQ_zero]
    rw [awp_seq]
    generalize hK : seqQ Gam _ _ = K
    simp (disch := omega) [q0, k0, k1]
    refine fork_dec (fun h3 => ?_) (fun h3 => ?_)
    · subst hK
      simp (disch := omega) [q3]
      exact ⟨x, rfl, hx, md, hl2, src⟩
    · simp (disch := omega)
      subst hK
      simp only [seqQ_zero]
      obtain ⟨y, ey, hy⟩ := and_255 (t.fdiv (2 ^ min 40 IntKind.u64.bits))
      simp (disch := omega) [q0, k2, ey, wrap64]
      exact ⟨y, rfl, hy, md, hl2, src⟩
  simp (disch := omega) [k0, k1]
  refine fork_dec (fun h3 => ?_) (fun h3 => ?_)
  · obtain ⟨x, e1, e2⟩ := h7 a (by omega)
    simp (disch := omega) [k0, k1, e1, h3, wrap64]
    exact step _ x e2 (by simp) (by simp)
  · simp (disch := omega)
    exact step _ 0 (by omega) (by simp) (by simp)
/-- What a draw leaves: a number from 0 to n - 1. -/
theorem c7 (h : Heap) (b m : Nat) (n : Int) (hs : Src h b m) (hm : m ≤ 1000000000) (hn : I64 n) : ACall Gam 7 [pt b 0, I n] h fun r h' => ∃ x : Nat, r = I x ∧ (n ≤ 1 → x = 0) ∧ (1 < n → (x : Int) < n) ∧ Mod b (b + 1) h h' ∧ h'.length = h.length ∧ Src h' b (m + 2) := by
  refine ACall_intro g7 rfl ?_
  unfold fn7
  rw [awp_seq, awp_reg]
  generalize hK : seqQ Gam _ _ 0 = K
  simp (disch := omega)
  subst hK
  simp only [seqQ_zero]
  rw [awp_seq]
  generalize hK : seqQ Gam _ _ = K
  simp (disch := omega)
  refine fork_dec (fun h1 => ?_) (fun h1 => ?_)
  · subst hK
    simp (disch := omega)
    exact ⟨0, rfl, fun _ => rfl, fun h => by omega, Mod.refl _ _ _, hs.mono (by omega)⟩
  simp (disch := omega)
  subst hK
  simp only [seqQ_zero]
  rw [awp_seq, awp_reg]
  generalize hK : seqQ Gam _ _ 0 = K
  simp (disch := omega)
  refine callW_of (c5 h b m hs (by omega)) ?_
  rintro _ h2 ⟨x, rfl, hx, md, hl, hs2⟩
  simp (disch := omega)
  subst hK
  simp only [seqQ_zero]
  rw [awp_seq]
  generalize hK : seqQ Gam _ _ = K
  have fin : ∀ (σ : Nat → Value) (h' : Heap) (y : Nat), σ 1 = I n → σ 5 = I y → y < 100000 → Mod b (b + 1) h h' → h'.length = h.length → Src h' b (m + 2) → K 0 σ h' := by
    intro σ h' y q1 q5 hy md hl hs'
    subst hK
    simp only [seqQ_zero]
    obtain ⟨nn, rfl⟩ := Int.eq_ofNat_of_zero_le (show 0 ≤ n by omega)
    have e : (y : Int).tmod nn = ((y % nn : Nat) : Int) := by rw [tmod_pos (by omega), Int.natCast_emod]
    have hn0 : nn ≠ 0 := by omega
    have lt := Nat.mod_lt y (show 0 < nn by omega)
    obtain ⟨r, hr⟩ : ∃ r, r = y % nn := ⟨_, rfl⟩
    rw [← hr] at e lt
    simp (disch := omega) [q1, q5, e, hn0]
    exact ⟨r, rfl, by omega, by omega, md, hl, hs'⟩
  simp (disch := omega)
  refine fork_dec (fun h3 => ?_) (fun h3 => ?_)
  · simp (disch := omega) [wrap64]
    refine callW_of (c5 h2 b (m + 1) hs2 (by omega)) ?_
    rintro _ h4 ⟨y, rfl, hy, md2, hl2, hs4⟩
    simp (disch := omega) [wrap64]
    exact fin _ h4 (x * 256 + y) (by simp) (by simp) (by omega) (md.trans md2) (by omega) (hs4.mono (by omega))
  · simp (disch := omega)
    exact fin _ h2 x (by simp) (by simp) (by omega) md hl (hs2.mono (by omega))
theorem c6 (h : Heap) (b m : Nat) (n : Int) (hs : Src h b m) (hm : m ≤ 1000000000) (hn : I64 n) : ACall Gam 6 [pt b 0, I n] h fun r h' => ∃ x : Bool, r = B x ∧ Mod b (b + 1) h h' ∧ h'.length = h.length ∧ Src h' b (m + 2) := by
  refine ACall_intro g6 rfl ?_
  unfold fn6
  simp (disch := omega)
  refine callW_of (c7 h b m n hs hm hn) ?_
  rintro _ h2 ⟨x, rfl, _, _, md, hl, hs2⟩
  simp (disch := omega)
  exact ⟨by omega, md, hl, hs2⟩
def shBytes : Shp := .slice (.int .u8)
theorem byte_at {h : Heap} {v : Value} {X : List Int} (hv : Vr h shBytes v X) : ∃ b o z, v = sl b o X.length z ∧ X.length ≤ 9223372036854775807 ∧ ∀ i, i < X.length → ∃ x : Nat, cell h b (o + i) = some (.int .u8 x) ∧ x < 256 := by
  obtain ⟨b, o, z, rfl, hz, hm, hel⟩ := hv.slice
  refine ⟨b, o, z, rfl, by rw [← maxLen_eq]; exact hm, fun i hi => ?_⟩
  obtain ⟨c, hc, ⟨rfl, w⟩⟩ := hel i hi
  have e := (cell_in (i := 0) hc (by simp [Shp.n])).1
  have w' : 0 ≤ X[i] ∧ X[i] < 256 := by
    simp [Lit.wf, IntKind.min, IntKind.max, IntKind.signed, IntKind.bits] at w
    omega
  refine ⟨X[i].toNat, ?_, by omega⟩
  simp only [Shp.n, Nat.mul_one, Nat.add_zero] at e
  rw [e, Int.toNat_of_nonneg w'.1]
  rfl
theorem c431 (h : Heap) (v : Value) (X : List Int) (hv : Vr h shBytes v X) : ACall Gam 431 [v] h fun r h' => r = pt h.length 0 ∧ Grows h h' ∧ h'.length = h.length + 1 ∧ Src h' h.length 0 := by
  obtain ⟨b, o, z, rfl, hm, hel⟩ := byte_at hv
  refine ACall_intro g431 rfl ?_
  unfold fn431
  simp (disch := omega)
  refine ⟨⟨_, rfl⟩, b, o, X.length, z, 0, 0, by simp, by omega, by omega, by omega, ?_, hm, fun i hi => ?_⟩
  · by_cases h0 : X.length = 0
    · exact .inl h0
    · obtain ⟨x, e, _⟩ := hel 0 (by omega)
      right
      unfold cell at e
      cases hk : h[b]? with
      | none => rw [hk] at e; simp at e
      | some k => exact at_lt hk
  · obtain ⟨x, e1, e2⟩ := hel i hi
    exact ⟨x, Grows.cell ⟨_, rfl⟩ e1, e2⟩
end Am
/-! AmS2 -/
set_option linter.unusedVariables false
set_option linter.unusedSimpArgs false
set_option maxHeartbeats 4000000
set_option maxRecDepth 4000
namespace Am
open Go

def IntsAt (h : Heap) (b : Nat) (l : List Int) : Prop := h[b]? = some ⟨ints l, true⟩
theorem c450s (h : Heap) (W H : Int) (hW : 1 ≤ W ∧ W ≤ 8) (hH : 1 ≤ H ∧ H ≤ 8) : ACall Gam 450 [I W, I H] h fun r h' => r = .agg #[I W, I H, sl h.length 0 (inner W H).toNat 1] ∧ h' = h ++ [⟨ints (List.replicate (inner W H).toNat 0), true⟩] := by
  have hi := inner_bd hW hH
  refine ACall_intro g450 rfl ?_
  unfold fn450
  simp (disch := omega)
  refine callW_of (c448 W H hW hH h) ?_
  rintro v' h' ⟨rfl, rfl⟩
  simp (disch := omega) [aMake, maxSize]
  rw [if_pos (by omega)]
  simp (disch := omega) [resOf_box, aField]
  simp [reps, ints]
/-- A valid panel drawn, in memory of its own behind the source; its row is a block of its own. -/
theorem c445s (h : Heap) (b m : Nat) (n : Int) (hs : Src h b m) (hm : m ≤ 100000000) (hn : 1 ≤ n ∧ n ≤ 8) : ACall Gam 445 [pt b 0, I n] h fun r h' => ∃ (P : Pan) (bb : Nat), OkP P ∧ P.1 ≤ n ∧ P.2.1 ≤ n ∧ Mod b (b + 1) h h' ∧ r = .agg #[I P.1, I P.2.1, sl bb 0 P.2.2.length 1] ∧ IntsAt h' bb P.2.2 ∧ h.length ≤ bb ∧ bb < h'.length ∧ Src h' b (m + 1000) := by
  refine ACall_intro g445 rfl ?_
  unfold fn445
  rw [awp_seq, awp_reg]
  generalize hK : seqQ Gam _ _ 0 = K
  simp (disch := omega)
  subst hK
  simp only [seqQ_zero]
  rw [awp_seq, awp_reg]
  generalize hK : seqQ Gam _ _ 0 = K
  simp (disch := omega)
  refine callW_of (c7 h b m n hs (by omega) (by unfold I64; omega)) ?_
  rintro _ h1 ⟨w, rfl, w1, w2, md1, l1, hs1⟩
  simp (disch := omega) [wrap64]
  subst hK
  simp only [seqQ_zero]
  rw [awp_seq, awp_reg]
  generalize hK : seqQ Gam _ _ 0 = K
  simp (disch := omega)
  refine callW_of (c7 h1 b _ n hs1 (by omega) (by unfold I64; omega)) ?_
  rintro _ h2 ⟨v, rfl, v1, v2, md2, l2, hs2⟩
  have hp : 0 < h2.length := by
    obtain ⟨_, _, _, _, _, _, e, _⟩ := hs2
    have := at_lt e; omega
  have hb2 : b < h2.length := by
    obtain ⟨_, _, _, _, _, _, e, _⟩ := hs2
    exact at_lt e
  simp (disch := omega) [wrap64]
  refine callW_of (c450s h2 (1 + w) (1 + v) (by omega) (by omega)) ?_
  rintro _ h3 ⟨rfl, e3⟩
  have g3 : Grows h2 h3 := ⟨_, e3⟩
  have hs3 := hs2.grow g3
  refine ⟨fun e => (by cases e), ?_⟩
  have ok0 := newP_ok (W := 1 + w) (H := 1 + v) (by omega) (by omega)
  have hl0 : (inner (1 + w) (1 + v)).toNat = (List.replicate (inner (1 + w) (1 + v)).toNat (0 : Int)).length := by simp
  rw [hl0]
  obtain ⟨br0, hbr0⟩ : ∃ br0, br0 = List.replicate (inner (1 + w) (1 + v)).toNat (0 : Int) := ⟨_, rfl⟩
  unfold newP at ok0
  rw [← hbr0] at ok0 e3 ⊢
  obtain ⟨b3, hb30⟩ : ∃ b3, b3 = h2.length := ⟨_, rfl⟩
  have hb3 : h3[b3]? = some ⟨ints br0, true⟩ := by rw [e3, hb30]; simp
  rw [← hb30]
  have hn0 := ok_len ok0
  have L3 : h3.length = h2.length + 1 := by rw [e3]; simp
  have MD3 : Mod b (b + 1) h h3 := (md1.trans md2).trans (g3.mod)
  simp (disch := omega)
  subst hK
  simp only [seqQ_zero]
  rw [awp_seq, awp_reg]
  generalize hK : seqQ Gam _ _ 0 = K
  simp (disch := omega)
  refine callW_of (c7 h3 b _ 4 hs3 (by omega) (by unfold I64; omega)) ?_
  rintro _ h4 ⟨some', rfl, _, so2, md4, l4, hs4⟩
  simp (disch := omega)
  subst hK
  simp only [seqQ_zero]
  rw [awp_seq]
  generalize hK : seqQ Gam _ _ = K
  simp (disch := omega)
  have hb4 : h4[b3]? = some ⟨ints br0, true⟩ := by rw [md4.2 b3 (at_lt hb3) (by omega)]; exact hb3
  have hlb : h.length ≤ b3 := by have := md1.1; omega
  refine awp_loop (fun (i : Nat) σ h' => i ≤ br0.length ∧ Mod b (b + 1) h h' ∧ h4.length ≤ h'.length ∧ σ 0 = pt b 0 ∧ σ 4 = .agg #[I 0, I 0, sl 0 0 0 0] ∧ σ 6 = .agg #[I (1 + w), I (1 + v), sl b3 0 br0.length 1] ∧ σ 7 = I some' ∧ σ 8 = I i ∧ Src h' b (m + 6 + 4 * i) ∧ ∃ br : List Int, br.length = br0.length ∧ OkP (1 + w, 1 + v, br) ∧ IntsAt h' b3 br) (fun i => br0.length - i) 0 ?_ ?_
  · refine ⟨by omega, MD3.trans md4, by omega, by simp, by simp, by simp, by simp, by simp, hs4, br0, rfl, ok0, hb4⟩
  · rintro i σ h' ⟨hi, md, hle, q0, q4, q6, q7, q8, hs', br, hbl, okb, hb'⟩
    simp (disch := omega) [q6, q8]
    refine fork_dec (fun hlt => ?_) (fun hge => ?_)
    · have hlt : i < br0.length := by omega
      have hbb : h'[b3]? = some ⟨ints br, true⟩ := hb'
      simp (disch := omega) [q0, q6, q7, q8]
      refine callW_of (c7 h' b _ 4 hs' (by omega) (by unfold I64; omega)) ?_
      rintro _ h5 ⟨x, rfl, _, _, md5, l5, hs5⟩
      have hb5 : h5[b3]? = some ⟨ints br, true⟩ := by
        rw [md5.2 b3 (at_lt hbb) (by omega)]; exact hbb
      simp (disch := omega) [q0, q6, q7, q8]
      refine fork_dec (fun h6 => ?_) (fun h6 => ?_)
      · simp (disch := omega) [q0, q6, q7, q8]
        refine callW_of (c7 h5 b _ 2 hs5 (by omega) (by unfold I64; omega)) ?_
        rintro _ h7 ⟨y, rfl, _, y2, md7, l7, hs7⟩
        have hb7 : h7[b3]? = some ⟨ints br, true⟩ := by
          rw [md7.2 b3 (at_lt hb5) (by omega)]; exact hb5
        have hst := store_int (v := 1 + (y : Int)) hb7 (show i < br.length by omega)
        have hb2' : b < b3 := by omega
        have hil : (i : Int) < br0.length := by omega
        obtain ⟨h8, e8⟩ : ∃ h8, h8 = h7.set b3 ⟨ints (br.set i (1 + (y : Int))), true⟩ := ⟨_, rfl⟩
        rw [← e8] at hst
        have l8 : h8.length = h7.length := by rw [e8]; simp
        have o8 : ∀ c, c ≠ b3 → h8[c]? = h7[c]? := fun c hc => by rw [e8]; exact set_other hc
        have mm := (md.trans md5).trans md7
        have m8 : Mod b (b + 1) h h8 := ⟨by have := mm.1; omega, fun c hc hn => by rw [o8 c (by omega)]; exact mm.2 c hc hn⟩
        have hs8 : Src h8 b (m + 6 + 4 * (i + 1)) := (hs7.mono (by omega)).mod (lo := b3) (hi := b3 + 1) ⟨by omega, fun c hc hn => o8 c (by omega)⟩ (by omega)
        have hb8 : h8[b3]? = some ⟨ints (br.set i (1 + (y : Int))), true⟩ := by rw [e8]; simp [at_lt hb7]
        have ok8 : OkP (1 + w, 1 + v, br.set i (1 + (y : Int))) := okP_iff.1 (okP_set (okP_iff.2 okb) (by omega))
        simp (disch := omega) [q0, q6, q7, q8, wrap64, hlt, hst]
        exact ⟨i + 1, ⟨by omega, m8, by omega, q4, by omega, hs8, br.set i (1 + (y : Int)), by simpa using hbl, ok8, hb8⟩, by omega⟩
      · simp (disch := omega) [q0, q6, q7, q8, wrap64]
        exact ⟨i + 1, ⟨by omega, md.trans md5, by omega, q4, by omega, hs5.mono (by omega), br, hbl, okb, hb5⟩, by omega⟩
    · subst hK
      simp (disch := omega) [q4, q6, resOf, resAll, resOne, aField]
      refine ⟨1 + w, 1 + v, br, okb, by omega, by omega, md, ?_⟩
      first
        | exact ⟨b3, by simp [hbl], hb', hlb, at_lt hb', hs'.mono (by omega)⟩
        | (rw [← hbl]; exact ⟨hb', hlb, at_lt hb', hs'.mono (by omega)⟩)
/-- A valid panel drawn, in memory of its own behind the source. -/
theorem c445 (h : Heap) (b m : Nat) (n : Int) (hs : Src h b m) (hm : m ≤ 100000000) (hn : 1 ≤ n ∧ n ≤ 8) : ACall Gam 445 [pt b 0, I n] h fun r h' => ∃ P : Pan, OkP P ∧ P.1 ≤ n ∧ P.2.1 ≤ n ∧ Mod b (b + 1) h h' ∧ Vo h' h.length h'.length shPanel r P ∧ Src h' b (m + 1000) := by
  refine (c445s h b m n hs hm hn).mono ?_
  rintro r h' ⟨P, bb, ok, p1, p2, md, rfl, hb, l1, l2, hs'⟩
  obtain ⟨W, H, br⟩ := P
  have o1 : 1 ≤ W ∧ W ≤ 8 := ok.w
  have o2 : 1 ≤ H ∧ H ≤ 8 := ok.h
  have ol := ok_len ok
  refine ⟨_, ok, p1, p2, md, ?_, hs'⟩
  exact Vo.of_panel (W := W) (H := H) (br := br) (by unfold I64; omega) (by unfold I64; omega) (Vo.of_ints (.inl rfl) (by rw [maxLen_eq]; show br.length ≤ _; omega) (fun x hx => by have := ok.b x hx; unfold I64; omega) (.inr ⟨hb, l1, l2⟩))
end Am

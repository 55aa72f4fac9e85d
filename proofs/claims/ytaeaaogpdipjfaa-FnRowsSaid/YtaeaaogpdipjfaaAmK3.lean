/- Contracts: AmJ4, AmJ5, AmJ6, AmJ7, AmJ8, AmE1, AmW1, AmW2, AmW3, AmW4, AmW5, AmJ9, AmJ10, AmJ11, AmJ12, AmJ13, AmJ14, AmJ15, AmS1, AmS2, AmS3, AmS4, AmS5, AmS6, AmY1, AmY7. -/
import Derived.Test.YtaeaaogpdipjfaaAmK2
/-! AmJ4 -/
set_option linter.unusedVariables false
set_option linter.unusedSimpArgs false
set_option maxHeartbeats 4000000
set_option maxRecDepth 4000
namespace Am
open Go

def stAns (X : Jrn) : Pan × Int := if okJ X then ((X.1.1, X.1.2.1, startB X), 0) else ((0, 0, []), 1)
/-! ### slices that grow, empty ones of whatever kind -/
/-- A slice whose cells are these, in memory of our own; more cells may lie behind. -/
def Bf (h : Heap) (lo hi : Nat) (v : Value) (z : Nat) (cs : List Value) : Prop := (cs = [] ∧ ∃ y, v = sl 0 0 0 y) ∨ ∃ b n, v = sl b 0 n z ∧ n * z = cs.length ∧ lo ≤ b ∧ b < hi ∧ h[b]? = some ⟨cs, true⟩
theorem Bf.nil {h : Heap} {lo hi y z : Nat} : Bf h lo hi (sl 0 0 0 y) z [] := .inl ⟨rfl, y, rfl⟩
theorem Bf.sl {h : Heap} {lo hi : Nat} {v : Value} {z : Nat} {cs : List Value} (x : Bf h lo hi v z cs) : ∃ b n y, v = Am.sl b 0 n y := by
  rcases x with ⟨_, y, e⟩ | ⟨b, n, e, _⟩
  · exact ⟨0, 0, y, e⟩
  · exact ⟨b, n, z, e⟩
theorem Bf.wide {h : Heap} {lo hi lo' hi' : Nat} {v : Value} {z : Nat} {cs : List Value} (x : Bf h lo hi v z cs) (h1 : lo' ≤ lo) (h2 : hi ≤ hi') : Bf h lo' hi' v z cs := by
  rcases x with x | ⟨b, n, e, e2, e3, e4, e5⟩
  · exact .inl x
  · exact .inr ⟨b, n, e, e2, by omega, by omega, e5⟩
theorem Bf.mod {h h' : Heap} {lo hi lo' hi' : Nat} {v : Value} {z : Nat} {cs : List Value} (x : Bf h lo hi v z cs) (m : Mod lo' hi' h h') (hd : hi ≤ lo' ∨ hi' ≤ lo) : Bf h' lo hi v z cs := by
  rcases x with x | ⟨b, n, e, e2, e3, e4, e5⟩
  · exact .inl x
  · exact .inr ⟨b, n, e, e2, e3, e4, by rw [m.2 b (at_lt e5) (by omega)]; exact e5⟩
theorem Bf.grow {h h' : Heap} {lo hi : Nat} {v : Value} {z : Nat} {cs : List Value} (x : Bf h lo hi v z cs) (g : Grows h h') : Bf h' lo hi v z cs := by
  rcases x with x | ⟨b, n, e, e2, e3, e4, e5⟩
  · exact .inl x
  · exact .inr ⟨b, n, e, e2, e3, e4, g.at e5⟩
theorem Bf.trips {h : Heap} {lo hi : Nat} {v : Value} {X : List Trip} (x : Bf h lo hi v 3 (Am.trips X)) (hm : X.length ≤ maxLen) (hx : ∀ x ∈ X, T64 x) : Vo h lo hi shTrips v X := by
  rcases x with ⟨h1, y, rfl⟩ | ⟨b, n, rfl, h2, h3, h4, h5⟩
  · have := trips_inj_nil h1
    subst this
    exact Vo.of_trips (X := []) (.inr ⟨rfl, rfl⟩) (by simp) (by simp) (.inl rfl)
  · rw [trips_len] at h2
    have : n = X.length := by omega
    subst this
    exact Vo.of_trips (.inl rfl) hm hx (.inr ⟨h5, h3, h4⟩)
theorem Bf.ints {h : Heap} {lo hi : Nat} {v : Value} {X : List Int} (x : Bf h lo hi v 1 (Am.ints X)) (hm : X.length ≤ maxLen) (hx : ∀ x ∈ X, I64 x) : Vo h lo hi shInts v X := by
  rcases x with ⟨h1, y, rfl⟩ | ⟨b, n, rfl, h2, h3, h4, h5⟩
  · have := ints_inj_nil h1
    subst this
    exact Vo.of_ints (X := []) (.inr ⟨rfl, rfl⟩) (by simp) (by simp) (.inl rfl)
  · have : n = X.length := by simpa [Am.ints] using h2
    subst this
    exact Vo.of_ints (.inl rfl) hm hx (.inr ⟨h5, h3, h4⟩)
/-- APPENDING TO IT. -/
theorem append_bf {h : Heap} {lo hi : Nat} {v x : Value} {z : Nat} {cs new : List Value} {k : Value → Heap → Prop} (hp : 0 < lo) (hv : Bf h lo hi v z cs) (hn : newCells z h x = some new) (hz : 0 < z) (hne : new ≠ []) (hm : new.length / z * z = new.length)
    (hmax : cs.length + new.length ≤ maxSize) (hk : ∀ v' h', Mod lo hi h h' → Bf h' h.length h'.length v' z (cs ++ new) → k v' h') : bindW (aAppend z h x v) k := by
  rcases hv with ⟨rfl, y, rfl⟩ | ⟨b, n, rfl, h2, h3, h4, h5⟩
  · have e : aAppend z h x (sl 0 0 0 y) = some (sl h.length 0 (new.length / z) z, h ++ [⟨new, true⟩]) := by
      simp only [aAppend, hn]
      rw [if_neg (by omega), if_neg hne, if_neg (by simp at hmax; omega), if_pos trivial]
    rw [e]
    exact hk _ _ (Grows.mod ⟨_, rfl⟩) (.inr ⟨h.length, _, rfl, hm, Nat.le_refl _, by simp, by simp⟩)
  · have hnz : n ≤ cs.length := by rw [← h2]; exact Nat.le_mul_of_pos_right n hz
    have e : aAppend z h x (sl b 0 n z) = some (sl h.length 0 (n + new.length / z) z, h.set b ⟨[], false⟩ ++ [⟨cs ++ new, true⟩]) := by
      simp only [aAppend, hn]
      rw [if_neg (by omega), if_neg hne, if_neg (by omega), if_neg (by omega)]
      simp only [h5]
      rw [if_pos ⟨trivial, trivial⟩, cellsAt_all h5 h2]
    rw [e]
    have hb := at_lt h5
    refine hk _ _ ⟨by simp, fun c hc hn => ?_⟩ (.inr ⟨h.length, _, rfl, by rw [Nat.add_mul, hm, h2]; simp, Nat.le_refl _, by simp, by simp⟩)
    rw [List.getElem?_append_left (by simpa using hc), List.getElem?_set_ne (by omega)]
theorem Mod.push {lo hi : Nat} {h : Heap} (k : Blk) : Mod lo hi h (h ++ [k]) := Grows.mod ⟨_, rfl⟩
/-! ### squashed -/
def sqAns (X : Jrn) : Jrn × Int := if okJ X then ((X.1, dpre (startB X) X.1.2.2 X.1.2.2.length, []), 0) else (noJ, 1)
end Am
/-! AmJ5 -/
set_option linter.unusedVariables false
set_option linter.unusedSimpArgs false
set_option maxHeartbeats 4000000
set_option maxRecDepth 4000
namespace Am
open Go

/-- A journal in new memory. -/
def Own5 (h h' : Heap) (r : Value) (X : Jrn) : Prop := Grows h h' ∧ ∃ s sp sf m1 m2, r = .agg #[I X.1.1, I X.1.2.1, s, sp, sf] ∧ h.length ≤ m1 ∧ m1 ≤ m2 ∧ m2 ≤ h'.length ∧ Vo h' h.length m1 shInts s X.1.2.2 ∧ Bf h' m1 m2 sp 3 (trips X.2.1) ∧ Bf h' m2 h'.length sf 3 (trips X.2.2)

end Am
/-! AmJ6 -/
set_option linter.unusedVariables false
set_option linter.unusedSimpArgs false
set_option maxHeartbeats 4000000
set_option maxRecDepth 4000
namespace Am
open Go

def doCode (X : Jrn) (k kind : Int) : Int := if inR k 0 ((X.1.2.2.length : Int) - 1) && okBr kind then (if at0 X.1.2.2 k.toNat = kind then 6 else if 50 ≤ X.2.1.length then 5 else 0) else 2
def doJ (X : Jrn) (k kind : Int) : Jrn := ((X.1.1, X.1.2.1, X.1.2.2.set k.toNat kind), X.2.1 ++ [(k, at0 X.1.2.2 k.toNat, kind)], [])
def doAns (X : Jrn) (k kind : Int) : Jrn × Int := if okJ X then (if doCode X k kind = 0 then (doJ X k kind, 0) else (noJ, doCode X k kind)) else (noJ, 1)
/-- Numbers of a journal are numbers of the machine. -/
structure Jwf (X : Jrn) : Prop where
  w : I64 X.1.1
  h : I64 X.1.2.1
  b : ∀ x ∈ X.1.2.2, I64 x
  p : ∀ x ∈ X.2.1, T64 x
  f : ∀ x ∈ X.2.2, T64 x
  lb : X.1.2.2.length ≤ 1048576
  lp : X.2.1.length ≤ 1048576
  lf : X.2.2.length ≤ 1048576

end Am
/-! AmJ7 -/
set_option linter.unusedVariables false
set_option linter.unusedSimpArgs false
set_option maxHeartbeats 4000000
set_option maxRecDepth 4000
namespace Am
open Go

/-- A journal in a box of our own, its memory our own, apart. Behind its steps more cells may lie. -/
def JM (h : Heap) (lo jb : Nat) (X : Jrn) (rest : List Value) : Prop := ∃ b1 z1 b2 z2 b3 z3,
  h[jb]? = some ⟨[I X.1.1, I X.1.2.1, sl b1 0 X.1.2.2.length z1, sl b2 0 X.2.1.length z2, sl b3 0 X.2.2.length z3], true⟩ ∧ lo ≤ jb ∧ 0 < lo ∧ (z1 = 1 ∨ b1 = 0 ∧ X.1.2.2 = []) ∧
  (X.1.2.2 = [] ∨ h[b1]? = some ⟨ints X.1.2.2, true⟩ ∧ lo ≤ b1 ∧ b1 ≠ jb ∧ b1 ≠ b2 ∧ b1 ≠ b3) ∧
  (X.2.1 = [] ∧ b2 = 0 ∨ z2 = 3 ∧ h[b2]? = some ⟨trips X.2.1 ++ rest, true⟩ ∧ lo ≤ b2 ∧ b2 ≠ jb ∧ b2 ≠ b3) ∧
  (X.2.2 = [] ∧ b3 = 0 ∨ z3 = 3 ∧ h[b3]? = some ⟨trips X.2.2, true⟩ ∧ lo ≤ b3 ∧ b3 ≠ jb) ∧ Jwf X
theorem set_other {h : Heap} {b c : Nat} {k : Blk} (hne : c ≠ b) : (h.set b k)[c]? = h[c]? := List.getElem?_set_ne fun e => hne e.symm
/-- The box holds the clone. -/
theorem JM.own {h h1 : Heap} {r : Value} {X : Jrn} (hp : 0 < h.length) (x : Own5 h h1 r X) (wf : Jwf X) : ∃ b1 z1 b2 z2 b3 z3, r = .agg #[I X.1.1, I X.1.2.1, sl b1 0 X.1.2.2.length z1, sl b2 0 X.2.1.length z2, sl b3 0 X.2.2.length z3] ∧
    JM (h1 ++ [⟨[I X.1.1, I X.1.2.1, sl b1 0 X.1.2.2.length z1, sl b2 0 X.2.1.length z2, sl b3 0 X.2.2.length z3], true⟩]) h.length h1.length X [] := by
  obtain ⟨⟨W, H, br⟩, p, f⟩ := X
  obtain ⟨g, s, sp, sf, m1, m2, rfl, l1, l2, l3, o1, o2, o3⟩ := x
  obtain ⟨b1, z1, rfl, hz, hm, hx, hc⟩ := o1.ints
  have e2 : ∃ b2 z2, sp = sl b2 0 p.length z2 ∧ (p = [] ∧ b2 = 0 ∨ z2 = 3 ∧ h1[b2]? = some ⟨trips p, true⟩ ∧ m1 ≤ b2 ∧ b2 < m2) := by
    rcases o2 with ⟨e, y, e'⟩ | ⟨b, n, e, e', e3, e4, e5⟩
    · have := trips_inj_nil e
      simp only at this; subst this
      exact ⟨0, y, e', .inl ⟨rfl, rfl⟩⟩
    · rw [trips_len] at e'
      have : n = p.length := by simp only at e'; omega
      subst this
      exact ⟨b, 3, e, .inr ⟨rfl, e5, e3, e4⟩⟩
  have e3 : ∃ b2 z2, sf = sl b2 0 f.length z2 ∧ (f = [] ∧ b2 = 0 ∨ z2 = 3 ∧ h1[b2]? = some ⟨trips f, true⟩ ∧ m2 ≤ b2 ∧ b2 < h1.length) := by
    rcases o3 with ⟨e, y, e'⟩ | ⟨b, n, e, e', e3, e4, e5⟩
    · have := trips_inj_nil e
      simp only at this; subst this
      exact ⟨0, y, e', .inl ⟨rfl, rfl⟩⟩
    · rw [trips_len] at e'
      have : n = f.length := by simp only at e'; omega
      subst this
      exact ⟨b, 3, e, .inr ⟨rfl, e5, e3, e4⟩⟩
  obtain ⟨b2, z2, rfl, i2⟩ := e2
  obtain ⟨b3, z3, rfl, i3⟩ := e3
  simp only at hc hz
  refine ⟨b1, z1, b2, z2, b3, z3, rfl, b1, z1, b2, z2, b3, z3, by simp, by omega, hp, hz, ?_, ?_, ?_, wf⟩
  · refine hc.imp id fun e => ⟨push_at e.1, by omega, by omega, ?_, ?_⟩
    · rcases i2 with i2 | i2 <;> omega
    · rcases i3 with i3 | i3 <;> omega
  · refine i2.imp id fun e => ⟨e.1, by simpa using push_at e.2.1, by omega, by omega, ?_⟩
    rcases i3 with i3 | i3 <;> omega
  · exact i3.imp id fun e => ⟨e.1, push_at e.2.1, by omega, by omega⟩

/-- The journal's value, with memory of its own. -/
theorem JM.vo {h : Heap} {lo jb : Nat} {X : Jrn} (x : JM h lo jb X []) : ∃ cs, h[jb]? = some ⟨cs, true⟩ ∧ cs.length = 5 ∧ Vo h lo h.length shJournal (.agg cs.toArray) X := by
  obtain ⟨⟨W, H, br⟩, p, f⟩ := X
  obtain ⟨b1, z1, b2, z2, b3, z3, hjb, hlo, hpos, hz1, i1, i2, i3, wf⟩ := x
  obtain ⟨w1, w2, x1, x2, x3, y1, y2, y3⟩ := wf
  simp only at hjb hz1 i1 i2 i3 w1 w2 x1 x2 x3 y1 y2 y3
  refine ⟨_, hjb, rfl, ?_⟩
  have v1 : Vo h (if br = [] then 0 else b1) (if br = [] then 0 else b1 + 1) shInts (sl b1 0 br.length z1) br := Vo.of_ints hz1 (by rw [maxLen_eq]; omega) x1 (by
    rcases i1 with e | e
    · exact .inl e
    · by_cases e' : br = []
      · exact .inl e'
      · exact .inr ⟨e.1, by simp [e']⟩)
  have v2 : Vo h (if p = [] then 0 else b2) (if p = [] then 0 else b2 + 1) shTrips (sl b2 0 p.length z2) p := Vo.of_trips (i2.elim (fun e => .inr ⟨e.2, e.1⟩) fun e => .inl e.1) (by rw [maxLen_eq]; omega) x2 (by
    by_cases e' : p = []
    · exact .inl e'
    · rcases i2 with e | e
      · exact absurd e.1 e'
      · exact .inr ⟨by simpa using e.2.1, by simp [e']⟩)
  have v3 : Vo h (if f = [] then 0 else b3) (if f = [] then 0 else b3 + 1) shTrips (sl b3 0 f.length z3) f := Vo.of_trips (i3.elim (fun e => .inr ⟨e.2, e.1⟩) fun e => .inl e.1) (by rw [maxLen_eq]; omega) x3 (by
    by_cases e' : f = []
    · exact .inl e'
    · rcases i3 with e | e
      · exact absurd e.1 e'
      · exact .inr ⟨e.2.1, by simp [e']⟩)
  refine Vo.of_journal w1 w2 v1 v2 v3 ?_ ?_ ?_ ?_ ?_ ?_
  · unfold Sub2; split
    · exact .inl rfl
    · rename_i hn; have := i1.resolve_left hn; have := at_lt this.1; omega
  · unfold Sub2; split
    · exact .inl rfl
    · rename_i hn; have := i2.resolve_left (fun e => hn e.1); have := at_lt this.2.1; omega
  · unfold Sub2; split
    · exact .inl rfl
    · rename_i hn; have := i3.resolve_left (fun e => hn e.1); have := at_lt this.2.1; omega
  · unfold Dis
    by_cases h1 : br = [] <;> by_cases h2 : p = [] <;> simp only [h1, h2, if_true, if_false] <;> try omega
    have := i1.resolve_left h1; omega
  · unfold Dis
    by_cases h1 : br = [] <;> by_cases h2 : f = [] <;> simp only [h1, h2, if_true, if_false] <;> try omega
    have := i1.resolve_left h1; omega
  · unfold Dis
    by_cases h1 : p = [] <;> by_cases h2 : f = [] <;> simp only [h1, h2, if_true, if_false] <;> try omega
    have := i2.resolve_left (fun e => h1 e.1); omega
end Am
/-! AmJ8 -/
set_option linter.unusedVariables false
set_option linter.unusedSimpArgs false
set_option maxHeartbeats 4000000
set_option maxRecDepth 4000
namespace Am
open Go

end Am
/-! AmE1 -/
set_option linter.unusedVariables false
set_option linter.unusedSimpArgs false
set_option maxHeartbeats 4000000
set_option maxRecDepth 4000
namespace Am
open Go

/-- Changes made one after the other: the numbers, and a code. -/
def runD : List Trip → List Int → List Int × Int
  | [], br => (br, 0)
  | s :: l, br => if inR s.1 0 ((br.length : Int) - 1) && okBr s.2.2 then (if at0 br s.1.toNat = s.2.1 then runD l (br.set s.1.toNat s.2.2) else ([], 9)) else ([], 2)
def appAns (X : Pan) (l : List Trip) : Pan × Int := if okP X then (if (runD l X.2.2).2 = 0 then ((X.1, X.2.1, (runD l X.2.2).1), 0) else ((0, 0, []), (runD l X.2.2).2)) else ((0, 0, []), 1)
end Am
/-! AmW1 -/
set_option linter.unusedVariables false
set_option linter.unusedSimpArgs false
set_option maxHeartbeats 4000000
set_option maxRecDepth 4000
namespace Am
open Go

/-! ### splitting -/
def splitG (b : UInt8) (cur : List UInt8) : List UInt8 → List (List UInt8)
  | [] => [cur]
  | c :: r => if c = b then cur :: splitG b [] r else splitG b (cur ++ [c]) r
def splitS (b : UInt8) (s : List UInt8) : List (List UInt8) := splitG b [] s
/-! ### the sign of a break, read -/
def kindB (c : UInt8) : Int := if c = 43 then 0 else if c = 124 then 1 else if c = 45 then 2 else -1
end Am
/-! AmW2 -/
set_option linter.unusedVariables false
set_option linter.unusedSimpArgs false
set_option maxHeartbeats 4000000
set_option maxRecDepth 4000
namespace Am
open Go

def dgs (s : List UInt8) : List UInt8 := if s.head? = some 45 then s.drop 1 else s
def isDig (c : UInt8) : Bool := decide ((48 : Int) ≤ c.toNat) && decide ((c.toNat : Int) ≤ 57)
def valN (l : List UInt8) : Nat := l.foldl (fun n c => 10 * n + (c.toNat - 48)) 0
def rdV (s : List UInt8) : Int := if (dgs s).length < s.length then -(valN (dgs s) : Int) else valN (dgs s)
def rdOk (s : List UInt8) : Bool := decide (1 ≤ (dgs s).length) && (decide ((dgs s).length ≤ 18) && ((dgs s).all isDig && decide (decS (rdV s) = s)))
def rdDec (s : List UInt8) : Int × Bool := if rdOk s then (rdV s, true) else (0, false)
end Am
/-! AmW3 -/
set_option linter.unusedVariables false
set_option linter.unusedSimpArgs false
set_option maxHeartbeats 4000000
set_option maxRecDepth 4000
namespace Am
open Go

def at8 (s : List UInt8) (i : Nat) : UInt8 := s.getD i 0
def parseW (w : List UInt8) : Option Trip := if w.length < 3 then none else if (rdDec (w.take (w.length - 2))).2 then some ((rdDec (w.take (w.length - 2))).1, kindB (at8 w (w.length - 2)), kindB (at8 w (w.length - 1))) else none
def parseL : List (List UInt8) → List Trip → Option (List Trip)
  | [], acc => some acc
  | w :: r, acc => match parseW w with
    | none => none
    | some t => parseL r (acc ++ [t])
def AllT (l : List Trip) : Prop := ∀ x ∈ l, T64 x
def rdRes (o : Option (List Trip)) : List Trip × Bool := match o with
  | none => ([], false)
  | some l => if okD l then (l, true) else ([], false)
def rdAns (s : List UInt8) : List Trip × Bool := if s = [] then ([], true) else rdRes (parseL (splitS 32 s) [])
end Am
/-! AmW4 -/
set_option linter.unusedVariables false
set_option linter.unusedSimpArgs false
set_option maxHeartbeats 4000000
set_option maxRecDepth 4000
namespace Am
open Go

end Am
/-! AmW5 -/
set_option linter.unusedVariables false
set_option linter.unusedSimpArgs false
set_option maxHeartbeats 4000000
set_option maxRecDepth 4000
namespace Am
open Go

@[simp high] theorem add_str {n : Nat} {a b : List UInt8} (h : a.length + b.length ≤ 4611686018427387904) : aBin .add n (S a) (S b) = some (S (a ++ b)) := by
  simp [h]
def panH (W H : Int) : List UInt8 := decS W ++ [120] ++ decS H ++ [58]
def panT (X : Pan) : List UInt8 := panH X.1 X.2.1 ++ X.2.2.map signB
def sgT (br : List Int) (k : Nat) : List UInt8 := (br.take k).map signB
def panText (X : Pan) : List UInt8 := if okP X then panT X else []
/-! ### journals -/
def deskT (X : Jrn) : List UInt8 := panT X.1 ++ [32] ++ decS X.2.1.length ++ [32] ++ decS X.2.2.length
def deskAns (X : Jrn) : List UInt8 := if okJ X then deskT X else []
end Am
/-! AmJ9 -/
set_option linter.unusedVariables false
set_option linter.unusedSimpArgs false
set_option maxHeartbeats 4000000
set_option maxRecDepth 4000
namespace Am
open Go

/-- JM with its parts named. -/
def JMx (h : Heap) (lo jb : Nat) (X : Jrn) (rest : List Value) (b1 z1 b2 z2 b3 z3 : Nat) : Prop :=
  h[jb]? = some ⟨[I X.1.1, I X.1.2.1, sl b1 0 X.1.2.2.length z1, sl b2 0 X.2.1.length z2, sl b3 0 X.2.2.length z3], true⟩ ∧ lo ≤ jb ∧ 0 < lo ∧ (z1 = 1 ∨ b1 = 0 ∧ X.1.2.2 = []) ∧
  (X.1.2.2 = [] ∨ h[b1]? = some ⟨ints X.1.2.2, true⟩ ∧ lo ≤ b1 ∧ b1 ≠ jb ∧ b1 ≠ b2 ∧ b1 ≠ b3) ∧
  (X.2.1 = [] ∧ b2 = 0 ∨ z2 = 3 ∧ h[b2]? = some ⟨trips X.2.1 ++ rest, true⟩ ∧ lo ≤ b2 ∧ b2 ≠ jb ∧ b2 ≠ b3) ∧
  (X.2.2 = [] ∧ b3 = 0 ∨ z3 = 3 ∧ h[b3]? = some ⟨trips X.2.2, true⟩ ∧ lo ≤ b3 ∧ b3 ≠ jb) ∧ Jwf X
theorem JMx.cells {h : Heap} {lo jb : Nat} {X : Jrn} {rest : List Value} {b1 z1 b2 z2 b3 z3 : Nat} (x : JMx h lo jb X rest b1 z1 b2 z2 b3 z3) :
    cell h jb 2 = some (sl b1 0 X.1.2.2.length z1) ∧ cell h jb 3 = some (sl b2 0 X.2.1.length z2) ∧ cell h jb 4 = some (sl b3 0 X.2.2.length z3) := by
  have := x.1
  simp [cell, this]
theorem Mod.tr {lo : Nat} {a b c : Heap} (x : Mod lo a.length a b) (y : Mod lo b.length b c) : Mod lo a.length a c :=
  ⟨Nat.le_trans x.1 y.1, fun k hk hn => by rw [y.2 k (Nat.lt_of_lt_of_le hk x.1) (by omega), x.2 k hk hn]⟩
end Am
/-! AmJ10 -/
set_option linter.unusedVariables false
set_option linter.unusedSimpArgs false
set_option maxHeartbeats 4000000
set_option maxRecDepth 4000
namespace Am
open Go

/-- All steps fit the branches; there are not many. -/
structure JK (X : Jrn) : Prop where
  p : ∀ t ∈ X.2.1, 0 ≤ t.1 ∧ t.1 < X.1.2.2.length
  f : ∀ t ∈ X.2.2, 0 ≤ t.1 ∧ t.1 < X.1.2.2.length
  n : X.2.1.length + X.2.2.length ≤ 50
theorem runB_keys : ∀ (l : List Trip) (br : List Int), (runB l br).isSome = true → ∀ t ∈ l, 0 ≤ t.1 ∧ t.1 < br.length
  | [], _, _ => by simp
  | s :: l, br, h => by
    unfold runB at h
    by_cases hc : (okStep br.length s && decide (at0 br s.1.toNat = s.2.2)) = true
    · rw [if_pos hc] at h
      have := runB_keys l _ h
      rw [List.length_set] at this
      intro t ht
      rcases List.mem_cons.1 ht with rfl | ht
      · exact (okStep_iff.1 (by simp at hc; exact hc.1)).1
      · exact this t ht
    · rw [if_neg hc] at h; simp at h
theorem runF_keys : ∀ (l : List Trip) (br : List Int), (runF l br).isSome = true → ∀ t ∈ l, 0 ≤ t.1 ∧ t.1 < br.length
  | [], _, _ => by simp
  | s :: l, br, h => by
    unfold runF at h
    by_cases hc : (okStep br.length s && decide (at0 br s.1.toNat = s.2.1)) = true
    · rw [if_pos hc] at h
      have := runF_keys l _ h
      rw [List.length_set] at this
      intro t ht
      rcases List.mem_cons.1 ht with rfl | ht
      · exact (okStep_iff.1 (by simp at hc; exact hc.1)).1
      · exact this t ht
    · rw [if_neg hc] at h; simp at h
theorem JK.of {X : Jrn} (h : okJ X = true) : JK X := by
  unfold okJ at h
  simp only [Bool.and_eq_true, decide_eq_true_eq] at h
  exact ⟨fun t ht => runB_keys _ _ h.2.2.1 t (by simpa using ht), runF_keys _ _ h.2.2.2, h.2.1⟩

def redoJ (X : Jrn) : Jrn := match X.2.2 with
  | [] => X
  | s :: f => ((X.1.1, X.1.2.1, X.1.2.2.set s.1.toNat s.2.2), X.2.1 ++ [s], f)
def redoAns (X : Jrn) : Jrn × Int := if okJ X then (if X.2.2 = [] then (noJ, 6) else (redoJ X, 0)) else (noJ, 1)
end Am
/-! AmJ11 -/
set_option linter.unusedVariables false
set_option linter.unusedSimpArgs false
set_option maxHeartbeats 4000000
set_option maxRecDepth 4000
namespace Am
open Go

/-- As Vo, with cells behind Past. -/
def VoJ (h : Heap) (lo hi : Nat) (v : Value) (X : Jrn) : Prop := ∃ b1 z1 b2 z2 b3 z3 rest,
  v = .agg #[I X.1.1, I X.1.2.1, sl b1 0 X.1.2.2.length z1, sl b2 0 X.2.1.length z2, sl b3 0 X.2.2.length z3] ∧ (z1 = 1 ∨ b1 = 0 ∧ X.1.2.2 = []) ∧
  (X.1.2.2 = [] ∨ h[b1]? = some ⟨ints X.1.2.2, true⟩ ∧ lo ≤ b1 ∧ b1 < hi ∧ b1 ≠ b2 ∧ b1 ≠ b3) ∧
  (X.2.1 = [] ∧ b2 = 0 ∨ z2 = 3 ∧ h[b2]? = some ⟨trips X.2.1 ++ rest, true⟩ ∧ lo ≤ b2 ∧ b2 < hi ∧ b2 ≠ b3) ∧
  (X.2.2 = [] ∧ b3 = 0 ∨ z3 = 3 ∧ h[b3]? = some ⟨trips X.2.2, true⟩ ∧ lo ≤ b3 ∧ b3 < hi) ∧ Jwf X
theorem VoJ.no {h : Heap} {lo hi : Nat} : VoJ h lo hi (.agg #[I 0, I 0, sl 0 0 0 0, sl 0 0 0 0, sl 0 0 0 0]) noJ :=
  ⟨0, 0, 0, 0, 0, 0, [], rfl, .inr ⟨rfl, rfl⟩, .inl rfl, .inl ⟨rfl, rfl⟩, .inl ⟨rfl, rfl⟩, by constructor <;> simp [noJ, I64]⟩
theorem VoJ.mod {h h' : Heap} {lo hi lo' hi' : Nat} {v : Value} {X : Jrn} (x : VoJ h lo hi v X) (m : Mod lo' hi' h h') (hd : hi ≤ lo' ∨ hi' ≤ lo) : VoJ h' lo hi v X := by
  obtain ⟨b1, z1, b2, z2, b3, z3, rest, e, hz1, i1, i2, i3, wf⟩ := x
  exact ⟨b1, z1, b2, z2, b3, z3, rest, e, hz1, i1.imp id fun e => ⟨by rw [m.2 _ (at_lt e.1) (by omega)]; exact e.1, e.2⟩, i2.imp id fun e => ⟨e.1, by rw [m.2 _ (at_lt e.2.1) (by omega)]; exact e.2.1, e.2.2⟩, i3.imp id fun e => ⟨e.1, by rw [m.2 _ (at_lt e.2.1) (by omega)]; exact e.2.1, e.2.2⟩, wf⟩
theorem VoJ.grow {h h' : Heap} {lo hi : Nat} {v : Value} {X : Jrn} (x : VoJ h lo hi v X) (g : Grows h h') : VoJ h' lo hi v X := by
  obtain ⟨b1, z1, b2, z2, b3, z3, rest, e, hz1, i1, i2, i3, wf⟩ := x
  exact ⟨b1, z1, b2, z2, b3, z3, rest, e, hz1, i1.imp id fun e => ⟨by rw [g.look (at_lt e.1)]; exact e.1, e.2⟩, i2.imp id fun e => ⟨e.1, by rw [g.look (at_lt e.2.1)]; exact e.2.1, e.2.2⟩, i3.imp id fun e => ⟨e.1, by rw [g.look (at_lt e.2.1)]; exact e.2.1, e.2.2⟩, wf⟩
theorem VoJ.wide {h : Heap} {lo hi lo' hi' : Nat} {v : Value} {X : Jrn} (x : VoJ h lo hi v X) (h1 : lo' ≤ lo) (h2 : hi ≤ hi') : VoJ h lo' hi' v X := by
  obtain ⟨b1, z1, b2, z2, b3, z3, rest, e, hz1, i1, i2, i3, wf⟩ := x
  exact ⟨b1, z1, b2, z2, b3, z3, rest, e, hz1, i1.imp id fun e => ⟨e.1, by omega, by omega, e.2.2.2⟩, i2.imp id fun e => ⟨e.1, e.2.1, by omega, by omega, e.2.2.2.2⟩, i3.imp id fun e => ⟨e.1, e.2.1, by omega, by omega⟩, wf⟩

theorem VoJ.vr {h : Heap} {lo hi : Nat} {v : Value} {X : Jrn} (x : VoJ h lo hi v X) : Vr h shJournal v X := by
  obtain ⟨⟨W, H, br⟩, p, f⟩ := X
  obtain ⟨b1, z1, b2, z2, b3, z3, rest, rfl, hz1, i1, i2, i3, w1, w2, x1, x2, x3, y1, y2, y3⟩ := x
  simp only at hz1 i1 i2 i3 w1 w2 x1 x2 x3 y1 y2 y3
  refine Vr.of_journal w1 w2 (Vr.of_ints hz1 (by rw [maxLen_eq]; simp only; omega) x1 (i1.imp id fun e => cellsAt_all e.1 (by simp [ints])))
    (Vr.of_trips (i2.elim (fun e => .inr ⟨e.2, e.1⟩) fun e => .inl e.1) (by rw [maxLen_eq]; simp only; omega) x2 (i2.imp (fun e => e.1) fun e => ?_))
    (Vr.of_trips (i3.elim (fun e => .inr ⟨e.2, e.1⟩) fun e => .inl e.1) (by rw [maxLen_eq]; simp only; omega) x3 (i3.imp (fun e => e.1) fun e => cellsAt_all e.2.1 (by rw [trips_len]; omega)))
  rw [cellsAt_of e.2.1 (by simp [trips_len]; omega)]
  simp [trips_len, Nat.mul_comm]

end Am
/-! AmJ12 -/
set_option linter.unusedVariables false
set_option linter.unusedSimpArgs false
set_option maxHeartbeats 4000000
set_option maxRecDepth 4000
namespace Am
open Go

def undoJ (X : Jrn) : Jrn := match X.2.1.reverse with
  | [] => X
  | s :: r => ((X.1.1, X.1.2.1, X.1.2.2.set s.1.toNat s.2.1), r.reverse, s :: X.2.2)
def undoAns (X : Jrn) : Jrn × Int := if okJ X then (if X.2.1 = [] then (noJ, 6) else (undoJ X, 0)) else (noJ, 1)
end Am
/-! AmJ13 -/
set_option linter.unusedVariables false
set_option linter.unusedSimpArgs false
set_option maxHeartbeats 4000000
set_option maxRecDepth 4000
namespace Am
open Go

def undoN : Nat → Jrn → Jrn
  | 0, X => X
  | k + 1, X => undoN k (undoJ X)
def redoN : Nat → Jrn → Jrn
  | 0, X => X
  | k + 1, X => redoN k (redoJ X)
def goJ (X : Jrn) (n : Nat) : Jrn := redoN (n - (undoN (X.2.1.length - n) X).2.1.length) (undoN (X.2.1.length - n) X)
def goAns (X : Jrn) (n : Int) : Jrn × Int := if okJ X then (if inR n 0 (X.2.1.length + X.2.2.length : Nat) then (goJ X n.toNat, 0) else (noJ, 2)) else (noJ, 1)
/-- A journal of ours on the way to its goal. -/
def Way (lo jb n : Nat) (u : Bool) (Z : Jrn) (tot : Nat) (h : Heap) (m : Nat) : Prop := ∃ Y rest, JM h lo jb Y rest ∧ JK Y ∧ Y.2.1.length + Y.2.2.length = tot ∧ m = (if u then Y.2.1.length - n else n - Y.2.1.length) ∧ Z = if u then undoN m Y else redoN m Y

end Am
/-! AmJ14 -/
set_option linter.unusedVariables false
set_option linter.unusedSimpArgs false
set_option maxHeartbeats 4000000
set_option maxRecDepth 4000
namespace Am
open Go

end Am
/-! AmJ15 -/
set_option linter.unusedVariables false
set_option linter.unusedSimpArgs false
set_option maxHeartbeats 4000000
namespace Am
open Go

end Am
/-! AmS1 -/
set_option linter.unusedVariables false
set_option linter.unusedSimpArgs false
set_option maxHeartbeats 4000000
set_option maxRecDepth 4000
namespace Am
open Go

/-- A source in a box of our own: its code lies behind it, and it has given at most m bytes. -/
def Src (h : Heap) (b m : Nat) : Prop := ∃ (cb co n z a : Nat) (s : Int), h[b]? = some ⟨[sl cb co n z, I a, .int .u64 s], true⟩ ∧ a ≤ m ∧ 0 ≤ s ∧ s < 18446744073709551616 ∧ (n = 0 ∨ cb < b) ∧ n ≤ 9223372036854775807 ∧ ∀ i, i < n → ∃ x : Nat, cell h cb (co + i) = some (.int .u8 x) ∧ x < 256
theorem Src.mono {h : Heap} {b m m' : Nat} (x : Src h b m) (hm : m ≤ m') : Src h b m' := by
  obtain ⟨cb, co, n, z, a, s, h1, h2, h3⟩ := x
  exact ⟨cb, co, n, z, a, s, h1, by omega, h3⟩
theorem Src.mod {h h' : Heap} {b m lo hi : Nat} (x : Src h b m) (md : Mod lo hi h h') (hb : b < lo) : Src h' b m := by
  obtain ⟨cb, co, n, z, a, s, h1, h2, h3, h4, h5, h6, h7⟩ := x
  have hl := at_lt h1
  refine ⟨cb, co, n, z, a, s, by rw [md.2 b hl (.inl hb)]; exact h1, h2, h3, h4, h5, h6, fun i hi => ?_⟩
  obtain ⟨x, e1, e2⟩ := h7 i hi
  exact ⟨x, by unfold cell at e1 ⊢; rw [md.2 cb (by omega) (.inl (by omega))]; exact e1, e2⟩
theorem Src.grow {h h' : Heap} {b m : Nat} (x : Src h b m) (g : Grows h h') : Src h' b m := by
  obtain ⟨cb, co, n, z, a, s, h1, h2, h3, h4, h5, h6, h7⟩ := x
  have hl := at_lt h1
  refine ⟨cb, co, n, z, a, s, by rw [g.look hl]; exact h1, h2, h3, h4, h5, h6, fun i hi => ?_⟩
  obtain ⟨x, e1, e2⟩ := h7 i hi
  exact ⟨x, g.cell e1, e2⟩
theorem wrap_u64 (n : Int) : 0 ≤ IntKind.u64.wrap n ∧ IntKind.u64.wrap n < 18446744073709551616 := by
  simp only [IntKind.wrap, IntKind.signed, IntKind.bits]
  have h1 := Int.emod_nonneg n (show (2 ^ 64 : Int) ≠ 0 by decide)
  have h2 := Int.emod_lt_of_pos n (show (0 : Int) < 2 ^ 64 by decide)
  simp at *
  omega
theorem wrapUs {n : Int} (h1 : 0 ≤ n) (h2 : n < 18446744073709551616) : IntKind.u64.wrap n = n := wrap_unsigned (M := 18446744073709551616) rfl (by decide) h1 h2
theorem and_255 (a : Int) : ∃ x : Nat, bitsOp .u64 (· &&& ·) a 255 = .int .u64 x ∧ x < 256 := by
  obtain ⟨x, hx⟩ : ∃ x : Nat, x = (BitVec.ofInt 64 a &&& BitVec.ofInt 64 255).toNat := ⟨_, rfl⟩
  have hb : x < 256 := by
    rw [hx, BitVec.toNat_and]
    have : (BitVec.ofInt 64 255).toNat = 255 := by decide
    rw [this]
    have := @Nat.and_le_right (BitVec.ofInt 64 a).toNat 255
    omega
  refine ⟨x, ?_, hb⟩
  show Value.int .u64 (IntKind.u64.wrap ((BitVec.ofInt 64 a &&& BitVec.ofInt 64 255).toNat : Int)) = _
  rw [← hx, wrapUs (by omega) (by omega)]

theorem c5 (h : Heap) (b m : Nat) (hs : Src h b m) (hm : m ≤ 1099511627776) : ACall Gam 5 [pt b 0] h fun r h' => ∃ x : Nat, r = I x ∧ x < 256 ∧ Mod b (b + 1) h h' ∧ h'.length = h.length ∧ Src h' b (m + 1) := by
  obtain ⟨cb, co, n, z, a, s, h1, h2, h3, h4, h5, h6, h7⟩ := hs
  have hl := at_lt h1
  have k0 : cell h b 0 = some (sl cb co n z) := by simp [cell, h1]
  have k1 : cell h b 1 = some (I a) := by simp [cell, h1]
  have k2 : cell h b 2 = some (.int .u64 s) := by simp [cell, h1]
  refine ACall_intro g5 rfl ?_
  unfold fn5
  rw [awp_seq, awp_reg]
  generalize hK : seqQ Gam _ _ 0 = K
  simp (disch := omega)
  subst hK
  simp only [seqQ_zero]
  rw [awp_seq, awp_reg]
  generalize hK : seqQ Gam _ _ 0 = K
  simp (disch := omega)
  subst hK
  simp only [seqQ_zero]
  rw [awp_seq]
  generalize hK : seqQ Gam _ _ = K
  have step : ∀ (σ : Nat → Value) (x : Nat), x < 256 → σ 0 = pt b 0 → σ 3 = I x → K 0 σ h := by
    intro σ x hx q0 q3
    subst hK
    simp only [seqQ_zero]
    rw [awp_seq, awp_reg]
    generalize hK : seqQ Gam _ _ 0 = K
    have s1 := store_one (v := I ((a : Int) + 1)) (o := 1) h1 (by simp)
    obtain ⟨h', eh⟩ : ∃ h', h' = h.set b ⟨[sl cb co n z, I ((a : Int) + 1), .int .u64 s], true⟩ := ⟨_, rfl⟩
    simp only [List.set_cons_succ, List.set_cons_zero, ← eh] at s1
    simp (disch := omega) [q0, k1, s1, wrap64]
    subst hK
    simp only [seqQ_zero]
    have hb' : h'[b]? = some ⟨[sl cb co n z, I ((a : Int) + 1), .int .u64 s], true⟩ := by rw [eh]; simp [hl]
    have k0 : cell h' b 0 = some (sl cb co n z) := by simp [cell, hb']
    have k1 : cell h' b 1 = some (I ((a : Int) + 1)) := by simp [cell, hb']
    have k2 : cell h' b 2 = some (.int .u64 s) := by simp [cell, hb']
    rw [awp_seq, awp_reg]
    generalize hK : seqQ Gam _ _ 0 = K
    simp (disch := omega) [q0, q3, k2]
    obtain ⟨t, ht⟩ : ∃ t, t = IntKind.u64.wrap (IntKind.u64.wrap (IntKind.u64.wrap (s * 6364136223846793005) + IntKind.u64.wrap ↑x) + 1442695040888963407) := ⟨_, rfl⟩
    have tb := wrap_u64 (IntKind.u64.wrap (IntKind.u64.wrap (s * 6364136223846793005) + IntKind.u64.wrap ↑x) + 1442695040888963407)
    rw [← ht] at tb ⊢
    have s2 := store_one (v := .int .u64 t) (o := 2) hb' (by simp)
    obtain ⟨h2', eh2⟩ : ∃ h2', h2' = h'.set b ⟨[sl cb co n z, I ((a : Int) + 1), .int .u64 t], true⟩ := ⟨_, rfl⟩
    simp only [List.set_cons_succ, List.set_cons_zero, ← eh2] at s2
    rw [s2]
    have hb2 : h2'[b]? = some ⟨[sl cb co n z, I ((a : Int) + 1), .int .u64 t], true⟩ := by rw [eh2]; simp [at_lt hb']
    have k0 : cell h2' b 0 = some (sl cb co n z) := by simp [cell, hb2]
    have k1 : cell h2' b 1 = some (I ((a : Int) + 1)) := by simp [cell, hb2]
    have k2 : cell h2' b 2 = some (.int .u64 t) := by simp [cell, hb2]
    have hl2 : h2'.length = h.length := by rw [eh2, eh]; simp
    have ho : ∀ c, c ≠ b → h2'[c]? = h[c]? := fun c hc => by rw [eh2, set_other hc, eh, set_other hc]
    have md : Mod b (b + 1) h h2' := ⟨by omega, fun c hc hn => ho c (by omega)⟩
    have src : Src h2' b (m + 1) := ⟨cb, co, n, z, a + 1, t, by rw [hb2]; rfl, by omega, tb.1, tb.2, h5, h6, fun i hi => by
      obtain ⟨x, e1, e2⟩ := h7 i hi
      exact ⟨x, by unfold cell at e1 ⊢; rw [ho cb (by omega)]; exact e1, e2⟩⟩
    simp (disch := omega)
    subst hK
    simp only [seqQ_zero]
    rw [awp_seq]
    generalize hK : seqQ Gam _ _ = K
    simp (disch := omega) [q0, k0, k1]
    refine fork_dec (fun h3 => ?_) (fun h3 => ?_)
    · subst hK
      simp (disch := omega) [q3]
      exact ⟨x, rfl, hx, md, hl2, src⟩
    · simp (disch := omega)
      subst hK
      simp only [seqQ_zero]
      obtain ⟨y, ey, hy⟩ := and_255 (t.fdiv (2 ^ min 40 IntKind.u64.bits))
      simp (disch := omega) [q0, k2, ey, wrap64]
      exact ⟨y, rfl, hy, md, hl2, src⟩
  simp (disch := omega) [k0, k1]
  refine fork_dec (fun h3 => ?_) (fun h3 => ?_)
  · obtain ⟨x, e1, e2⟩ := h7 a (by omega)
    simp (disch := omega) [k0, k1, e1, h3, wrap64]
    exact step _ x e2 (by simp) (by simp)
  · simp (disch := omega)
    exact step _ 0 (by omega) (by simp) (by simp)
/-- What a draw leaves: a number from 0 to n - 1. -/
theorem c7 (h : Heap) (b m : Nat) (n : Int) (hs : Src h b m) (hm : m ≤ 1000000000) (hn : I64 n) : ACall Gam 7 [pt b 0, I n] h fun r h' => ∃ x : Nat, r = I x ∧ (n ≤ 1 → x = 0) ∧ (1 < n → (x : Int) < n) ∧ Mod b (b + 1) h h' ∧ h'.length = h.length ∧ Src h' b (m + 2) := by
  refine ACall_intro g7 rfl ?_
  unfold fn7
  rw [awp_seq, awp_reg]
  generalize hK : seqQ Gam _ _ 0 = K
  simp (disch := omega)
  subst hK
  simp only [seqQ_zero]
  rw [awp_seq]
  generalize hK : seqQ Gam _ _ = K
  simp (disch := omega)
  refine fork_dec (fun h1 => ?_) (fun h1 => ?_)
  · subst hK
    simp (disch := omega)
    exact ⟨0, rfl, fun _ => rfl, fun h => by omega, Mod.refl _ _ _, hs.mono (by omega)⟩
  simp (disch := omega)
  subst hK
  simp only [seqQ_zero]
  rw [awp_seq, awp_reg]
  generalize hK : seqQ Gam _ _ 0 = K
  simp (disch := omega)
  refine callW_of (c5 h b m hs (by omega)) ?_
  rintro _ h2 ⟨x, rfl, hx, md, hl, hs2⟩
  simp (disch := omega)
  subst hK
  simp only [seqQ_zero]
  rw [awp_seq]
  generalize hK : seqQ Gam _ _ = K
  have fin : ∀ (σ : Nat → Value) (h' : Heap) (y : Nat), σ 1 = I n → σ 5 = I y → y < 100000 → Mod b (b + 1) h h' → h'.length = h.length → Src h' b (m + 2) → K 0 σ h' := by
    intro σ h' y q1 q5 hy md hl hs'
    subst hK
    simp only [seqQ_zero]
    obtain ⟨nn, rfl⟩ := Int.eq_ofNat_of_zero_le (show 0 ≤ n by omega)
    have e : (y : Int).tmod nn = ((y % nn : Nat) : Int) := by rw [tmod_pos (by omega), Int.natCast_emod]
    have hn0 : nn ≠ 0 := by omega
    have lt := Nat.mod_lt y (show 0 < nn by omega)
    obtain ⟨r, hr⟩ : ∃ r, r = y % nn := ⟨_, rfl⟩
    rw [← hr] at e lt
    simp (disch := omega) [q1, q5, e, hn0]
    exact ⟨r, rfl, by omega, by omega, md, hl, hs'⟩
  simp (disch := omega)
  refine fork_dec (fun h3 => ?_) (fun h3 => ?_)
  · simp (disch := omega) [wrap64]
    refine callW_of (c5 h2 b (m + 1) hs2 (by omega)) ?_
    rintro _ h4 ⟨y, rfl, hy, md2, hl2, hs4⟩
    simp (disch := omega) [wrap64]
    exact fin _ h4 (x * 256 + y) (by simp) (by simp) (by omega) (md.trans md2) (by omega) (hs4.mono (by omega))
  · simp (disch := omega)
    exact fin _ h2 x (by simp) (by simp) (by omega) md hl (hs2.mono (by omega))
theorem c6 (h : Heap) (b m : Nat) (n : Int) (hs : Src h b m) (hm : m ≤ 1000000000) (hn : I64 n) : ACall Gam 6 [pt b 0, I n] h fun r h' => ∃ x : Bool, r = B x ∧ Mod b (b + 1) h h' ∧ h'.length = h.length ∧ Src h' b (m + 2) := by
  refine ACall_intro g6 rfl ?_
  unfold fn6
  simp (disch := omega)
  refine callW_of (c7 h b m n hs hm hn) ?_
  rintro _ h2 ⟨x, rfl, _, _, md, hl, hs2⟩
  simp (disch := omega)
  exact ⟨by omega, md, hl, hs2⟩
def shBytes : Shp := .slice (.int .u8)
theorem byte_at {h : Heap} {v : Value} {X : List Int} (hv : Vr h shBytes v X) : ∃ b o z, v = sl b o X.length z ∧ X.length ≤ 9223372036854775807 ∧ ∀ i, i < X.length → ∃ x : Nat, cell h b (o + i) = some (.int .u8 x) ∧ x < 256 := by
  obtain ⟨b, o, z, rfl, hz, hm, hel⟩ := hv.slice
  refine ⟨b, o, z, rfl, by rw [← maxLen_eq]; exact hm, fun i hi => ?_⟩
  obtain ⟨c, hc, ⟨rfl, w⟩⟩ := hel i hi
  have e := (cell_in (i := 0) hc (by simp [Shp.n])).1
  have w' : 0 ≤ X[i] ∧ X[i] < 256 := by
    simp [Lit.wf, IntKind.min, IntKind.max, IntKind.signed, IntKind.bits] at w
    omega
  refine ⟨X[i].toNat, ?_, by omega⟩
  simp only [Shp.n, Nat.mul_one, Nat.add_zero] at e
  rw [e, Int.toNat_of_nonneg w'.1]
  rfl
theorem c431 (h : Heap) (v : Value) (X : List Int) (hv : Vr h shBytes v X) : ACall Gam 431 [v] h fun r h' => r = pt h.length 0 ∧ Grows h h' ∧ h'.length = h.length + 1 ∧ Src h' h.length 0 := by
  obtain ⟨b, o, z, rfl, hm, hel⟩ := byte_at hv
  refine ACall_intro g431 rfl ?_
  unfold fn431
  simp (disch := omega)
  refine ⟨⟨_, rfl⟩, b, o, X.length, z, 0, 0, by simp, by omega, by omega, by omega, ?_, hm, fun i hi => ?_⟩
  · by_cases h0 : X.length = 0
    · exact .inl h0
    · obtain ⟨x, e, _⟩ := hel 0 (by omega)
      right
      unfold cell at e
      cases hk : h[b]? with
      | none => rw [hk] at e; simp at e
      | some k => exact at_lt hk
  · obtain ⟨x, e1, e2⟩ := hel i hi
    exact ⟨x, Grows.cell ⟨_, rfl⟩ e1, e2⟩
end Am
/-! AmS2 -/
set_option linter.unusedVariables false
set_option linter.unusedSimpArgs false
set_option maxHeartbeats 4000000
set_option maxRecDepth 4000
namespace Am
open Go

def IntsAt (h : Heap) (b : Nat) (l : List Int) : Prop := h[b]? = some ⟨ints l, true⟩
end Am
/-! AmS3 -/
set_option linter.unusedVariables false
set_option linter.unusedSimpArgs false
set_option maxHeartbeats 4000000
set_option maxRecDepth 4000
namespace Am
open Go

theorem JM.mod {h h' : Heap} {lo jb lo' hi' : Nat} {X : Jrn} {rest : List Value} (x : JM h lo jb X rest) (m : Mod lo' hi' h h') (hd : hi' ≤ lo) : JM h' lo jb X rest := by
  obtain ⟨b1, z1, b2, z2, b3, z3, hjb, hlo, hpos, hz1, i1, i2, i3, wf⟩ := x
  exact ⟨b1, z1, b2, z2, b3, z3, by rw [m.2 _ (at_lt hjb) (by omega)]; exact hjb, hlo, hpos, hz1, i1.imp id fun e => ⟨by rw [m.2 _ (at_lt e.1) (by omega)]; exact e.1, e.2⟩, i2.imp id fun e => ⟨e.1, by rw [m.2 _ (at_lt e.2.1) (by omega)]; exact e.2.1, e.2.2⟩, i3.imp id fun e => ⟨e.1, by rw [m.2 _ (at_lt e.2.1) (by omega)]; exact e.2.1, e.2.2⟩, wf⟩
theorem c433 (h : Heap) (a b : Int) : ACall Gam 433 [I a, I b] h fun r h' => r = I (if b < a then a else b) ∧ h' = h := by
  refine ACall_intro g433 rfl ?_
  unfold fn433
  simp (disch := omega)
  refine fork_dec (fun h3 => ?_) (fun h3 => ?_)
  · rw [if_pos (by omega)]; simp (disch := omega)
  · rw [if_neg (by omega)]; simp (disch := omega)
/-- A journal of ours that is valid. -/
def OwnJ (h : Heap) (lo jb c : Nat) : Prop := ∃ X rest, JM h lo jb X rest ∧ okJ X = true ∧ X.2.1.length + X.2.2.length ≤ c

end Am
/-! AmS4 -/
set_option linter.unusedVariables false
set_option linter.unusedSimpArgs false
set_option maxHeartbeats 4000000
set_option maxRecDepth 4000
namespace Am
open Go

end Am
/-! AmS5 -/
set_option linter.unusedVariables false
set_option linter.unusedSimpArgs false
set_option maxHeartbeats 4000000
set_option maxRecDepth 4000
namespace Am
open Go

theorem c4 (h : Heap) (b m lb : Nat) (L : List Int) (hs : Src h b m) (hm : m ≤ 100000000) (hl : h[lb]? = some ⟨ints L, true⟩) (hne : lb ≠ b) (h0 : 0 < L.length) (h1 : L.length ≤ 200) :
    ACall Gam 4 [pt b 0, sl lb 0 L.length 1] h fun r h' => ∃ x ∈ L, r = I x ∧ Mod b (b + 1) h h' ∧ h'.length = h.length ∧ Src h' b (m + 2) := by
  refine ACall_intro g4 rfl ?_
  unfold fn4
  rw [awp_seq, awp_reg]
  generalize hK : seqQ Gam _ _ 0 = K
  simp (disch := omega)
  subst hK
  simp only [seqQ_zero]
  rw [awp_seq, awp_reg]
  generalize hK : seqQ Gam _ _ 0 = K
  simp (disch := omega)
  refine callW_of (c7 h b m L.length hs (by omega) (by unfold I64; omega)) ?_
  rintro _ h2 ⟨k, rfl, k1, k2, md, l2, hs2⟩
  have hk : k < L.length := by
    by_cases e : L.length = 1
    · have := k1 (by omega); omega
    · have := k2 (by omega); omega
  have hb2 : h2[lb]? = some ⟨ints L, true⟩ := by rw [md.2 lb (at_lt hl) (by omega)]; exact hl
  have cb := cell_int hb2 hk
  simp (disch := omega) [hk, cb]
  subst hK
  simp only [seqQ_zero]
  simp (disch := omega)
  exact ⟨at0 L k, by rw [at0_of hk]; exact List.getElem_mem hk, rfl, md, l2, hs2⟩
theorem c269 (h : Heap) (v : Value) (X : List Int) (hv : Vr h shBytes v X) : ACall Gam 269 [v] h fun r h' => r = B (decide (4096 < X.length)) ∧ h' = h := by
  obtain ⟨b, o, z, rfl, hm, _⟩ := byte_at hv
  refine ACall_intro g269 rfl ?_
  unfold fn269
  simp (disch := omega)
  omega
end Am
/-! AmS6 -/
set_option linter.unusedVariables false
set_option linter.unusedSimpArgs false
set_option maxHeartbeats 4000000
set_option maxRecDepth 4000
namespace Am
open Go

end Am
/-! AmY1 -/
set_option linter.unusedVariables false
set_option linter.unusedSimpArgs false
set_option maxHeartbeats 4000000
set_option maxRecDepth 4000
namespace Am
open Go

/-- Where a symmetry moves a point. -/
def mapX (W H x y s : Nat) : Nat :=
  let x1 := if 4 ≤ s then y else x
  let w := if 4 ≤ s then H else W
  if s % 2 = 1 then 2 * w - x1 else x1
def mapY (W H x y s : Nat) : Nat :=
  let y1 := if 4 ≤ s then x else y
  let h := if 4 ≤ s then W else H
  if s / 2 % 2 = 1 then 2 * h - y1 else y1
def mapW (W H s : Nat) : Nat := if 4 ≤ s then H else W
def mapH (W H s : Nat) : Nat := if 4 ≤ s then W else H
/-- A break as a symmetry moves it. -/
def kindM (k : Int) (s : Nat) : Int := if 4 ≤ s ∧ k ≠ 0 then 3 - k else k
noncomputable def idxM (W H s k : Nat) : Nat := numP (mapW W H s) (mapX W H (thePt W H k).1 (thePt W H k).2 s) (mapY W H (thePt W H k).1 (thePt W H k).2 s)
noncomputable def mapSt (W H s : Nat) (br : List Int) : Nat → List Int
  | 0 => List.replicate (rowN (mapW W H s) (2 * mapH W H s)) 0
  | k + 1 => (mapSt W H s br k).set (idxM W H s k) (kindM (at0 br k) s)
noncomputable def mapP (X : Pan) (s : Nat) : Pan := ((mapW X.1.toNat X.2.1.toNat s : Nat), (mapH X.1.toNat X.2.1.toNat s : Nat), mapSt X.1.toNat X.2.1.toNat s X.2.2 X.2.2.length)
theorem OkP.row {X : Pan} (ok : OkP X) : X.2.2.length = rowN X.1.toNat (2 * X.2.1.toNat) := by
  have h1 := ok.w; have h2 := ok.h; have h3 := ok.n
  have := rowN_end (W := X.1.toNat) (by omega) (H := X.2.1.toNat) (by omega) (by omega) (by omega)
  rw [Int.toNat_of_nonneg (by omega), Int.toNat_of_nonneg (by omega)] at this
  unfold inner at h3
  omega
/-! ### the order of panels -/
def cmpI (a b : Int) : Int := if a < b then -1 else if b < a then 1 else 0
def cmpL : List Int → List Int → Int
  | [], [] => 0
  | [], _ :: _ => -1
  | _ :: _, [] => 1
  | a :: l, b :: m => if cmpI a b = 0 then cmpL l m else cmpI a b
def cmpP (X Y : Pan) : Int := if cmpI X.1 Y.1 ≠ 0 then cmpI X.1 Y.1 else if cmpI X.2.1 Y.2.1 ≠ 0 then cmpI X.2.1 Y.2.1 else cmpL X.2.2 Y.2.2
noncomputable def canonF (X : Pan) : Nat → Pan
  | 0 => X
  | s + 1 => if cmpP (mapP X (s + 1)) (canonF X s) < 0 then mapP X (s + 1) else canonF X s
noncomputable def canonP (X : Pan) : Pan := canonF X 7
theorem OkP.siz {X : Pan} (ok : OkP X) : X.2.2.length ≤ 128 := by
  have h1 := ok.w; have h2 := ok.h
  rw [ok.row]
  exact rowN_le (by omega) (by omega)
end Am
/-! AmY7 -/
set_option linter.unusedVariables false
set_option linter.unusedSimpArgs false
set_option maxHeartbeats 4000000
set_option maxRecDepth 4000
namespace Am
open Go

section
variable {α : Type} (f R : α → α) (seg : α → Nat) (V : α → Prop) (N : Nat)
def itW (f : α → α) : Nat → α → α
  | 0, w => w
  | k + 1, w => f (itW f k w)
theorem itW_add {f : α → α} (i j : Nat) (w : α) : itW f (i + j) w = itW f j (itW f i w) := by
  induction j with
  | zero => rfl
  | succ j ih => rw [← Nat.add_assoc]; simp only [itW]; rw [ih]
/-- What makes the curves of walkers closed. -/
structure Walks : Prop where
  vf : ∀ w, V w → V (f w)
  vr : ∀ w, V w → V (R w)
  rr : ∀ w, R (R w) = w
  fr : ∀ w, V w → f (R (f w)) = R w
  ne : ∀ w, V w → f w ≠ R w
  nr : ∀ w, V w → R w ≠ w
  sg : ∀ w v, V w → V v → (seg w = seg v ↔ w = v ∨ w = R v)
  lt : ∀ w, V w → seg w < N
variable {f R seg V N}
theorem Walks.vi (a : Walks f R seg V N) {w : α} (h : V w) : ∀ k, V (itW f k w)
  | 0 => h
  | k + 1 => a.vf _ (a.vi h k)
theorem Walks.inj (a : Walks f R seg V N) {w v : α} (h1 : V w) (h2 : V v) (e : f w = f v) : w = v := by
  have e1 := a.fr w h1
  have e2 := a.fr v h2
  rw [e, e2] at e1
  rw [← a.rr w, ← e1, a.rr]
/-- A walker turned back walks back. -/
theorem Walks.back (a : Walks f R seg V N) {w : α} (h : V w) : ∀ k, itW f k (R (itW f k w)) = R w
  | 0 => rfl
  | k + 1 => by
    have e := a.fr _ (a.vi h k)
    have := a.back h k
    rw [show k + 1 = 1 + k by omega, itW_add, Nat.add_comm]
    simp only [itW]
    rw [e]; exact this
theorem Walks.injI (a : Walks f R seg V N) {u v : α} (h : V u) (h' : V v) : ∀ k, itW f k u = itW f k v → u = v
  | 0, e => e
  | k + 1, e => a.injI h h' k (a.inj (a.vi h k) (a.vi h' k) e)
theorem Walks.never (a : Walks f R seg V N) {w : α} (h : V w) (m : Nat) : itW f m w ≠ R w := by
  intro e
  rcases Nat.mod_two_eq_zero_or_one m with hm | hm
  · obtain ⟨k, rfl⟩ : ∃ k, m = k + k := ⟨m / 2, by omega⟩
    rw [itW_add] at e
    have hb := a.back h k
    rw [← e] at hb
    have := a.injI (a.vr _ (a.vi h k)) (a.vi h k) k hb
    exact a.nr _ (a.vi h k) this
  · obtain ⟨k, rfl⟩ : ∃ k, m = k + 1 + k := ⟨m / 2, by omega⟩
    rw [itW_add] at e
    have hb := a.back h k
    rw [← e] at hb
    have := a.injI (a.vr _ (a.vi h k)) (a.vi h (k + 1)) k hb
    exact a.ne _ (a.vi h k) this.symm
theorem Walks.same (a : Walks f R seg V N) {w : α} (h : V w) {i j : Nat} (hij : i ≤ j) (e : seg (itW f i w) = seg (itW f j w)) : itW f (j - i) w = w := by
  have hi := a.vi h i
  have hj := a.vi h j
  rcases (a.sg _ _ hj hi).1 e.symm with q | q
  · have : itW f i (itW f (j - i) w) = itW f i w := by
      rw [← itW_add, show j - i + i = j by omega, q]
    exact a.injI (a.vi h (j - i)) h i this
  · exfalso
    refine a.never hi (j - i) ?_
    rw [← itW_add, show i + (j - i) = j by omega]; exact q
theorem pigeon : ∀ (n : Nat) (g : Nat → Nat), (∀ i, i ≤ n → g i < n) → ∃ i j, i < j ∧ j ≤ n ∧ g i = g j
  | 0, g, hb => by have := hb 0 (Nat.le_refl _); omega
  | n + 1, g, hb => by
    by_cases q : ∃ i, i ≤ n ∧ g i = g (n + 1)
    · obtain ⟨i, h1, h2⟩ := q
      exact ⟨i, n + 1, by omega, Nat.le_refl _, h2⟩
    · have hc := hb (n + 1) (Nat.le_refl _)
      have hne : ∀ i, i ≤ n → g i ≠ g (n + 1) := fun i hi e => q ⟨i, hi, e⟩
      obtain ⟨i, j, h1, h2, h3⟩ := pigeon n (fun i => if g (n + 1) < g i then g i - 1 else g i) (fun i hi => by
        have := hne i hi
        have := hb i (by omega)
        split <;> omega)
      have e1 := hne i (by omega)
      have e2 := hne j (by omega)
      refine ⟨i, j, h1, by omega, ?_⟩
      split at h3 <;> split at h3 <;> omega
theorem least {P : Nat → Prop} : ∀ n, P n → ∃ m, m ≤ n ∧ P m ∧ ∀ k, k < m → ¬ P k := by
  intro n
  induction n using Nat.strongRecOn with
  | ind n ih =>
    intro hp
    by_cases q : ∃ k, k < n ∧ P k
    · obtain ⟨k, h1, h2⟩ := q
      obtain ⟨m, a, b, c⟩ := ih k h1 h2
      exact ⟨m, by omega, b, c⟩
    · exact ⟨n, Nat.le_refl _, hp, fun k hk hx => q ⟨k, hk, hx⟩⟩
/-- The length of a walker's curve. -/
theorem Walks.period (a : Walks f R seg V N) {w : α} (h : V w) : ∃ n, 0 < n ∧ n ≤ N ∧ itW f n w = w := by
  obtain ⟨i, j, h1, h2, h3⟩ := pigeon N (fun i => seg (itW f i w)) fun i _ => a.lt _ (a.vi h i)
  exact ⟨j - i, by omega, by omega, a.same h (by omega) h3⟩
open Classical in
noncomputable def perW (f : α → α) (w : α) : Nat := if h : ∃ n, (0 < n ∧ itW f n w = w) ∧ ∀ k, k < n → ¬ (0 < k ∧ itW f k w = w) then Classical.choose h else 0
theorem Walks.per (a : Walks f R seg V N) {w : α} (h : V w) : 0 < perW f w ∧ perW f w ≤ N ∧ itW f (perW f w) w = w ∧ ∀ j, 0 < j → j < perW f w → itW f j w ≠ w := by
  obtain ⟨n, h1, h2, h3⟩ := a.period h
  obtain ⟨m, m1, m2, m3⟩ := least (P := fun n => 0 < n ∧ itW f n w = w) n ⟨h1, h3⟩
  have e : ∃ n, (0 < n ∧ itW f n w = w) ∧ ∀ k, k < n → ¬ (0 < k ∧ itW f k w = w) := ⟨m, m2, m3⟩
  unfold perW
  rw [dif_pos e]
  obtain ⟨p1, p2⟩ := Classical.choose_spec e
  refine ⟨p1.1, ?_, p1.2, fun j hj hl hx => p2 j hl ⟨hj, hx⟩⟩
  by_cases q : Classical.choose e ≤ N
  · exact q
  · exact absurd ⟨h1, h3⟩ (p2 n (by omega))
/-! ### the curve of each segment -/
def paint (f : α → α) (seg : α → Nat) (w : α) (c : Int) (o : List Int) : Nat → List Int
  | 0 => o
  | k + 1 => (paint f seg w c o k).set (seg (itW f k w)) c
theorem paint_len {w : α} {c : Int} {o : List Int} : ∀ k, (paint f seg w c o k).length = o.length
  | 0 => rfl
  | k + 1 => by simp [paint, paint_len k]
theorem paint_at {w : α} {c : Int} {o : List Int} {s : Nat} (hs : s < o.length) : ∀ k, at0 (paint f seg w c o k) s = if ∃ j, j < k ∧ seg (itW f j w) = s then c else at0 o s
  | 0 => by simp [paint]
  | k + 1 => by
    simp only [paint]
    have ih := paint_at (w := w) (c := c) hs k
    have hl := paint_len (f := f) (seg := seg) (w := w) (c := c) (o := o) k
    by_cases e : seg (itW f k w) = s
    · rw [if_pos ⟨k, by omega, e⟩]
      unfold at0
      rw [List.getD_eq_getElem?_getD, e, List.getElem?_set_self (by omega)]; rfl
    · have : at0 ((paint f seg w c o k).set (seg (itW f k w)) c) s = at0 (paint f seg w c o k) s := by
        unfold at0
        rw [List.getD_eq_getElem?_getD, List.getElem?_set_ne e, ← List.getD_eq_getElem?_getD]
      rw [this, ih]
      by_cases q : ∃ j, j < k ∧ seg (itW f j w) = s
      · obtain ⟨j, a, b⟩ := q
        rw [if_pos ⟨j, a, b⟩, if_pos ⟨j, by omega, b⟩]
      · rw [if_neg q, if_neg]
        rintro ⟨j, a, b⟩
        by_cases ej : j = k
        · exact e (ej ▸ b)
        · exact q ⟨j, by omega, b⟩
/-- Owned segments are owned with all of their curve. -/
def Closed (f : α → α) (seg : α → Nat) (V : α → Prop) (o : List Int) : Prop := ∀ w, V w → (0 ≤ at0 o (seg w) ↔ 0 ≤ at0 o (seg (f w)))
theorem Closed.it (hV : ∀ w, V w → V (f w)) {o : List Int} (a : Closed f seg V o) {w : α} (h : V w) : ∀ k, V (itW f k w) ∧ (0 ≤ at0 o (seg w) ↔ 0 ≤ at0 o (seg (itW f k w)))
  | 0 => ⟨h, Iff.rfl⟩
  | k + 1 => by
    obtain ⟨h1, h2⟩ := Closed.it hV a h k
    exact ⟨hV _ h1, h2.trans (a _ h1)⟩
theorem Walks.closed (a : Walks f R seg V N) {w : α} (h : V w) {c : Int} (hc : 0 ≤ c) {o : List Int} (ho : o.length = N) (cl : Closed f seg V o) : Closed f seg V (paint f seg w c o (perW f w)) := by
  obtain ⟨p1, p2, p3, p4⟩ := a.per h
  intro v hv
  rw [paint_at (by rw [ho]; exact a.lt v hv), paint_at (by rw [ho]; exact a.lt _ (a.vf v hv))]
  have key : (∃ j, j < perW f w ∧ seg (itW f j w) = seg v) ↔ ∃ j, j < perW f w ∧ seg (itW f j w) = seg (f v) := by
    constructor
    · rintro ⟨j, h1, h2⟩
      rcases (a.sg _ _ (a.vi h j) hv).1 h2 with q | q
      · by_cases e : j + 1 < perW f w
        · exact ⟨j + 1, e, by simp only [itW]; rw [q]⟩
        · refine ⟨0, p1, ?_⟩
          have : itW f (j + 1) w = w := by rw [show j + 1 = perW f w by omega]; exact p3
          simp only [itW] at this ⊢
          rw [← q, this]
      · -- f^j w = R v, so R (f v) = f^(j-1) w
        have hb : f (R (f v)) = R v := a.fr v hv
        by_cases e : j = 0
        · subst e
          refine ⟨perW f w - 1, by omega, (a.sg _ _ (a.vi h _) (a.vf v hv)).2 (.inr ?_)⟩
          refine a.inj (a.vi h _) (a.vr _ (a.vf v hv)) ?_
          rw [hb, ← q]
          have : itW f (perW f w - 1 + 1) w = w := by rw [show perW f w - 1 + 1 = perW f w by omega]; exact p3
          exact this
        · refine ⟨j - 1, by omega, (a.sg _ _ (a.vi h _) (a.vf v hv)).2 (.inr ?_)⟩
          refine a.inj (a.vi h _) (a.vr _ (a.vf v hv)) ?_
          rw [hb, ← q]
          show itW f (j - 1 + 1) w = _
          rw [show j - 1 + 1 = j by omega]
    · rintro ⟨j, h1, h2⟩
      rcases (a.sg _ _ (a.vi h j) (a.vf v hv)).1 h2 with q | q
      · by_cases e : j = 0
        · subst e
          refine ⟨perW f w - 1, by omega, (a.sg _ _ (a.vi h _) hv).2 (.inl ?_)⟩
          refine a.inj (a.vi h _) hv ?_
          rw [← q]
          show itW f (perW f w - 1 + 1) w = _
          rw [show perW f w - 1 + 1 = perW f w by omega]; exact p3
        · refine ⟨j - 1, by omega, (a.sg _ _ (a.vi h _) hv).2 (.inl ?_)⟩
          refine a.inj (a.vi h _) hv ?_
          rw [← q]
          show itW f (j - 1 + 1) w = _
          rw [show j - 1 + 1 = j by omega]
      · -- f^j w = R (f v), so f^(j+1) w = R v
        have hb : f (R (f v)) = R v := a.fr v hv
        by_cases e : j + 1 < perW f w
        · exact ⟨j + 1, e, (a.sg _ _ (a.vi h _) hv).2 (.inr (by simp only [itW]; rw [q, hb]))⟩
        · refine ⟨0, p1, (a.sg _ _ h hv).2 (.inr ?_)⟩
          have : itW f (j + 1) w = w := by rw [show j + 1 = perW f w by omega]; exact p3
          simp only [itW] at this
          rw [q, hb] at this
          exact this.symm
  by_cases q : ∃ j, j < perW f w ∧ seg (itW f j w) = seg v
  · rw [if_pos q, if_pos (key.1 q)]
  · rw [if_neg q, if_neg (fun x => q (key.2 x))]; exact cl v hv

/-- After the first segments: the curve of each segment, the number of curves. -/
noncomputable def curvesSt (f : α → α) (seg : α → Nat) (wk : Nat → α) (N : Nat) : Nat → List Int × Nat
  | 0 => (List.replicate N (-1), 0)
  | k + 1 => if 0 ≤ at0 (curvesSt f seg wk N k).1 k then curvesSt f seg wk N k else (paint f seg (wk k) (curvesSt f seg wk N k).2 (curvesSt f seg wk N k).1 (perW f (wk k)), (curvesSt f seg wk N k).2 + 1)
theorem Walks.st (a : Walks f R seg V N) {wk : Nat → α} (hw : ∀ k, k < N → V (wk k)) : ∀ k, k ≤ N → (curvesSt f seg wk N k).1.length = N ∧ Closed f seg V (curvesSt f seg wk N k).1 ∧ (curvesSt f seg wk N k).2 ≤ k
  | 0, _ => by
    refine ⟨by simp [curvesSt], ?_, by simp [curvesSt]⟩
    intro w hw
    have h1 := a.lt w hw
    have h2 := a.lt _ (a.vf w hw)
    simp [curvesSt, at0, List.getD_eq_getElem?_getD, List.getElem?_replicate, h1, h2]
  | k + 1, hk => by
    obtain ⟨h1, h2, h3⟩ := Walks.st a hw k (by omega)
    simp only [curvesSt]
    split
    · exact ⟨h1, h2, by omega⟩
    · exact ⟨by rw [paint_len, h1], a.closed (hw k (by omega)) (by omega) h1 h2, by simp only; omega⟩
end

/-! ### the walkers of a panel -/
abbrev Wk := Int × Int × Int × Int
def edgeW (W H : Nat) (x y : Int) : Prop := x = 0 ∨ x = 2 * W ∨ y = 0 ∨ y = 2 * H
instance (W H : Nat) (x y : Int) : Decidable (edgeW W H x y) := by unfold edgeW; infer_instance
def kindW (W H : Nat) (br : List Int) (x y : Int) : Int := if edgeW W H x y then 0 else at0 br (numP W x.toNat y.toNat)
def stepW (W H : Nat) (br : List Int) (w : Wk) : Wk :=
  (w.1 + w.2.2.1, w.2.1 + w.2.2.2,
   if w.1 + w.2.2.1 = 0 ∨ w.1 + w.2.2.1 = 2 * W ∨ kindW W H br (w.1 + w.2.2.1) (w.2.1 + w.2.2.2) = 1 then -w.2.2.1 else w.2.2.1,
   if w.2.1 + w.2.2.2 = 0 ∨ w.2.1 + w.2.2.2 = 2 * H ∨ kindW W H br (w.1 + w.2.2.1) (w.2.1 + w.2.2.2) = 2 then -w.2.2.2 else w.2.2.2)
def backW (w : Wk) : Wk := (w.1 + w.2.2.1, w.2.1 + w.2.2.2, -w.2.2.1, -w.2.2.2)
structure OkW (W H : Nat) (w : Wk) : Prop where
  dx : w.2.2.1 = 1 ∨ w.2.2.1 = -1
  dy : w.2.2.2 = 1 ∨ w.2.2.2 = -1
  x : 0 ≤ w.1 ∧ w.1 ≤ 2 * W
  y : 0 ≤ w.2.1 ∧ w.2.1 ≤ 2 * H
  nx : 0 ≤ w.1 + w.2.2.1 ∧ w.1 + w.2.2.1 ≤ 2 * W
  ny : 0 ≤ w.2.1 + w.2.2.2 ∧ w.2.1 + w.2.2.2 ≤ 2 * H
  p : (w.1 + w.2.1) % 2 = 1
def minI (a b : Int) : Int := if a ≤ b then a else b
def segW (H : Nat) (w : Wk) : Nat := (minI w.1 (w.1 + w.2.2.1) * (2 * H) + minI w.2.1 (w.2.1 + w.2.2.2)).toNat
theorem minI_one {x d : Int} (h : d = 1 ∨ d = -1) : minI x (x + d) = if d = 1 then x else x - 1 := by
  unfold minI; rcases h with rfl | rfl
  · rw [if_pos (by omega), if_pos rfl]
  · rw [if_neg (by omega), if_neg (by omega)]; omega
theorem pair_eq {H a b c d : Int} (h : 0 < H) (hb : 0 ≤ b ∧ b < H) (hd : 0 ≤ d ∧ d < H) (e : a * H + b = c * H + d) : a = c ∧ b = d := by
  have h1 : (a * H + b) / H = a := by
    rw [Int.add_comm, Int.add_mul_ediv_right _ _ (by omega), Int.ediv_eq_zero_of_lt hb.1 hb.2]; omega
  have h2 : (c * H + d) / H = c := by
    rw [Int.add_comm, Int.add_mul_ediv_right _ _ (by omega), Int.ediv_eq_zero_of_lt hd.1 hd.2]; omega
  have : a = c := by rw [← h1, e, h2]
  subst this
  exact ⟨rfl, by omega⟩
theorem seg_bd {W H : Nat} {w : Wk} (h : OkW W H w) : (0 ≤ minI w.1 (w.1 + w.2.2.1) ∧ minI w.1 (w.1 + w.2.2.1) ≤ 2 * W - 1) ∧ (0 ≤ minI w.2.1 (w.2.1 + w.2.2.2) ∧ minI w.2.1 (w.2.1 + w.2.2.2) ≤ 2 * H - 1) := by
  obtain ⟨dx, dy, x, y, nx, ny, p⟩ := h
  rw [minI_one dx, minI_one dy]
  rcases dx with e | e <;> rcases dy with e' | e' <;> rw [e, e'] <;> rw [e] at nx <;> rw [e'] at ny <;> simp <;> omega
theorem seg_cast {W H : Nat} {w : Wk} (h : OkW W H w) : (segW H w : Int) = minI w.1 (w.1 + w.2.2.1) * (2 * H) + minI w.2.1 (w.2.1 + w.2.2.2) := by
  obtain ⟨⟨a, _⟩, b, _⟩ := seg_bd h
  have : 0 ≤ minI w.1 (w.1 + w.2.2.1) * (2 * (H : Int)) := Int.mul_nonneg a (by omega)
  unfold segW; omega
theorem seg_lt {W H : Nat} {w : Wk} (h : OkW W H w) : segW H w < 4 * W * H := by
  obtain ⟨⟨a, a'⟩, b, b'⟩ := seg_bd h
  have hc := seg_cast h
  have h1 : minI w.1 (w.1 + w.2.2.1) * (2 * (H : Int)) ≤ (2 * W - 1) * (2 * H) := Int.mul_le_mul_of_nonneg_right a' (by omega)
  have h2 : ((2 : Int) * W - 1) * (2 * H) = 4 * W * H - 2 * H := by
    rw [Int.sub_mul]; simp only [Int.one_mul]
    congr 1
    rw [show (2 : Int) * W * (2 * H) = (2 * 2) * (W * H) by ac_rfl, show (4 : Int) * W * H = 4 * (W * H) by ac_rfl]
    rfl
  have h3 : ((4 * W * H : Nat) : Int) = 4 * W * H := by simp
  omega
theorem kindW_edge {W H : Nat} {br : List Int} {x y : Int} (h : edgeW W H x y) : kindW W H br x y = 0 := if_pos h
theorem walks {W H : Nat} {br : List Int} (w1 : 1 ≤ W) (h1 : 1 ≤ H) : Walks (stepW W H br) backW (segW H) (OkW W H) (4 * W * H) where
  vf := by
    rintro ⟨x, y, dx, dy⟩ ⟨hdx, hdy, hx, hy, hnx, hny, hp⟩
    simp only at *
    have c1 : ∀ k : Int, (if x + dx = 0 ∨ x + dx = 2 * (W : Int) ∨ k = 1 then -dx else dx) = 1 ∨ (if x + dx = 0 ∨ x + dx = 2 * (W : Int) ∨ k = 1 then -dx else dx) = -1 := by intro k; split <;> omega
    have c2 : ∀ k : Int, (if y + dy = 0 ∨ y + dy = 2 * (H : Int) ∨ k = 2 then -dy else dy) = 1 ∨ (if y + dy = 0 ∨ y + dy = 2 * (H : Int) ∨ k = 2 then -dy else dy) = -1 := by intro k; split <;> omega
    refine ⟨c1 _, c2 _, hnx, hny, ?_, ?_, by simp only [stepW]; omega⟩
    · simp only [stepW]; split <;> omega
    · simp only [stepW]; split <;> omega
  vr := by
    rintro ⟨x, y, dx, dy⟩ ⟨hdx, hdy, hx, hy, hnx, hny, hp⟩
    simp only at *
    refine ⟨?_, ?_, hnx, hny, ?_, ?_, ?_⟩ <;> simp only [backW] <;> omega
  rr := by
    rintro ⟨x, y, dx, dy⟩
    simp only [backW, Prod.mk.injEq]
    omega
  fr := by
    rintro ⟨x, y, dx, dy⟩ ⟨hdx, hdy, hx, hy, hnx, hny, hp⟩
    simp only at *
    have e1 : ∀ a : Int, x + dx + a + -a = x + dx := by intro a; omega
    have e2 : ∀ a : Int, y + dy + a + -a = y + dy := by intro a; omega
    simp only [stepW, backW, e1, e2, Prod.mk.injEq, true_and]
    constructor
    · split <;> simp
    · split <;> simp
  ne := by
    rintro ⟨x, y, dx, dy⟩ ⟨hdx, hdy, hx, hy, hnx, hny, hp⟩ e
    simp only [stepW, backW, Prod.mk.injEq, true_and] at *
    obtain ⟨e1, e2⟩ := e
    have hk := kindW_edge (W := W) (H := H) (br := br) (x := x + dx) (y := y + dy)
    unfold edgeW at hk
    split at e1
    · split at e2
      · rename_i q1 q2
        have : ¬ (x + dx = 0 ∨ x + dx = 2 * (W : Int) ∨ y + dy = 0 ∨ y + dy = 2 * (H : Int)) ∨ kindW W H br (x + dx) (y + dy) = 0 := by
          by_cases q : x + dx = 0 ∨ x + dx = 2 * (W : Int) ∨ y + dy = 0 ∨ y + dy = 2 * (H : Int)
          · exact .inr (hk q)
          · exact .inl q
        omega
      · omega
    · omega
  nr := by
    rintro ⟨x, y, dx, dy⟩ ⟨hdx, hdy, hx, hy, hnx, hny, hp⟩ e
    simp only [backW, Prod.mk.injEq] at *
    omega
  sg := by
    intro w v hw hv
    have cw := seg_cast hw
    have cv := seg_cast hv
    obtain ⟨⟨a, a'⟩, b, b'⟩ := seg_bd hw
    obtain ⟨⟨c, c'⟩, d, d'⟩ := seg_bd hv
    constructor
    · intro e
      rw [e, cv] at cw
      obtain ⟨e1, e2⟩ := pair_eq (H := 2 * (H : Int)) (by omega) ⟨d, by omega⟩ ⟨b, by omega⟩ cw
      obtain ⟨x, y, dx, dy⟩ := w
      obtain ⟨x', y', dx', dy'⟩ := v
      obtain ⟨hdx, hdy, hx, hy, hnx, hny, hp⟩ := hw
      obtain ⟨hdx', hdy', hx', hy', hnx', hny', hp'⟩ := hv
      simp only at *
      rw [minI_one hdx, minI_one hdx'] at e1
      rw [minI_one hdy, minI_one hdy'] at e2
      simp only [backW, Prod.mk.injEq]
      rcases hdx with rfl | rfl <;> rcases hdy with rfl | rfl <;> rcases hdx' with rfl | rfl <;> rcases hdy' with rfl | rfl <;> simp at e1 e2 ⊢ <;> omega
    · rintro (e | e)
      · rw [e]
      · have : (segW H w : Int) = segW H v := by
          rw [cw, cv, e]
          obtain ⟨x', y', dx', dy'⟩ := v
          simp only [backW]
          have q1 : ∀ p d : Int, minI (p + d) (p + d + -d) = minI p (p + d) := by
            intro p d; unfold minI
            rw [show p + d + -d = p by omega]
            split <;> split <;> omega
          rw [q1, q1]
        omega
  lt := fun w h => seg_lt h
/-- The walker along a segment, to the right. -/
def wkW (H : Nat) (k : Nat) : Wk := if (k / (2 * H) + k % (2 * H)) % 2 = 1 then ((k / (2 * H) : Nat), (k % (2 * H) : Nat), 1, 1) else ((k / (2 * H) : Nat), (k % (2 * H) : Nat) + 1, 1, -1)
noncomputable def curvesP (X : Pan) : List Int × Nat := curvesSt (stepW X.1.toNat X.2.1.toNat X.2.2) (segW X.2.1.toNat) (wkW X.2.1.toNat) (4 * X.1.toNat * X.2.1.toNat) (4 * X.1.toNat * X.2.1.toNat)
/-- The number of curves. -/
noncomputable def curveN (X : Pan) : Nat := (curvesP X).2
end Am

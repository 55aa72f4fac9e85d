/- Contracts: AmJ2, AmJ3, AmJ4, AmJ5, AmJ6, AmJ7, AmJ8, AmE1, AmW1, AmW2. -/
import Derived.Test.YtaeaaogpdipjfaaAmK3
/-! AmJ2 -/
set_option linter.unusedVariables false
set_option linter.unusedSimpArgs false
set_option maxHeartbeats 4000000
set_option maxRecDepth 4000
namespace Am
open Go

end Am
/-! AmJ3 -/
set_option linter.unusedVariables false
set_option linter.unusedSimpArgs false
set_option maxHeartbeats 4000000
set_option maxRecDepth 4000
namespace Am
open Go

def noJ : Jrn := ((0, 0, []), [], [])
/-! ### a journal without steps -/
def njAns (X : Pan) : Jrn × Int := if okP X then ((X, [], []), 0) else (noJ, 1)
/-! ### the panel before all steps -/
def startB (X : Jrn) : List Int := (runB X.2.1.reverse X.1.2.2).getD []
theorem cur_64 {c : List Int} (h : ∀ x ∈ c, 0 ≤ x ∧ x ≤ 2) : ∀ x ∈ c, I64 x := fun x hx => rng_64' (h x hx)
where rng_64' {x : Int} (h : 0 ≤ x ∧ x ≤ 2) : I64 x := by unfold I64; omega

end Am
/-! AmJ4 -/
set_option linter.unusedVariables false
set_option linter.unusedSimpArgs false
set_option maxHeartbeats 4000000
set_option maxRecDepth 4000
namespace Am
open Go

def stAns (X : Jrn) : Pan × Int := if okJ X then ((X.1.1, X.1.2.1, startB X), 0) else ((0, 0, []), 1)
/-! ### slices that grow, empty ones of whatever kind -/
/-- A slice whose cells are these, in memory of our own; more cells may lie behind. -/
def Bf (h : Heap) (lo hi : Nat) (v : Value) (z : Nat) (cs : List Value) : Prop := (cs = [] ∧ ∃ y, v = sl 0 0 0 y) ∨ ∃ b n, v = sl b 0 n z ∧ n * z = cs.length ∧ lo ≤ b ∧ b < hi ∧ h[b]? = some ⟨cs, true⟩
theorem Bf.nil {h : Heap} {lo hi y z : Nat} : Bf h lo hi (sl 0 0 0 y) z [] := .inl ⟨rfl, y, rfl⟩
theorem Bf.sl {h : Heap} {lo hi : Nat} {v : Value} {z : Nat} {cs : List Value} (x : Bf h lo hi v z cs) : ∃ b n y, v = Am.sl b 0 n y := by
  rcases x with ⟨_, y, e⟩ | ⟨b, n, e, _⟩
  · exact ⟨0, 0, y, e⟩
  · exact ⟨b, n, z, e⟩
theorem Bf.wide {h : Heap} {lo hi lo' hi' : Nat} {v : Value} {z : Nat} {cs : List Value} (x : Bf h lo hi v z cs) (h1 : lo' ≤ lo) (h2 : hi ≤ hi') : Bf h lo' hi' v z cs := by
  rcases x with x | ⟨b, n, e, e2, e3, e4, e5⟩
  · exact .inl x
  · exact .inr ⟨b, n, e, e2, by omega, by omega, e5⟩
theorem Bf.mod {h h' : Heap} {lo hi lo' hi' : Nat} {v : Value} {z : Nat} {cs : List Value} (x : Bf h lo hi v z cs) (m : Mod lo' hi' h h') (hd : hi ≤ lo' ∨ hi' ≤ lo) : Bf h' lo hi v z cs := by
  rcases x with x | ⟨b, n, e, e2, e3, e4, e5⟩
  · exact .inl x
  · exact .inr ⟨b, n, e, e2, e3, e4, by rw [m.2 b (at_lt e5) (by omega)]; exact e5⟩
theorem Bf.grow {h h' : Heap} {lo hi : Nat} {v : Value} {z : Nat} {cs : List Value} (x : Bf h lo hi v z cs) (g : Grows h h') : Bf h' lo hi v z cs := by
  rcases x with x | ⟨b, n, e, e2, e3, e4, e5⟩
  · exact .inl x
  · exact .inr ⟨b, n, e, e2, e3, e4, g.at e5⟩
theorem Bf.trips {h : Heap} {lo hi : Nat} {v : Value} {X : List Trip} (x : Bf h lo hi v 3 (Am.trips X)) (hm : X.length ≤ maxLen) (hx : ∀ x ∈ X, T64 x) : Vo h lo hi shTrips v X := by
  rcases x with ⟨h1, y, rfl⟩ | ⟨b, n, rfl, h2, h3, h4, h5⟩
  · have := trips_inj_nil h1
    subst this
    exact Vo.of_trips (X := []) (.inr ⟨rfl, rfl⟩) (by simp) (by simp) (.inl rfl)
  · rw [trips_len] at h2
    have : n = X.length := by omega
    subst this
    exact Vo.of_trips (.inl rfl) hm hx (.inr ⟨h5, h3, h4⟩)
theorem Bf.ints {h : Heap} {lo hi : Nat} {v : Value} {X : List Int} (x : Bf h lo hi v 1 (Am.ints X)) (hm : X.length ≤ maxLen) (hx : ∀ x ∈ X, I64 x) : Vo h lo hi shInts v X := by
  rcases x with ⟨h1, y, rfl⟩ | ⟨b, n, rfl, h2, h3, h4, h5⟩
  · have := ints_inj_nil h1
    subst this
    exact Vo.of_ints (X := []) (.inr ⟨rfl, rfl⟩) (by simp) (by simp) (.inl rfl)
  · have : n = X.length := by simpa [Am.ints] using h2
    subst this
    exact Vo.of_ints (.inl rfl) hm hx (.inr ⟨h5, h3, h4⟩)
/-- APPENDING TO IT. -/
theorem append_bf {h : Heap} {lo hi : Nat} {v x : Value} {z : Nat} {cs new : List Value} {k : Value → Heap → Prop} (hp : 0 < lo) (hv : Bf h lo hi v z cs) (hn : newCells z h x = some new) (hz : 0 < z) (hne : new ≠ []) (hm : new.length / z * z = new.length)
    (hmax : cs.length + new.length ≤ maxSize) (hk : ∀ v' h', Mod lo hi h h' → Bf h' h.length h'.length v' z (cs ++ new) → k v' h') : bindW (aAppend z h x v) k := by
  rcases hv with ⟨rfl, y, rfl⟩ | ⟨b, n, rfl, h2, h3, h4, h5⟩
  · have e : aAppend z h x (sl 0 0 0 y) = some (sl h.length 0 (new.length / z) z, h ++ [⟨new, true⟩]) := by
      simp only [aAppend, hn]
      rw [if_neg (by omega), if_neg hne, if_neg (by simp at hmax; omega), if_pos trivial]
    rw [e]
    exact hk _ _ (Grows.mod ⟨_, rfl⟩) (.inr ⟨h.length, _, rfl, hm, Nat.le_refl _, by simp, by simp⟩)
  · have hnz : n ≤ cs.length := by rw [← h2]; exact Nat.le_mul_of_pos_right n hz
    have e : aAppend z h x (sl b 0 n z) = some (sl h.length 0 (n + new.length / z) z, h.set b ⟨[], false⟩ ++ [⟨cs ++ new, true⟩]) := by
      simp only [aAppend, hn]
      rw [if_neg (by omega), if_neg hne, if_neg (by omega), if_neg (by omega)]
      simp only [h5]
      rw [if_pos ⟨trivial, trivial⟩, cellsAt_all h5 h2]
    rw [e]
    have hb := at_lt h5
    refine hk _ _ ⟨by simp, fun c hc hn => ?_⟩ (.inr ⟨h.length, _, rfl, by rw [Nat.add_mul, hm, h2]; simp, Nat.le_refl _, by simp, by simp⟩)
    rw [List.getElem?_append_left (by simpa using hc), List.getElem?_set_ne (by omega)]
theorem Mod.push {lo hi : Nat} {h : Heap} (k : Blk) : Mod lo hi h (h ++ [k]) := Grows.mod ⟨_, rfl⟩
theorem append_trip2 {h : Heap} {lo hi : Nat} {v : Value} {l : List Trip} {a b c : Int} {K : Value → Heap → Prop} (hp : 0 < lo) (hl : l.length ≤ 1048576) (hv : Bf h lo hi v 3 (trips l))
    (hK : ∀ v' h'', Mod lo hi h h'' → Bf h'' h.length h''.length v' 3 (trips (l ++ [(a, b, c)])) → K v' h'') :
    bindW (aBuildSlice 3 1 h [(0, .agg #[I 0, I 0, I 0]), (3, .agg #[I a, I b, I c])]) fun y h'' => bindW (aAppend 3 h'' y v) K := by
  have e : aBuildSlice 3 1 h [(0, .agg #[I 0, I 0, I 0]), (3, .agg #[I a, I b, I c])] = some (sl h.length 0 1 3, h ++ [⟨[I a, I b, I c], true⟩]) := by simp [aBuildSlice]
  rw [e]
  simp only [bindW_some]
  refine append_bf hp (hv.grow ⟨_, rfl⟩) (new := [I a, I b, I c]) ?_ (by omega) (by simp) (by simp) (by rw [trips_len]; simp [maxSize]; omega) ?_
  · simp [newCells]
    rw [cellsAt_of (k := ⟨[I a, I b, I c], true⟩) (by simp) (by simp)]
    simp
  · intro v' h'' m1 b1
    refine hK v' h'' ((Mod.push _).trans m1) ?_
    rw [trips_append]
    exact b1.wide (by simp) (Nat.le_refl _)

/-! ### squashed -/
def sqAns (X : Jrn) : Jrn × Int := if okJ X then ((X.1, dpre (startB X) X.1.2.2 X.1.2.2.length, []), 0) else (noJ, 1)
/-- Three slices of our own, one behind the other. -/
theorem Vo.three {h : Heap} {lo hi m1 m2 : Nat} {W H : Int} {br : List Int} {p f : List Trip} {s sp sf : Value} (h1 : I64 W) (h2 : I64 H) (r1 : Vo h lo m1 shInts s br) (r2 : Vo h m1 m2 shTrips sp p) (r3 : Vo h m2 hi shTrips sf f) (l1 : lo ≤ m1) (l2 : m1 ≤ m2) (l3 : m2 ≤ hi) :
    Vo h lo hi shJournal (.agg #[I W, I H, s, sp, sf]) ((W, H, br), p, f) := by
  refine Vo.of_journal h1 h2 r1 r2 r3 ?_ ?_ ?_ ?_ ?_ ?_ <;> ((first | unfold Sub2 | unfold Dis) <;> omega)

end Am
/-! AmJ5 -/
set_option linter.unusedVariables false
set_option linter.unusedSimpArgs false
set_option maxHeartbeats 4000000
set_option maxRecDepth 4000
namespace Am
open Go

/-- A journal in new memory. -/
def Own5 (h h' : Heap) (r : Value) (X : Jrn) : Prop := Grows h h' ∧ ∃ s sp sf m1 m2, r = .agg #[I X.1.1, I X.1.2.1, s, sp, sf] ∧ h.length ≤ m1 ∧ m1 ≤ m2 ∧ m2 ≤ h'.length ∧ Vo h' h.length m1 shInts s X.1.2.2 ∧ Bf h' m1 m2 sp 3 (trips X.2.1) ∧ Bf h' m2 h'.length sf 3 (trips X.2.2)

end Am
/-! AmJ6 -/
set_option linter.unusedVariables false
set_option linter.unusedSimpArgs false
set_option maxHeartbeats 4000000
set_option maxRecDepth 4000
namespace Am
open Go

def doCode (X : Jrn) (k kind : Int) : Int := if inR k 0 ((X.1.2.2.length : Int) - 1) && okBr kind then (if at0 X.1.2.2 k.toNat = kind then 6 else if 50 ≤ X.2.1.length then 5 else 0) else 2
def doJ (X : Jrn) (k kind : Int) : Jrn := ((X.1.1, X.1.2.1, X.1.2.2.set k.toNat kind), X.2.1 ++ [(k, at0 X.1.2.2 k.toNat, kind)], [])
def doAns (X : Jrn) (k kind : Int) : Jrn × Int := if okJ X then (if doCode X k kind = 0 then (doJ X k kind, 0) else (noJ, doCode X k kind)) else (noJ, 1)
/-- Numbers of a journal are numbers of the machine. -/
structure Jwf (X : Jrn) : Prop where
  w : I64 X.1.1
  h : I64 X.1.2.1
  b : ∀ x ∈ X.1.2.2, I64 x
  p : ∀ x ∈ X.2.1, T64 x
  f : ∀ x ∈ X.2.2, T64 x
  lb : X.1.2.2.length ≤ 1048576
  lp : X.2.1.length ≤ 1048576
  lf : X.2.2.length ≤ 1048576

end Am
/-! AmJ7 -/
set_option linter.unusedVariables false
set_option linter.unusedSimpArgs false
set_option maxHeartbeats 4000000
set_option maxRecDepth 4000
namespace Am
open Go

/-- A journal in a box of our own, its memory our own, apart. Behind its steps more cells may lie. -/
def JM (h : Heap) (lo jb : Nat) (X : Jrn) (rest : List Value) : Prop := ∃ b1 z1 b2 z2 b3 z3,
  h[jb]? = some ⟨[I X.1.1, I X.1.2.1, sl b1 0 X.1.2.2.length z1, sl b2 0 X.2.1.length z2, sl b3 0 X.2.2.length z3], true⟩ ∧ lo ≤ jb ∧ 0 < lo ∧ (z1 = 1 ∨ b1 = 0 ∧ X.1.2.2 = []) ∧
  (X.1.2.2 = [] ∨ h[b1]? = some ⟨ints X.1.2.2, true⟩ ∧ lo ≤ b1 ∧ b1 ≠ jb ∧ b1 ≠ b2 ∧ b1 ≠ b3) ∧
  (X.2.1 = [] ∧ b2 = 0 ∨ z2 = 3 ∧ h[b2]? = some ⟨trips X.2.1 ++ rest, true⟩ ∧ lo ≤ b2 ∧ b2 ≠ jb ∧ b2 ≠ b3) ∧
  (X.2.2 = [] ∧ b3 = 0 ∨ z3 = 3 ∧ h[b3]? = some ⟨trips X.2.2, true⟩ ∧ lo ≤ b3 ∧ b3 ≠ jb) ∧ Jwf X
theorem set_other {h : Heap} {b c : Nat} {k : Blk} (hne : c ≠ b) : (h.set b k)[c]? = h[c]? := List.getElem?_set_ne fun e => hne e.symm
/-- The box holds the clone. -/
theorem JM.own {h h1 : Heap} {r : Value} {X : Jrn} (hp : 0 < h.length) (x : Own5 h h1 r X) (wf : Jwf X) : ∃ b1 z1 b2 z2 b3 z3, r = .agg #[I X.1.1, I X.1.2.1, sl b1 0 X.1.2.2.length z1, sl b2 0 X.2.1.length z2, sl b3 0 X.2.2.length z3] ∧
    JM (h1 ++ [⟨[I X.1.1, I X.1.2.1, sl b1 0 X.1.2.2.length z1, sl b2 0 X.2.1.length z2, sl b3 0 X.2.2.length z3], true⟩]) h.length h1.length X [] := by
  obtain ⟨⟨W, H, br⟩, p, f⟩ := X
  obtain ⟨g, s, sp, sf, m1, m2, rfl, l1, l2, l3, o1, o2, o3⟩ := x
  obtain ⟨b1, z1, rfl, hz, hm, hx, hc⟩ := o1.ints
  have e2 : ∃ b2 z2, sp = sl b2 0 p.length z2 ∧ (p = [] ∧ b2 = 0 ∨ z2 = 3 ∧ h1[b2]? = some ⟨trips p, true⟩ ∧ m1 ≤ b2 ∧ b2 < m2) := by
    rcases o2 with ⟨e, y, e'⟩ | ⟨b, n, e, e', e3, e4, e5⟩
    · have := trips_inj_nil e
      simp only at this; subst this
      exact ⟨0, y, e', .inl ⟨rfl, rfl⟩⟩
    · rw [trips_len] at e'
      have : n = p.length := by simp only at e'; omega
      subst this
      exact ⟨b, 3, e, .inr ⟨rfl, e5, e3, e4⟩⟩
  have e3 : ∃ b2 z2, sf = sl b2 0 f.length z2 ∧ (f = [] ∧ b2 = 0 ∨ z2 = 3 ∧ h1[b2]? = some ⟨trips f, true⟩ ∧ m2 ≤ b2 ∧ b2 < h1.length) := by
    rcases o3 with ⟨e, y, e'⟩ | ⟨b, n, e, e', e3, e4, e5⟩
    · have := trips_inj_nil e
      simp only at this; subst this
      exact ⟨0, y, e', .inl ⟨rfl, rfl⟩⟩
    · rw [trips_len] at e'
      have : n = f.length := by simp only at e'; omega
      subst this
      exact ⟨b, 3, e, .inr ⟨rfl, e5, e3, e4⟩⟩
  obtain ⟨b2, z2, rfl, i2⟩ := e2
  obtain ⟨b3, z3, rfl, i3⟩ := e3
  simp only at hc hz
  refine ⟨b1, z1, b2, z2, b3, z3, rfl, b1, z1, b2, z2, b3, z3, by simp, by omega, hp, hz, ?_, ?_, ?_, wf⟩
  · refine hc.imp id fun e => ⟨push_at e.1, by omega, by omega, ?_, ?_⟩
    · rcases i2 with i2 | i2 <;> omega
    · rcases i3 with i3 | i3 <;> omega
  · refine i2.imp id fun e => ⟨e.1, by simpa using push_at e.2.1, by omega, by omega, ?_⟩
    rcases i3 with i3 | i3 <;> omega
  · exact i3.imp id fun e => ⟨e.1, push_at e.2.1, by omega, by omega⟩

/-- The journal's value, with memory of its own. -/
theorem JM.vo {h : Heap} {lo jb : Nat} {X : Jrn} (x : JM h lo jb X []) : ∃ cs, h[jb]? = some ⟨cs, true⟩ ∧ cs.length = 5 ∧ Vo h lo h.length shJournal (.agg cs.toArray) X := by
  obtain ⟨⟨W, H, br⟩, p, f⟩ := X
  obtain ⟨b1, z1, b2, z2, b3, z3, hjb, hlo, hpos, hz1, i1, i2, i3, wf⟩ := x
  obtain ⟨w1, w2, x1, x2, x3, y1, y2, y3⟩ := wf
  simp only at hjb hz1 i1 i2 i3 w1 w2 x1 x2 x3 y1 y2 y3
  refine ⟨_, hjb, rfl, ?_⟩
  have v1 : Vo h (if br = [] then 0 else b1) (if br = [] then 0 else b1 + 1) shInts (sl b1 0 br.length z1) br := Vo.of_ints hz1 (by rw [maxLen_eq]; omega) x1 (by
    rcases i1 with e | e
    · exact .inl e
    · by_cases e' : br = []
      · exact .inl e'
      · exact .inr ⟨e.1, by simp [e']⟩)
  have v2 : Vo h (if p = [] then 0 else b2) (if p = [] then 0 else b2 + 1) shTrips (sl b2 0 p.length z2) p := Vo.of_trips (i2.elim (fun e => .inr ⟨e.2, e.1⟩) fun e => .inl e.1) (by rw [maxLen_eq]; omega) x2 (by
    by_cases e' : p = []
    · exact .inl e'
    · rcases i2 with e | e
      · exact absurd e.1 e'
      · exact .inr ⟨by simpa using e.2.1, by simp [e']⟩)
  have v3 : Vo h (if f = [] then 0 else b3) (if f = [] then 0 else b3 + 1) shTrips (sl b3 0 f.length z3) f := Vo.of_trips (i3.elim (fun e => .inr ⟨e.2, e.1⟩) fun e => .inl e.1) (by rw [maxLen_eq]; omega) x3 (by
    by_cases e' : f = []
    · exact .inl e'
    · rcases i3 with e | e
      · exact absurd e.1 e'
      · exact .inr ⟨e.2.1, by simp [e']⟩)
  refine Vo.of_journal w1 w2 v1 v2 v3 ?_ ?_ ?_ ?_ ?_ ?_
  · unfold Sub2; split
    · exact .inl rfl
    · rename_i hn; have := i1.resolve_left hn; have := at_lt this.1; omega
  · unfold Sub2; split
    · exact .inl rfl
    · rename_i hn; have := i2.resolve_left (fun e => hn e.1); have := at_lt this.2.1; omega
  · unfold Sub2; split
    · exact .inl rfl
    · rename_i hn; have := i3.resolve_left (fun e => hn e.1); have := at_lt this.2.1; omega
  · unfold Dis
    by_cases h1 : br = [] <;> by_cases h2 : p = [] <;> simp only [h1, h2, if_true, if_false] <;> try omega
    have := i1.resolve_left h1; omega
  · unfold Dis
    by_cases h1 : br = [] <;> by_cases h2 : f = [] <;> simp only [h1, h2, if_true, if_false] <;> try omega
    have := i1.resolve_left h1; omega
  · unfold Dis
    by_cases h1 : p = [] <;> by_cases h2 : f = [] <;> simp only [h1, h2, if_true, if_false] <;> try omega
    have := i2.resolve_left (fun e => h1 e.1); omega
end Am
/-! AmJ8 -/
set_option linter.unusedVariables false
set_option linter.unusedSimpArgs false
set_option maxHeartbeats 4000000
set_option maxRecDepth 4000
namespace Am
open Go

end Am
/-! AmE1 -/
set_option linter.unusedVariables false
set_option linter.unusedSimpArgs false
set_option maxHeartbeats 4000000
set_option maxRecDepth 4000
namespace Am
open Go

/-- Changes made one after the other: the numbers, and a code. -/
def runD : List Trip → List Int → List Int × Int
  | [], br => (br, 0)
  | s :: l, br => if inR s.1 0 ((br.length : Int) - 1) && okBr s.2.2 then (if at0 br s.1.toNat = s.2.1 then runD l (br.set s.1.toNat s.2.2) else ([], 9)) else ([], 2)
theorem runD_ok : ∀ (l : List Trip) (br : List Int), (∀ x ∈ br, 0 ≤ x ∧ x ≤ 2) → ((runD l br).1 = [] ∨ (runD l br).1.length = br.length) ∧ ∀ x ∈ (runD l br).1, 0 ≤ x ∧ x ≤ 2
  | [], br, h => ⟨.inr rfl, h⟩
  | s :: l, br, h => by
    simp only [runD]
    split
    · rename_i h1
      split
      · obtain ⟨a, b⟩ := runD_ok l (br.set s.1.toNat s.2.2) (fun x hx => by
          rcases List.mem_or_eq_of_mem_set hx with hx | rfl
          · exact h x hx
          · simp only [Bool.and_eq_true] at h1
            have := h1.2
            unfold okBr at this
            rw [inR_iff] at this
            exact this)
        rw [List.length_set] at a
        exact ⟨a, b⟩
      · simp
    · simp
def appAns (X : Pan) (l : List Trip) : Pan × Int := if okP X then (if (runD l X.2.2).2 = 0 then ((X.1, X.2.1, (runD l X.2.2).1), 0) else ((0, 0, []), (runD l X.2.2).2)) else ((0, 0, []), 1)
theorem app_siz (X : Pan) (l : List Trip) : siz shPanel (appAns X l).1 ≤ 16777216 := by
  obtain ⟨W, H, br⟩ := X
  unfold appAns
  split
  · rename_i h
    have ok := okP_iff.1 h
    have := ok_len ok
    have h2 := (runD_ok l br ok.b).1
    split
    · rw [siz_panel]
      rcases h2 with h2 | h2
      · rw [h2]; simp
      · rw [h2]; omega
    · rw [siz_panel]; simp
  · rw [siz_panel]; simp

theorem c62 (h : Heap) (hp : 0 < h.length) (v0 : Value) (X0 : Pan) (hv0 : Vr h shPanel v0 X0) (hs0 : siz shPanel X0 ≤ 1048576) (v1 : Value) (X1 : List Trip) (hv1 : Vr h shTrips v1 X1) (hs1 : siz shTrips X1 ≤ 1048576) :
    ACall Gam 62 [v0, v1] h fun r h' => Grows h h' ∧ ∃ r0, r = .tuple #[r0, I (appAns X0 X1).2] ∧ Vo h' h.length h'.length shPanel r0 (appAns X0 X1).1 ∧ siz shPanel (appAns X0 X1).1 ≤ 16777216 := by
  have hsz := app_siz X0 X1
  obtain ⟨W, H, br⟩ := X0
  rw [siz_panel] at hs0
  rw [siz_trips] at hs1
  have hv0' := hv0
  obtain ⟨s, rfl, w1, w2, r1⟩ := hv0.panel
  obtain ⟨pb, po, pz, rfl, hpm, hpe⟩ := trips_at hv1
  rw [maxLen_eq] at hpm
  refine ACall_intro g62 rfl ?_
  unfold fn62
  rw [awp_seq, awp_reg]
  generalize hK : seqQ Gam _ _ 0 = K
  simp (disch := omega)
  subst hK
  simp only [seqQ_zero]
  rw [awp_seq]
  generalize hK : seqQ Gam _ _ = K
  simp (disch := omega)

  refine callW_of (c140 _ _ h hv0') ?_
  rintro _ h1 ⟨rfl, rfl⟩
  cases q : okP (W, H, br)
  · have e : appAns (W, H, br) X1 = ((0, 0, []), 1) := by simp [appAns, q]
    subst hK
    rw [e] at hsz ⊢
    simp (disch := omega) [resOf, resAll, resOne, aField]
    exact ⟨Grows.refl _, Vo.no_panel, hsz⟩
  have ok := okP_iff.1 q
  have hbl := ok_len ok
  simp (disch := omega)
  subst hK
  simp only [seqQ_zero]
  rw [awp_seq, awp_reg]
  generalize hK : seqQ Gam _ _ 0 = K
  simp (disch := omega)
  refine callW_of (c150 h1 _ _ hp hv0' (by simp only; omega)) ?_
  rintro _ h2 ⟨g2, o2⟩
  obtain ⟨so, rfl, _, _, o2⟩ := o2.panel
  obtain ⟨bb, zz, rfl, hz, _, _, hb⟩ := o2.ints
  obtain ⟨n, hn⟩ : ∃ n, n = br.length := ⟨_, rfl⟩
  have hz' : zz = 1 ∨ bb = 0 ∧ n = 0 := hz.imp id fun e => ⟨e.1, by rw [hn, e.2]; rfl⟩
  have hb' : n = 0 ∨ h2[bb]? = some ⟨ints br, true⟩ ∧ h1.length ≤ bb := hb.imp (fun e => by rw [hn, e]; rfl) fun e => ⟨e.1, by have := e.2.1; omega⟩
  rw [← hn]
  simp (disch := omega)
  subst hK
  simp only [seqQ_zero]
  rw [awp_seq]
  generalize hK : seqQ Gam _ _ = K
  simp (disch := omega)
  refine awp_loop (fun (k : Nat) σ h' => k ≤ X1.length ∧ Grows h1 h' ∧ σ 4 = .agg #[I 0, I 0, sl 0 0 0 0] ∧ σ 6 = .agg #[I W, I H, sl bb 0 n zz] ∧ σ 15 = sl pb po X1.length pz ∧ σ 16 = I X1.length ∧ σ 17 = I k ∧
    ∃ cur : List Int, cur.length = n ∧ (∀ x ∈ cur, 0 ≤ x ∧ x ≤ 2) ∧ runD (X1.drop k) cur = runD X1 br ∧ (n = 0 ∨ h'[bb]? = some ⟨ints cur, true⟩ ∧ h1.length ≤ bb)) (fun k => X1.length - k) 0 ?_ ?_
  · refine ⟨by omega, g2, by simp, by simp, by simp, by simp, by simp, br, hn.symm, ok.b, by simp, hb'.imp id fun e => ⟨e.1, by omega⟩⟩
  rintro k σ h' ⟨hk, hg, q4, q6, q15, q16, q17, cur, hcl, hcb, hrun, hb⟩
  simp (disch := omega) [q15, q16, q17]
  refine fork_dec (fun hlt => ?_) (fun hge => ?_)
  rotate_left
  · have hkn : k = X1.length := by omega
    rw [List.drop_of_length_le (by omega)] at hrun
    simp only [runD] at hrun
    have e : appAns (W, H, br) X1 = ((W, H, cur), 0) := by simp [appAns, q, ← hrun]
    subst hK
    rw [e] at hsz ⊢
    have hvo := Vo.of_ints (h := h') (b := bb) (lo := h1.length) (hi := h'.length) (z := zz) (X := cur) (hz'.imp id fun e => ⟨e.1, by rw [e.2] at hcl; exact List.length_eq_zero_iff.1 hcl⟩) (by rw [maxLen_eq]; omega) (cur_64 hcb) (by
      rcases hb with e | e
      · left; rw [e] at hcl; exact List.length_eq_zero_iff.1 hcl
      · exact .inr ⟨e.1, e.2, at_lt e.1⟩)
    rw [hcl] at hvo
    simp (disch := omega) [q4, q6, resOf, resAll, resOne, aField]
    exact ⟨hg, Vo.of_panel w1 w2 hvo, hsz⟩
  have k1 : k < X1.length := by omega
  rw [List.drop_eq_getElem_cons k1] at hrun
  have hcell := grows_cellsAt hg (hpe k k1)
  obtain ⟨⟨t1, t2, t3⟩, ht⟩ : ∃ t, t = X1[k] := ⟨_, rfl⟩
  rw [← ht] at hrun hcell
  simp only [runD, hcl] at hrun
  simp (disch := omega) [q4, q6, q15, q16, q17, k1, hcell, trip, wrap64]
  refine callW_of (c163 t1 n (by rw [maxLen_eq]; omega) h') ?_
  rintro _ h' ⟨rfl, rfl⟩
  cases hs : inR t1 0 ((n : Int) - 1)
  · simp only [hs, Bool.false_and, Bool.false_eq_true, if_false] at hrun
    have e : appAns (W, H, br) X1 = ((0, 0, []), 2) := by simp [appAns, q, ← hrun]
    subst hK
    rw [e] at hsz ⊢
    simp (disch := omega) [q4, q6, resOf, resAll, resOne, aField]
    exact ⟨hg, Vo.no_panel, hsz⟩
  simp (disch := omega)
  refine callW_of (c196 t3 h') ?_
  rintro _ h' ⟨rfl, rfl⟩
  cases hs2 : okBr t3
  · simp only [hs, hs2, Bool.and_false, Bool.false_eq_true, if_false] at hrun
    have e : appAns (W, H, br) X1 = ((0, 0, []), 2) := by simp [appAns, q, ← hrun]
    subst hK
    rw [e] at hsz ⊢
    simp (disch := omega) [q4, q6, resOf, resAll, resOne, aField]
    exact ⟨hg, Vo.no_panel, hsz⟩
  have hsi := hs
  rw [inR_iff] at hsi
  obtain ⟨t, rfl⟩ := Int.eq_ofNat_of_zero_le hsi.1
  have htn : t < cur.length := by omega
  have htn' : t < n := by omega
  obtain ⟨hb1, hb2⟩ := hb.resolve_left (by omega)
  have hci := cell_int hb1 htn
  simp only [hs, hs2, Bool.and_true, if_true, Int.toNat_natCast] at hrun
  simp (disch := omega) [q4, q6, hci, htn']
  refine fork_dec (fun he => ?_) (fun he => ?_)
  · rw [if_pos he] at hrun
    have hst := store_int (v := t3) hb1 htn
    simp (disch := omega) [q4, q6, q15, q16, q17, hst, htn', wrap64]
    refine ⟨k + 1, ⟨by omega, hg.put hb2 _, by omega, cur.set t t3, by simpa using hcl, ?_, hrun, .inr ⟨by simp [at_lt hb1], hb2⟩⟩, by omega⟩
    intro x hx
    rcases List.mem_or_eq_of_mem_set hx with hx | rfl
    · exact hcb x hx
    · unfold okBr at hs2; rw [inR_iff] at hs2; exact hs2
  · rw [if_neg he] at hrun
    have e : appAns (W, H, br) X1 = ((0, 0, []), 9) := by simp [appAns, q, ← hrun]
    subst hK
    rw [e] at hsz ⊢
    simp (disch := omega) [q4, q6, resOf, resAll, resOne, aField]
    exact ⟨hg, Vo.no_panel, hsz⟩

theorem c331 (h : Heap) (hp : 0 < h.length) (v0 : Value) (X0 : Pan) (hv0 : Vr h shPanel v0 X0) (hs0 : siz shPanel X0 ≤ 1048576) (v1 : Value) (X1 : List Trip) (hv1 : Vr h shTrips v1 X1) (hs1 : siz shTrips X1 ≤ 1048576) :
    ACall Gam 331 [v0, v1] h fun r h' => Grows h h' ∧ ∃ r0, r = .tuple #[r0, I (appAns X0 X1).2] ∧ Vo h' h.length h'.length shPanel r0 (appAns X0 X1).1 ∧ siz shPanel (appAns X0 X1).1 ≤ 16777216 := by
  have hsz := app_siz X0 X1
  obtain ⟨W, H, br⟩ := X0
  rw [siz_panel] at hs0
  rw [siz_trips] at hs1
  have hv0' := hv0
  obtain ⟨s, rfl, w1, w2, r1⟩ := hv0.panel
  obtain ⟨pb, po, pz, rfl, hpm, hpe⟩ := trips_at hv1
  rw [maxLen_eq] at hpm
  refine ACall_intro g331 rfl ?_
  unfold fn331
  rw [awp_seq, awp_reg]
  generalize hK : seqQ Gam _ _ 0 = K
  simp (disch := omega)
  subst hK
  simp only [seqQ_zero]
  rw [awp_seq]
  generalize hK : seqQ Gam _ _ = K
  simp (disch := omega)
  obtain ⟨ha, eha⟩ : ∃ ha, ha = h ++ [⟨[I W, I H, s], true⟩] := ⟨_, rfl⟩
  rw [← eha]
  have ga : Grows h ha := ⟨_, eha⟩
  have la := ga.le
  have ka : ha[h.length]? = some ⟨[I W, I H, s], true⟩ := by rw [eha]; simp
  have hpt : PtP ha (pt h.length 0) (W, H, br) := PtP.at ka (r1.grow ga) w1 w2
  refine callW_of (c452 _ _ ha hpt) ?_
  rintro _ h1 ⟨rfl, rfl⟩
  cases q : okP (W, H, br)
  · have e : appAns (W, H, br) X1 = ((0, 0, []), 1) := by simp [appAns, q]
    subst hK
    rw [e] at hsz ⊢
    simp (disch := omega) [resOf, resAll, resOne, aField]
    exact ⟨ga, Vo.no_panel, hsz⟩
  have ok := okP_iff.1 q
  have hbl := ok_len ok
  simp (disch := omega)
  subst hK
  simp only [seqQ_zero]
  rw [awp_seq, awp_reg]
  generalize hK : seqQ Gam _ _ 0 = K
  simp (disch := omega)
  refine callW_of (c453 h1 _ _ (pos_of hp ga) hpt (by simp only; omega)) ?_
  rintro _ h2 ⟨g2, o2⟩
  obtain ⟨so, rfl, _, _, o2⟩ := o2.panel
  obtain ⟨bb, zz, rfl, hz, _, _, hb⟩ := o2.ints
  obtain ⟨n, hn⟩ : ∃ n, n = br.length := ⟨_, rfl⟩
  have hz' : zz = 1 ∨ bb = 0 ∧ n = 0 := hz.imp id fun e => ⟨e.1, by rw [hn, e.2]; rfl⟩
  have hb' : n = 0 ∨ h2[bb]? = some ⟨ints br, true⟩ ∧ h1.length ≤ bb := hb.imp (fun e => by rw [hn, e]; rfl) fun e => ⟨e.1, by have := e.2.1; omega⟩
  rw [← hn]
  simp (disch := omega)
  subst hK
  simp only [seqQ_zero]
  rw [awp_seq]
  generalize hK : seqQ Gam _ _ = K
  simp (disch := omega)
  refine awp_loop (fun (k : Nat) σ h' => k ≤ X1.length ∧ Grows h h' ∧ σ 4 = .agg #[I 0, I 0, sl 0 0 0 0] ∧ σ 6 = .agg #[I W, I H, sl bb 0 n zz] ∧ σ 1 = sl pb po X1.length pz ∧ σ 7 = I k ∧
    ∃ cur : List Int, cur.length = n ∧ (∀ x ∈ cur, 0 ≤ x ∧ x ≤ 2) ∧ runD (X1.drop k) cur = runD X1 br ∧ (n = 0 ∨ h'[bb]? = some ⟨ints cur, true⟩ ∧ h.length ≤ bb)) (fun k => X1.length - k) 0 ?_ ?_
  · refine ⟨by omega, ga.trans g2, by simp, by simp, by simp, by simp, br, hn.symm, ok.b, by simp, hb'.imp id fun e => ⟨e.1, by omega⟩⟩
  rintro k σ h' ⟨hk, hg, q4, q6, q1, q7, cur, hcl, hcb, hrun, hb⟩
  simp (disch := omega) [q1, q7]
  refine fork_dec (fun hlt => ?_) (fun hge => ?_)
  rotate_left
  · have hkn : k = X1.length := by omega
    rw [List.drop_of_length_le (by omega)] at hrun
    simp only [runD] at hrun
    have e : appAns (W, H, br) X1 = ((W, H, cur), 0) := by simp [appAns, q, ← hrun]
    subst hK
    rw [e] at hsz ⊢
    have hvo := Vo.of_ints (h := h') (b := bb) (lo := h.length) (hi := h'.length) (z := zz) (X := cur) (hz'.imp id fun e => ⟨e.1, by rw [e.2] at hcl; exact List.length_eq_zero_iff.1 hcl⟩) (by rw [maxLen_eq]; omega) (cur_64 hcb) (by
      rcases hb with e | e
      · left; rw [e] at hcl; exact List.length_eq_zero_iff.1 hcl
      · exact .inr ⟨e.1, e.2, at_lt e.1⟩)
    rw [hcl] at hvo
    simp (disch := omega) [q4, q6, resOf, resAll, resOne, aField]
    exact ⟨hg, Vo.of_panel w1 w2 hvo, hsz⟩
  have k1 : k < X1.length := by omega
  rw [List.drop_eq_getElem_cons k1] at hrun
  have hcell := grows_cellsAt hg (hpe k k1)
  obtain ⟨⟨t1, t2, t3⟩, ht⟩ : ∃ t, t = X1[k] := ⟨_, rfl⟩
  rw [← ht] at hrun hcell
  simp only [runD, hcl] at hrun
  simp (disch := omega) [q4, q6, q1, q7, k1, hcell, trip, wrap64]
  refine callW_of (c432 t1 0 ((n : Int) - 1) h') ?_
  rintro _ h' ⟨rfl, rfl⟩
  cases hs : inR t1 0 ((n : Int) - 1)
  · simp only [hs, Bool.false_and, Bool.false_eq_true, if_false] at hrun
    have e : appAns (W, H, br) X1 = ((0, 0, []), 2) := by simp [appAns, q, ← hrun]
    subst hK
    rw [e] at hsz ⊢
    simp (disch := omega) [q4, q6, resOf, resAll, resOne, aField]
    exact ⟨hg, Vo.no_panel, hsz⟩
  simp (disch := omega)
  refine callW_of (c449 t3 h') ?_
  rintro _ h' ⟨rfl, rfl⟩
  cases hs2 : okBr t3
  · simp only [hs, hs2, Bool.and_false, Bool.false_eq_true, if_false] at hrun
    have e : appAns (W, H, br) X1 = ((0, 0, []), 2) := by simp [appAns, q, ← hrun]
    subst hK
    rw [e] at hsz ⊢
    simp (disch := omega) [q4, q6, resOf, resAll, resOne, aField]
    exact ⟨hg, Vo.no_panel, hsz⟩
  have hsi := hs
  rw [inR_iff] at hsi
  obtain ⟨t, rfl⟩ := Int.eq_ofNat_of_zero_le hsi.1
  have htn : t < cur.length := by omega
  have htn' : t < n := by omega
  obtain ⟨hb1, hb2⟩ := hb.resolve_left (by omega)
  have hci := cell_int hb1 htn
  simp only [hs, hs2, Bool.and_true, if_true, Int.toNat_natCast] at hrun
  simp (disch := omega) [q4, q6, hci, htn']
  refine fork_dec (fun he => ?_) (fun he => ?_)
  · rw [if_pos he] at hrun
    have hst := store_int (v := t3) hb1 htn
    simp (disch := omega) [q4, q6, q1, q7, hst, htn', wrap64]
    refine ⟨k + 1, ⟨by omega, hg.put hb2 _, by omega, cur.set t t3, by simpa using hcl, ?_, hrun, .inr ⟨by simp [at_lt hb1], hb2⟩⟩, by omega⟩
    intro x hx
    rcases List.mem_or_eq_of_mem_set hx with hx | rfl
    · exact hcb x hx
    · unfold okBr at hs2; rw [inR_iff] at hs2; exact hs2
  · rw [if_neg he] at hrun
    have e : appAns (W, H, br) X1 = ((0, 0, []), 9) := by simp [appAns, q, ← hrun]
    subst hK
    rw [e] at hsz ⊢
    simp (disch := omega) [q4, q6, resOf, resAll, resOne, aField]
    exact ⟨hg, Vo.no_panel, hsz⟩
end Am
/-! AmW1 -/
set_option linter.unusedVariables false
set_option linter.unusedSimpArgs false
set_option maxHeartbeats 4000000
set_option maxRecDepth 4000
namespace Am
open Go

theorem slice_text {h : Heap} {s : List UInt8} {a b : Nat} (h1 : a ≤ b) (h2 : b ≤ s.length) : aSlice 0 h (S s) (some (I a)) (some (I b)) none = some (S ((s.take b).drop a), h) := by
  simp [aSlice, bound, ByteArray.size]
  omega
theorem slice_from {h : Heap} {s : List UInt8} {a : Nat} (h1 : a ≤ s.length) : aSlice 0 h (S s) (some (I a)) none none = some (S (s.drop a), h) := by
  simp [aSlice, bound, ByteArray.size, h1]
theorem slice_to {h : Heap} {s : List UInt8} {b : Nat} (h1 : b ≤ s.length) : aSlice 0 h (S s) none (some (I b)) none = some (S (s.take b), h) := by
  simp [aSlice, bound, ByteArray.size, h1]

/-! ### splitting -/
def splitG (b : UInt8) (cur : List UInt8) : List UInt8 → List (List UInt8)
  | [] => [cur]
  | c :: r => if c = b then cur :: splitG b [] r else splitG b (cur ++ [c]) r
def splitS (b : UInt8) (s : List UInt8) : List (List UInt8) := splitG b [] s
theorem splitG_len (b : UInt8) : ∀ (s cur : List UInt8), 1 ≤ (splitG b cur s).length ∧ (splitG b cur s).length ≤ s.length + 1
  | [], cur => by simp [splitG]
  | c :: r, cur => by
    simp only [splitG]
    split
    · have := splitG_len b r []
      simp; omega
    · have := splitG_len b r (cur ++ [c])
      simp; omega
theorem splitG_sum (b : UInt8) : ∀ (s cur : List UInt8), ∀ w ∈ splitG b cur s, w.length ≤ cur.length + s.length
  | [], cur, w, hw => by simp [splitG] at hw; subst hw; simp
  | c :: r, cur, w, hw => by
    simp only [splitG] at hw
    split at hw
    · rcases List.mem_cons.1 hw with rfl | hw
      · simp
      · have := splitG_sum b r [] w hw
        simp at this ⊢; omega
    · have := splitG_sum b r (cur ++ [c]) w hw
      simp at this ⊢; omega
theorem u8_eq {a b : UInt8} : ((a.toNat : Int) = (b.toNat : Int)) ↔ a = b := by
  constructor
  · intro h; exact UInt8.toNat_inj.1 (by omega)
  · rintro rfl; rfl
theorem take_drop_snoc {α : Type} {s : List α} {f i : Nat} (h1 : f ≤ i) (h2 : i < s.length) : (s.take (i + 1)).drop f = (s.take i).drop f ++ [s[i]] := by
  rw [List.take_succ_eq_append_getElem h2, List.drop_append_of_le_length (by simp; omega)]

theorem split_ok {f : Nat} (hf : f = 189 ∨ f = 441) (s : List UInt8) (b : UInt8) (hs : s.length ≤ 1048576) (h : Heap) (hp : 0 < h.length) : ACall Gam f [S s, U b.toNat] h fun r h' => Grows h h' ∧ Buf h h' r 1 (texts (splitS b s)) := by
  rcases hf with rfl | rfl
  · refine ACall_intro g189 rfl ?_
    unfold fn189
    simp (disch := omega)
    refine awp_loop (fun (i : Nat) σ h' => i ≤ s.length ∧ Grows h h' ∧ σ 0 = S s ∧ σ 1 = U b.toNat ∧ σ 10 = I s.length ∧ σ 11 = I i ∧ ∃ (from_ : Nat) (done : List (List UInt8)), from_ ≤ i ∧ done.length ≤ i ∧ σ 6 = I from_ ∧ Buf h h' (σ 5) 1 (texts done) ∧ done ++ splitG b ((s.take i).drop from_) (s.drop i) = splitS b s) (fun i => s.length - i) 0 ?_ ?_
    · exact ⟨by omega, Grows.refl _, by simp, by simp, by simp, by simp, 0, [], by omega, by simp, by simp, by simp; exact Buf.nil, by simp [splitS]⟩
    rintro i σ h' ⟨hi, hg, q0, q1, q10, q11, fr, done, hfi, hdl, q6, hB, hd⟩
    simp (disch := omega) [q10, q11]
    refine fork_dec (fun hlt => ?_) (fun hge => ?_)
    · have i1 : i < s.length := by omega
      rw [List.drop_eq_getElem_cons i1] at hd
      simp only [splitG] at hd
      simp (disch := omega) [q0, q1, q11, i1]
      refine fork_dec (fun he => ?_) (fun he => ?_)
      · rw [u8_eq] at he
        rw [if_pos he] at hd
        have hsl := slice_text (h := h') hfi (show i ≤ s.length by omega)
        simp (disch := omega) [q0, q6, hsl]
        refine append_word hp (by omega) hg hB fun v' h'' g1 b1 => ?_
        simp (disch := omega) [q0, q1, q10, q11, wrap64]
        refine ⟨i + 1, ⟨by omega, g1, by omega, i + 1, by omega, done ++ [(s.take i).drop fr], by simpa using hdl, by omega, b1, ?_⟩, by omega⟩
        · have : (s.take (i + 1)).drop (i + 1) = [] := List.drop_eq_nil_of_le (by simp; omega)
          rw [this]
          simpa using hd
      · rw [u8_eq] at he
        rw [if_neg he] at hd
        simp (disch := omega) [q0, q1, q10, q11, wrap64]
        refine ⟨i + 1, ⟨by omega, hg, by omega, fr, by omega, done, by omega, q6, hB, ?_⟩, by omega⟩
        · rw [take_drop_snoc hfi i1]; exact hd
    · have hin : i = s.length := by omega
      subst hin
      rw [List.drop_length, List.take_length] at hd
      simp only [splitG] at hd
      have hsl := slice_from (h := h') hfi
      simp (disch := omega) [q0, q6, hsl]
      refine append_word hp (by omega) hg hB fun v' h'' g1 b1 => ?_
      rw [hd] at b1
      obtain ⟨rb, rn, ry, e⟩ : ∃ b n y, v' = sl b 0 n y := by
        rcases b1 with ⟨_, e⟩ | ⟨b, n, e, _⟩
        · exact ⟨0, 0, 1, e⟩
        · exact ⟨b, n, 1, e⟩
      subst e
      try simp (disch := omega)
      exact ⟨g1, b1⟩
  · refine ACall_intro g441 rfl ?_
    unfold fn441
    simp (disch := omega)
    refine awp_loop (fun (i : Nat) σ h' => i ≤ s.length ∧ Grows h h' ∧ σ 0 = S s ∧ σ 1 = U b.toNat ∧ σ 7 = I i ∧ ∃ (from_ : Nat) (done : List (List UInt8)), from_ ≤ i ∧ done.length ≤ i ∧ σ 6 = I from_ ∧ Buf h h' (σ 5) 1 (texts done) ∧ done ++ splitG b ((s.take i).drop from_) (s.drop i) = splitS b s) (fun i => s.length - i) 0 ?_ ?_
    · exact ⟨by omega, Grows.refl _, by simp, by simp, by simp, 0, [], by omega, by simp, by simp, by simp; exact Buf.nil, by simp [splitS]⟩
    rintro i σ h' ⟨hi, hg, q0, q1, q7, fr, done, hfi, hdl, q6, hB, hd⟩
    simp (disch := omega) [q0, q7]
    refine fork_dec (fun hlt => ?_) (fun hge => ?_)
    · have i1 : i < s.length := by omega
      rw [List.drop_eq_getElem_cons i1] at hd
      simp only [splitG] at hd
      simp (disch := omega) [q0, q1, q7, i1]
      refine fork_dec (fun he => ?_) (fun he => ?_)
      · rw [u8_eq] at he
        rw [if_pos he] at hd
        have hsl := slice_text (h := h') hfi (show i ≤ s.length by omega)
        simp (disch := omega) [q0, q6, q7, hsl]
        refine append_word hp (by omega) hg hB fun v' h'' g1 b1 => ?_
        simp (disch := omega) [q0, q1, q7, wrap64]
        refine ⟨i + 1, ⟨by omega, g1, by omega, i + 1, by omega, done ++ [(s.take i).drop fr], by simpa using hdl, by omega, b1, ?_⟩, by omega⟩
        · have : (s.take (i + 1)).drop (i + 1) = [] := List.drop_eq_nil_of_le (by simp; omega)
          rw [this]
          simpa using hd
      · rw [u8_eq] at he
        rw [if_neg he] at hd
        simp (disch := omega) [q0, q1, q7, wrap64]
        refine ⟨i + 1, ⟨by omega, hg, by omega, fr, by omega, done, by omega, q6, hB, ?_⟩, by omega⟩
        · rw [take_drop_snoc hfi i1]; exact hd
    · have hin : i = s.length := by omega
      subst hin
      rw [List.drop_length, List.take_length] at hd
      simp only [splitG] at hd
      have hsl := slice_from (h := h') hfi
      simp (disch := omega) [q0, q6, hsl]
      refine append_word hp (by omega) hg hB fun v' h'' g1 b1 => ?_
      rw [hd] at b1
      obtain ⟨rb, rn, ry, e⟩ : ∃ b n y, v' = sl b 0 n y := by
        rcases b1 with ⟨_, e⟩ | ⟨b, n, e, _⟩
        · exact ⟨0, 0, 1, e⟩
        · exact ⟨b, n, 1, e⟩
      subst e
      try simp (disch := omega)
      exact ⟨g1, b1⟩

/-! ### the sign of a break, read -/
def kindB (c : UInt8) : Int := if c = 43 then 0 else if c = 124 then 1 else if c = 45 then 2 else -1
theorem kindB_rng (c : UInt8) : -1 ≤ kindB c ∧ kindB c ≤ 2 := by unfold kindB; split <;> (try split) <;> (try split) <;> omega
theorem c467 (c : UInt8) (h : Heap) : ACall Gam 467 [U c.toNat] h fun r h' => r = I (kindB c) ∧ h' = h := by
  have e1 : (c.toNat : Int) = 43 ↔ c = 43 := u8_eq (b := 43)
  have e2 : (c.toNat : Int) = 124 ↔ c = 124 := u8_eq (b := 124)
  have e3 : (c.toNat : Int) = 45 ↔ c = 45 := u8_eq (b := 45)
  refine ACall_intro g467 rfl ?_
  unfold fn467
  simp (disch := omega) [e1]
  refine fork_dec (fun h1 => ?_) (fun h1 => ?_)
  · simp [kindB, h1]
  simp (disch := omega) [e2]
  refine fork_dec (fun h2 => ?_) (fun h2 => ?_)
  · simp [kindB, h2]
  simp (disch := omega) [e3]
  refine fork_dec (fun h3 => ?_) (fun h3 => ?_)
  · simp [kindB, h3]
  simp [kindB, h1, h2, h3]
theorem c174 (c : UInt8) (h : Heap) : ACall Gam 174 [U c.toNat] h fun r h' => r = I (kindB c) ∧ h' = h := by
  have e1 : ((((43 : UInt8).toNat : Nat)) : Int) = (c.toNat : Int) ↔ c = 43 := by rw [u8_eq]; exact eq_comm
  have e2 : ((((124 : UInt8).toNat : Nat)) : Int) = (c.toNat : Int) ↔ c = 124 := by rw [u8_eq]; exact eq_comm
  have e3 : ((((45 : UInt8).toNat : Nat)) : Int) = (c.toNat : Int) ↔ c = 45 := by rw [u8_eq]; exact eq_comm
  refine ACall_intro g174 rfl ?_
  unfold fn174
  simp (disch := omega)
  refine awp_loop (fun (i : Nat) σ h' => i ≤ 3 ∧ h' = h ∧ σ 0 = U c.toNat ∧ σ 4 = I i ∧ (0 < i → c ≠ 43) ∧ (1 < i → c ≠ 124) ∧ (2 < i → c ≠ 45)) (fun i => 3 - i) 0 ?_ ?_
  · exact ⟨by omega, rfl, by simp, by simp, by omega, by omega, by omega⟩
  rintro i σ h' ⟨hi, rfl, q0, q4, n1, n2, n3⟩
  simp (disch := omega) [q4]
  refine fork_dec (fun hlt => ?_) (fun hge => ?_)
  · have hc : i = 0 ∨ i = 1 ∨ i = 2 := by omega
    rcases hc with rfl | rfl | rfl
    · simp (disch := omega) [q0, q4]
      refine fork_dec (fun h1 => ?_) (fun h1 => ?_)
      · have h1 := e1.1 h1
        simp [kindB, h1]
      · simp (disch := omega) [q0, q4, wrap64]
        exact ⟨1, ⟨by omega, by omega, fun _ e => h1 (e1.2 e), by omega, by omega⟩, by omega⟩
    · have := n1 (by omega)
      simp (disch := omega) [q0, q4]
      refine fork_dec (fun h1 => ?_) (fun h1 => ?_)
      · have h1 := e2.1 h1
        simp [kindB, h1]
      · simp (disch := omega) [q0, q4, wrap64]
        exact ⟨2, ⟨by omega, by omega, fun _ => this, fun _ e => h1 (e2.2 e), by omega⟩, by omega⟩
    · have := n1 (by omega)
      have := n2 (by omega)
      simp (disch := omega) [q0, q4]
      refine fork_dec (fun h1 => ?_) (fun h1 => ?_)
      · have h1 := e3.1 h1
        simp [kindB, h1]
      · simp (disch := omega) [q0, q4, wrap64]
        exact ⟨3, ⟨by omega, by omega, fun _ => by assumption, fun _ => by assumption, fun _ e => h1 (e3.2 e)⟩, by omega⟩
  · simp [kindB, n1 (by omega), n2 (by omega), n3 (by omega)]
end Am
/-! AmW2 -/
set_option linter.unusedVariables false
set_option linter.unusedSimpArgs false
set_option maxHeartbeats 4000000
set_option maxRecDepth 4000
namespace Am
open Go

def dgs (s : List UInt8) : List UInt8 := if s.head? = some 45 then s.drop 1 else s
def isDig (c : UInt8) : Bool := decide ((48 : Int) ≤ c.toNat) && decide ((c.toNat : Int) ≤ 57)
def valN (l : List UInt8) : Nat := l.foldl (fun n c => 10 * n + (c.toNat - 48)) 0
def rdV (s : List UInt8) : Int := if (dgs s).length < s.length then -(valN (dgs s) : Int) else valN (dgs s)
def rdOk (s : List UInt8) : Bool := decide (1 ≤ (dgs s).length) && (decide ((dgs s).length ≤ 18) && ((dgs s).all isDig && decide (decS (rdV s) = s)))
def rdDec (s : List UInt8) : Int × Bool := if rdOk s then (rdV s, true) else (0, false)
theorem valN_snoc (l : List UInt8) (c : UInt8) : valN (l ++ [c]) = 10 * valN l + (c.toNat - 48) := by simp [valN]
theorem valN_take {l : List UInt8} {k : Nat} (hk : k < l.length) : valN (l.take (k + 1)) = 10 * valN (l.take k) + (l[k].toNat - 48) := by
  rw [List.take_succ_eq_append_getElem hk, valN_snoc]
theorem valN_lt {l : List UInt8} (k : Nat) (hk : k ≤ l.length) (ha : (l.take k).all isDig = true) : valN (l.take k) + 1 ≤ 10 ^ k := by
  induction k with
  | zero => simp [valN]
  | succ k ih =>
    have k1 : k < l.length := by omega
    rw [List.take_succ_eq_append_getElem k1, List.all_append, Bool.and_eq_true] at ha
    have := ih (by omega) ha.1
    rw [valN_take k1, Nat.pow_succ]
    have h2 := ha.2
    simp [isDig] at h2
    omega
theorem valN_bd {l : List UInt8} {k : Nat} (hk : k ≤ l.length) (hl : l.length ≤ 18) (ha : (l.take k).all isDig = true) : valN (l.take k) ≤ 999999999999999999 := by
  have h1 := valN_lt k hk ha
  have h2 : 10 ^ k ≤ 10 ^ 18 := Nat.pow_le_pow_right (by omega) (by omega)
  have h3 : (10 : Nat) ^ 18 = 1000000000000000000 := by decide
  omega
theorem valN_bd' {l : List UInt8} {k : Nat} (hk : k < l.length) (hl : l.length ≤ 18) (ha : (l.take k).all isDig = true) : valN (l.take k) ≤ 99999999999999999 := by
  have h1 := valN_lt k (by omega) ha
  have h2 : 10 ^ k ≤ 10 ^ 17 := Nat.pow_le_pow_right (by omega) (by omega)
  have h3 : (10 : Nat) ^ 17 = 100000000000000000 := by decide
  omega
theorem dgs_len (s : List UInt8) : (dgs s).length ≤ s.length ∧ s.length ≤ (dgs s).length + 1 := by
  unfold dgs
  split
  · simp; omega
  · omega
theorem rdDec_64 (s : List UInt8) : I64 (rdDec s).1 := by
  unfold rdDec
  split
  · rename_i h
    simp only [rdOk, Bool.and_eq_true, decide_eq_true_eq] at h
    have := valN_bd (l := dgs s) (k := (dgs s).length) (Nat.le_refl _) h.2.1 (by rw [List.take_length]; exact h.2.2.1)
    rw [List.take_length] at this
    simp only [rdV]
    unfold I64
    split <;> omega
  · unfold I64; omega
theorem all_take_dig {l : List UInt8} {k : Nat} (hk : k < l.length) (h : (l.take k).all isDig = true) (h1 : isDig l[k] = true) : (l.take (k + 1)).all isDig = true := by
  rw [List.take_succ_eq_append_getElem hk, List.all_append]; simp [h, h1]
theorem all_dig_not {l : List UInt8} {k : Nat} (hk : k < l.length) (h1 : isDig l[k] = false) : l.all isDig = false := by
  rw [List.all_eq_false]
  exact ⟨l[k], List.getElem_mem hk, by simp [h1]⟩
theorem dgs_first {s : List UInt8} : (∃ h : 0 < s.length, s[0] = 45) ∧ dgs s = s.drop 1 ∨ (∀ h : 0 < s.length, s[0] ≠ 45) ∧ dgs s = s := by
  cases s with
  | nil => right; exact ⟨by simp, rfl⟩
  | cons c r =>
    by_cases h : c = 45
    · left; subst h; exact ⟨⟨by simp, rfl⟩, rfl⟩
    · right; exact ⟨fun _ => h, by simp [dgs, h]⟩

theorem c438 (c : UInt8) (h : Heap) : ACall Gam 438 [U c.toNat] h fun r h' => r = B (isDig c) ∧ h' = h := by
  refine ACall_intro g438 rfl ?_
  unfold fn438
  simp (disch := omega)
  refine fork_dec (fun h1 => ?_) (fun h1 => ?_)
  · simp (disch := omega) [isDig, h1]
  · simp (disch := omega) [isDig, h1]

theorem c118 (s : List UInt8) (hs : s.length ≤ 1048576) (h : Heap) (hp : 0 < h.length) : ACall Gam 118 [S s] h fun r h' => Grows h h' ∧ r = .tuple #[I (rdDec s).1, B (rdDec s).2] := by
  have hd := dgs_len s
  refine ACall_intro g118 rfl ?_
  unfold fn118
  rw [awp_seq, awp_reg]
  generalize hK : seqQ Gam _ _ 0 = K
  simp (disch := omega)
  subst hK
  simp only [seqQ_zero]
  rw [awp_seq, awp_reg]
  generalize hK : seqQ Gam _ _ 0 = K
  simp (disch := omega)
  subst hK
  simp only [seqQ_zero]
  rw [awp_seq]
  generalize hK : seqQ Gam _ _ = K
  have key : ∀ σ, σ 0 = S s → σ 4 = S (dgs s) → σ 2 = I 0 → σ 3 = B false → K 0 σ h := by
    intro σ q0 q4 q2 q3
    subst hK
    simp only [seqQ_zero]
    rw [awp_seq]
    generalize hK : seqQ Gam _ _ = K
    simp (disch := omega) [q0, q4]
    refine fork_dec (fun h1 => ?_) (fun h1 => ?_)
    · have e : rdDec s = (0, false) := by
        have : ¬ 1 ≤ (dgs s).length := by omega
        simp [rdDec, rdOk, this]
      subst hK
      rw [e]
      simp (disch := omega) [h1]
      exact Grows.refl _
    simp (disch := omega) [h1, q0, q4]
    refine fork_dec (fun h2 => ?_) (fun h2 => ?_)
    · have e : rdDec s = (0, false) := by
        have : ¬ (dgs s).length ≤ 18 := by omega
        simp [rdDec, rdOk, this]
      subst hK
      rw [e]
      simp (disch := omega)
      exact Grows.refl _
    simp (disch := omega)
    subst hK
    simp only [seqQ_zero]
    rw [awp_seq, awp_reg]
    generalize hK : seqQ Gam _ _ 0 = K
    simp (disch := omega)
    subst hK
    simp only [seqQ_zero]
    rw [awp_seq]
    generalize hK : seqQ Gam _ _ = K
    simp (disch := omega) [q4]
    obtain ⟨d, hdd⟩ : ∃ d, d = dgs s := ⟨_, rfl⟩
    rw [← hdd] at hd q4 h1 h2 ⊢
    refine awp_loop (fun (k : Nat) σ' h' => k ≤ d.length ∧ h' = h ∧ σ' 0 = S s ∧ σ' 4 = S d ∧ σ' 2 = I 0 ∧ σ' 3 = B false ∧ σ' 5 = I (valN (d.take k)) ∧ σ' 27 = I d.length ∧ σ' 28 = I k ∧ (d.take k).all isDig = true) (fun k => d.length - k) 0 ?_ ?_
    · exact ⟨by omega, rfl, by simp [q0], by simp [q4], by simp [q2], by simp [q3], by simp [valN], by simp [q4], by simp, by simp⟩
    rintro k σ' h' ⟨hk, rfl, p0, p4, p2, p3, p5, p27, p28, hall⟩
    simp (disch := omega) [p4, p27, p28]
    refine fork_dec (fun hlt => ?_) (fun hge => ?_)
    · have k1 : k < d.length := by omega
      have hv := valN_bd' k1 (by omega) hall
      simp (disch := omega) [p0, p2, p3, p4, p5, p27, p28, k1]
      refine fork_dec (fun h3 => ?_) (fun h3 => ?_)
      · have hn : isDig d[k] = false := by
          have : ¬ (48 : Int) ≤ d[k].toNat := by omega
          simp [isDig, this]
        have e : rdDec s = (0, false) := by simp [rdDec, rdOk, ← hdd, all_dig_not k1 hn]
        subst hK
        rw [e]
        simp (disch := omega) [h3]
        exact Grows.refl _
      simp (disch := omega) [h3, p0, p2, p3, p4, p5, p27, p28, k1]
      refine fork_dec (fun h4 => ?_) (fun h4 => ?_)
      · have hn : isDig d[k] = false := by
          have : ¬ (d[k].toNat : Int) ≤ 57 := by omega
          simp [isDig, this]
        have e : rdDec s = (0, false) := by simp [rdDec, rdOk, ← hdd, all_dig_not k1 hn]
        subst hK
        rw [e]
        simp (disch := omega)
        exact Grows.refl _
      have hd1 : isDig d[k] = true := by simp [isDig]; omega
      simp (disch := omega) [p0, p2, p3, p4, p5, p27, p28, k1, wrap64, wrap8]
      refine ⟨k + 1, ⟨by omega, ?_, by omega, List.all_eq_true.1 (all_take_dig k1 hall hd1)⟩, by omega⟩
      rw [valN_take k1]; omega
    · have hkn : k = d.length := by omega
      subst hkn
      have hv := valN_bd (by omega) (by omega) hall
      rw [List.take_length] at hall hv p5
      simp (disch := omega)
      subst hK
      simp only [seqQ_zero]
      rw [awp_seq]
      generalize hK : seqQ Gam _ _ = K
      have key2 : ∀ σ, σ 0 = S s → σ 5 = I (rdV s) → σ 2 = I 0 → σ 3 = B false → K 0 σ h' := by
        intro σ r0 r5 r2 r3
        have hb : I64 (rdV s) := by
          unfold rdV I64
          rw [← hdd]
          split <;> omega
        subst hK
        simp only [seqQ_zero]
        simp (disch := omega) [r0, r5]
        refine callW_of (c75 (rdV s) hb _ hp) ?_
        rintro _ h2 ⟨rfl, g2⟩
        simp (disch := omega) [r0]
        refine fork_dec (fun he => ?_) (fun he => ?_)
        · have e : rdDec s = (rdV s, true) := by
            simp [rdDec, rdOk, ← hdd, hall, he]
            omega
          rw [e]
          simp (disch := omega) [r5]
          exact g2
        · have e : rdDec s = (0, false) := by simp [rdDec, rdOk, he]
          rw [e]
          simp (disch := omega)
          exact g2
      simp (disch := omega) [p0, p4]
      refine fork_dec (fun hlt => ?_) (fun hlt => ?_)
      · have e : rdV s = -(valN d : Int) := by unfold rdV; rw [← hdd, if_pos (by omega)]
        simp (disch := omega) [p5, wrap64]
        exact key2 _ (by simp [p0]) (by simp [e]) (by simp [p2]) (by simp [p3])
      · have e : rdV s = (valN d : Int) := by unfold rdV; rw [← hdd, if_neg (by omega)]
        simp (disch := omega)
        exact key2 _ (by simp [p0]) (by simp [p5, e]) (by simp [p2]) (by simp [p3])
  rcases dgs_first (s := s) with ⟨⟨hpos, h45⟩, e⟩ | ⟨hno, e⟩
  · have hsl := slice_from (h := h) (s := s) (a := 1) (by omega)
    have e45 : (s[0].toNat : Int) = 45 := by rw [h45]; rfl
    simp (disch := omega) [hpos, e45]
    rw [show ((1 : Nat) : Int) = 1 from rfl] at hsl
    simp (disch := omega) [hsl]
    exact key _ (by simp) (by simp [e]) (by simp) (by simp)
  · by_cases hpos : 0 < s.length
    · have hne : ¬ (s[0].toNat : Int) = 45 := fun x => hno hpos (u8_eq (b := 45) |>.1 x)
      simp (disch := omega) [hpos, hne]
      exact key _ (by simp) (by simp [e]) (by simp) (by simp)
    · simp (disch := omega) [hpos]
      exact key _ (by simp) (by simp [e]) (by simp) (by simp)


theorem c439 (s : List UInt8) (hs : s.length ≤ 1048576) (h : Heap) (hp : 0 < h.length) : ACall Gam 439 [S s] h fun r h' => Grows h h' ∧ r = .tuple #[I (rdDec s).1, B (rdDec s).2] := by
  have hd := dgs_len s
  refine ACall_intro g439 rfl ?_
  unfold fn439
  rw [awp_seq, awp_reg]
  generalize hK : seqQ Gam _ _ 0 = K
  simp (disch := omega)
  subst hK
  simp only [seqQ_zero]
  rw [awp_seq, awp_reg]
  generalize hK : seqQ Gam _ _ 0 = K
  simp (disch := omega)
  subst hK
  simp only [seqQ_zero]
  rw [awp_seq]
  generalize hK : seqQ Gam _ _ = K
  have key : ∀ σ, σ 0 = S s → σ 4 = S (dgs s) → σ 2 = I 0 → σ 3 = B false → K 0 σ h := by
    intro σ q0 q4 q2 q3
    subst hK
    simp only [seqQ_zero]
    rw [awp_seq]
    generalize hK : seqQ Gam _ _ = K
    simp (disch := omega) [q0, q4]
    refine fork_dec (fun h1 => ?_) (fun h1 => ?_)
    · have e : rdDec s = (0, false) := by
        have : ¬ 1 ≤ (dgs s).length := by omega
        simp [rdDec, rdOk, this]
      subst hK
      rw [e]
      simp (disch := omega) [h1]
      exact Grows.refl _
    simp (disch := omega) [h1, q0, q4]
    refine fork_dec (fun h2 => ?_) (fun h2 => ?_)
    · have e : rdDec s = (0, false) := by
        have : ¬ (dgs s).length ≤ 18 := by omega
        simp [rdDec, rdOk, this]
      subst hK
      rw [e]
      simp (disch := omega)
      exact Grows.refl _
    simp (disch := omega)
    subst hK
    simp only [seqQ_zero]
    rw [awp_seq, awp_reg]
    generalize hK : seqQ Gam _ _ 0 = K
    simp (disch := omega)
    subst hK
    simp only [seqQ_zero]
    rw [awp_seq]
    generalize hK : seqQ Gam _ _ = K
    simp (disch := omega) [q4]
    obtain ⟨d, hdd⟩ : ∃ d, d = dgs s := ⟨_, rfl⟩
    rw [← hdd] at hd q4 h1 h2 ⊢
    refine awp_loop (fun (k : Nat) σ' h' => k ≤ d.length ∧ h' = h ∧ σ' 0 = S s ∧ σ' 4 = S d ∧ σ' 2 = I 0 ∧ σ' 3 = B false ∧ σ' 5 = I (valN (d.take k)) ∧ σ' 6 = I k ∧ (d.take k).all isDig = true) (fun k => d.length - k) 0 ?_ ?_
    · exact ⟨by omega, rfl, by simp [q0], by simp [q4], by simp [q2], by simp [q3], by simp [valN], by simp, by simp⟩
    rintro k σ' h' ⟨hk, rfl, p0, p4, p2, p3, p5, p6, hall⟩
    simp (disch := omega) [p4, p6]
    refine fork_dec (fun hlt => ?_) (fun hge => ?_)
    · have k1 : k < d.length := by omega
      have hv := valN_bd' k1 (by omega) hall
      simp (disch := omega) [p0, p2, p3, p4, p5, p6, k1]
      refine callW_of (c438 d[k] _) ?_
      rintro _ h1 ⟨rfl, rfl⟩
      cases hd1 : isDig d[k]
      · have e : rdDec s = (0, false) := by simp [rdDec, rdOk, ← hdd, all_dig_not k1 hd1]
        subst hK
        rw [e]
        simp (disch := omega)
        exact Grows.refl _
      have hdg := hd1
      simp [isDig] at hdg
      simp (disch := omega) [p0, p2, p3, p4, p5, p6, k1, wrap64, wrap8]
      refine ⟨k + 1, ⟨by omega, ?_, by omega, List.all_eq_true.1 (all_take_dig k1 hall hd1)⟩, by omega⟩
      rw [valN_take k1]; omega
    · have hkn : k = d.length := by omega
      subst hkn
      have hv := valN_bd (by omega) (by omega) hall
      rw [List.take_length] at hall hv p5
      simp (disch := omega)
      subst hK
      simp only [seqQ_zero]
      rw [awp_seq]
      generalize hK : seqQ Gam _ _ = K
      have key2 : ∀ σ, σ 0 = S s → σ 5 = I (rdV s) → σ 2 = I 0 → σ 3 = B false → K 0 σ h' := by
        intro σ r0 r5 r2 r3
        have hb : I64 (rdV s) := by
          unfold rdV I64
          rw [← hdd]
          split <;> omega
        subst hK
        simp only [seqQ_zero]
        simp (disch := omega) [r0, r5]
        refine callW_of (c437 (rdV s) hb _ hp) ?_
        rintro _ h2 ⟨rfl, g2⟩
        simp (disch := omega) [r0]
        refine fork_dec (fun he => ?_) (fun he => ?_)
        · have e : rdDec s = (rdV s, true) := by
            simp [rdDec, rdOk, ← hdd, hall, he]
            omega
          rw [e]
          simp (disch := omega) [r5]
          exact g2
        · have e : rdDec s = (0, false) := by simp [rdDec, rdOk, he]
          rw [e]
          simp (disch := omega)
          exact g2
      simp (disch := omega) [p0, p4]
      refine fork_dec (fun hlt => ?_) (fun hlt => ?_)
      · have e : rdV s = -(valN d : Int) := by unfold rdV; rw [← hdd, if_pos (by omega)]
        simp (disch := omega) [p5, wrap64]
        exact key2 _ (by simp [p0]) (by simp [e]) (by simp [p2]) (by simp [p3])
      · have e : rdV s = (valN d : Int) := by unfold rdV; rw [← hdd, if_neg (by omega)]
        simp (disch := omega)
        exact key2 _ (by simp [p0]) (by simp [p5, e]) (by simp [p2]) (by simp [p3])
  rcases dgs_first (s := s) with ⟨⟨hpos, h45⟩, e⟩ | ⟨hno, e⟩
  · have hsl := slice_from (h := h) (s := s) (a := 1) (by omega)
    have e45 : (s[0].toNat : Int) = 45 := by rw [h45]; rfl
    have hne0 : ¬ s = [] := by intro x; rw [x] at hpos; simp at hpos
    simp (disch := omega) [hpos, e45, hne0]
    rw [show ((1 : Nat) : Int) = 1 from rfl] at hsl
    simp (disch := omega) [hsl]
    exact key _ (by simp) (by simp [e]) (by simp) (by simp)
  · by_cases hpos : 0 < s.length
    · have hne : ¬ (s[0].toNat : Int) = 45 := fun x => hno hpos (u8_eq (b := 45) |>.1 x)
      have hne0 : ¬ s = [] := by intro x; rw [x] at hpos; simp at hpos
      simp (disch := omega) [hpos, hne, hne0]
      exact key _ (by simp) (by simp [e]) (by simp) (by simp)
    · have hs0 : s = [] := List.length_eq_zero_iff.1 (by omega)
      simp (disch := omega) [hs0]
      have e2 : dgs s = [] := by rw [e, hs0]
      exact key _ (by simp [hs0]) (by simp [e2]) (by simp) (by simp)

end Am

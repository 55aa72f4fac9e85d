/- Contracts: AmY2, AmY3, AmY4, AmY9, AmY10, AmY11, AmY5, AmY6, AmY12, AmY14, AmY8, AmY15, AmY16, AmY17, AmY18, AmY19, AmY20, AmY21, AmY22, AmY23, AmY28, AmY29, AmY30, AmY31, AmY32, AmY33, AmY36, AmY37, AmG4, AmG1, AmG2, AmG5, AmG6, AmS7, AmS8, AmG7, AmS10, AmS11. -/
import Derived.Test.YtaeaaogpdipjfaaAmK3
import Derived.Test.YtaeaaogpdipjfaaAmK2
import Derived.Test.YtaeaaogpdipjfaaAmK1
/-! AmY2 -/
set_option linter.unusedVariables false
set_option linter.unusedSimpArgs false
set_option maxHeartbeats 4000000
set_option maxRecDepth 4000
namespace Am
open Go

/-! ### names -/
def small (c : UInt8) : Bool := decide ((97 : Int) ≤ c.toNat) && decide ((c.toNat : Int) ≤ 122)
def nameC (c : UInt8) : Bool := small c || (isDig c || decide (c = 45))
def nameOk (s : List UInt8) : Bool := decide (1 ≤ s.length) && (decide (s.length ≤ 12) && (small (at8 s 0) && s.all nameC))

/-! ### the order of texts -/
theorem lexLt_trans : ∀ {a b c : List UInt8}, lexLt a b = true → lexLt b c = true → lexLt a c = true
  | [], b, [], h1, h2 => by cases b <;> simp [lexLt] at h2
  | [], b, c :: n, h1, h2 => by simp [lexLt]
  | a :: l, [], c, h1, h2 => by simp [lexLt] at h1
  | a :: l, b :: m, [], h1, h2 => by simp [lexLt] at h2
  | a :: l, b :: m, c :: n, h1, h2 => by
    simp only [lexLt, Bool.or_eq_true, Bool.and_eq_true, decide_eq_true_eq, beq_iff_eq] at h1 h2 ⊢
    rcases h1 with h1 | ⟨e1, h1⟩
    · rcases h2 with h2 | ⟨e2, h2⟩
      · exact .inl (UInt8.lt_trans h1 h2)
      · exact .inl (e2 ▸ h1)
    · subst e1
      rcases h2 with h2 | ⟨e2, h2⟩
      · exact .inl h2
      · exact .inr ⟨e2, lexLt_trans h1 h2⟩

/-! ### libraries -/
abbrev Lib := List Kpt
def kN (X : Lib) (i : Nat) : List UInt8 := (X.getD i ([], 0, 0, [])).1
def kP (X : Lib) (i : Nat) : Pan := (X.getD i ([], 0, 0, [])).2
theorem kN_of {X : Lib} {i : Nat} (h : i < X.length) : kN X i = X[i].1 := by simp [kN, h]
theorem kP_of {X : Lib} {i : Nat} (h : i < X.length) : kP X i = X[i].2 := by simp [kP, h]
/-- The index of a panel; the length if there is none. -/
def likeN (X : Lib) (p : Pan) : Nat := X.findIdx fun k => decide (k.2 = p)
def nameN (X : Lib) (s : List UInt8) : Nat := X.findIdx fun k => decide (k.1 = s)
/-- An index, or -1. -/
def ixI (k n : Nat) : Int := if k < n then k else -1
noncomputable def entOk (X : Lib) (i : Nat) : Bool := nameOk (kN X i) && (okP (kP X i) && ((decide (i = 0) || lexLt (kN X (i - 1)) (kN X i)) && (samP (canonP (kP X i)) (kP X i) && decide (likeN (X.take i) (kP X i) = i))))
noncomputable def allEnt (X : Lib) (k : Nat) : Bool := (List.range k).all (entOk X)
noncomputable def keptOk (X : Lib) : Bool := decide (X.length ≤ 40) && allEnt X X.length
structure EntOk (X : Lib) (i : Nat) : Prop where
  name : nameOk (kN X i) = true
  ok : OkP (kP X i)
  ord : i = 0 ∨ lexLt (kN X (i - 1)) (kN X i) = true
  canon : canonP (kP X i) = kP X i
  new : likeN (X.take i) (kP X i) = i
structure KeptOk (X : Lib) : Prop where
  len : X.length ≤ 40
  ent : ∀ i, i < X.length → EntOk X i
theorem KeptOk.name12 {X : Lib} (ok : KeptOk X) {i : Nat} (hi : i < X.length) : (kN X i).length ≤ 12 ∧ 1 ≤ (kN X i).length := by
  have := (ok.ent i hi).name
  simp only [nameOk, Bool.and_eq_true, decide_eq_true_eq] at this
  exact ⟨this.2.1, this.1⟩
end Am
/-! AmY3 -/
set_option linter.unusedVariables false
set_option linter.unusedSimpArgs false
set_option maxHeartbeats 4000000
set_option maxRecDepth 4000
namespace Am
open Go

end Am
/-! AmY4 -/
set_option linter.unusedVariables false
set_option linter.unusedSimpArgs false
set_option maxHeartbeats 4000000
set_option maxRecDepth 4000
namespace Am
open Go

end Am
/-! AmY9 -/
set_option linter.unusedVariables false
set_option linter.unusedSimpArgs false
set_option maxHeartbeats 4000000
set_option maxRecDepth 4000
namespace Am
open Go

end Am
/-! AmY10 -/
set_option linter.unusedVariables false
set_option linter.unusedSimpArgs false
set_option maxHeartbeats 4000000
set_option maxRecDepth 4000
namespace Am
open Go

/-- A library's entries are there. -/
def KAt (h : Heap) (b o z : Nat) (X : Lib) : Prop := (X.length ≤ maxLen ∧ (z = 4 ∨ b = 0)) ∧ ∀ i (hi : i < X.length), ∃ s, cellsAt h b (o + i * 4) 4 = some [S X[i].1, I X[i].2.1, I X[i].2.2.1, s] ∧ Vr h shInts s X[i].2.2.2 ∧ I64 X[i].2.1 ∧ I64 X[i].2.2.1 ∧ X[i].1.length ≤ 9223372036854775807
theorem KAt.grow {h h' : Heap} {b o z : Nat} {X : Lib} (x : KAt h b o z X) (g : Grows h h') : KAt h' b o z X :=
  ⟨x.1, fun i hi => by
    obtain ⟨s, c, r, w⟩ := x.2 i hi
    exact ⟨s, g.cellsAt c, r.grow g, w⟩⟩
theorem KAt.take {h : Heap} {b o z : Nat} {X : Lib} (x : KAt h b o z X) (i : Nat) : KAt h b o z (X.take i) :=
  ⟨⟨by rw [List.length_take]; have := x.1.1; omega, x.1.2⟩, fun j hj => by
    have hj' : j < X.length := by rw [List.length_take] at hj; omega
    obtain ⟨s, c, r, w⟩ := x.2 j hj'
    refine ⟨s, ?_, ?_, ?_⟩ <;> simp only [List.getElem_take] <;> assumption⟩
theorem KAt.cells {h : Heap} {b o z : Nat} {X : Lib} (x : KAt h b o z X) {i : Nat} (hi : i < X.length) : ∃ s, cellsAt h b (o + i * 4) 4 = some [S X[i].1, I X[i].2.1, I X[i].2.2.1, s] ∧ cell h b (o + i * 4) = some (S X[i].1) ∧ Vr h shPanel (.agg #[I X[i].2.1, I X[i].2.2.1, s]) X[i].2 ∧ PtP h (pt b (o + i * 4 + 1)) X[i].2 ∧ Vr h shInts s X[i].2.2.2 ∧ I64 X[i].2.1 ∧ I64 X[i].2.2.1 := by
  obtain ⟨s, c, r, w1, w2, w0⟩ := x.2 i hi
  have a1 := (cell_in (i := 0) c (by omega)).1
  have a2 := (cell_in (i := 1) c (by omega)).1
  have a3 := (cell_in (i := 2) c (by omega)).1
  have a4 := (cell_in (i := 3) c (by omega)).1
  refine ⟨s, c, by simpa using a1, Vr.of_panel w1 w2 r, ⟨b, o + i * 4 + 1, s, rfl, by simpa using a2, by simpa [Nat.add_assoc] using a3, by simpa [Nat.add_assoc] using a4, r, w1, w2⟩, r, w1, w2⟩
end Am
/-! AmY11 -/
set_option linter.unusedVariables false
set_option linter.unusedSimpArgs false
set_option maxHeartbeats 4000000
set_option maxRecDepth 4000
namespace Am
open Go

end Am
/-! AmY5 -/
set_option linter.unusedVariables false
set_option linter.unusedSimpArgs false
set_option maxHeartbeats 4000000
set_option maxRecDepth 4000
namespace Am
open Go

def pTxt (X : Pan) : List UInt8 := decS X.1 ++ ([120] ++ (decS X.2.1 ++ ([58] ++ X.2.2.map signB)))
def dgB (W : Int) : UInt8 := UInt8.ofNat (48 + W.toNat)
open Classical in
/-- The panel with a text; false if there is none. -/
noncomputable def readAns (s : List UInt8) : Pan × Bool := if e : ∃ X, OkP X ∧ pTxt X = s then (Classical.choose e, true) else ((0, 0, []), false)
/-! ### by places -/
def rpX (s : List UInt8) : Nat := (idx s 120 0).toNat
def rpC (s : List UInt8) : Nat := (idx s 58 0).toNat
def rpBad (s : List UInt8) : Prop := idx s 120 0 < 0 ∨ idx s 58 0 < idx s 120 0 ∨ (129 : Int) < s.length - idx s 58 0
def rpP (s : List UInt8) : Pan := ((rdDec (s.take (rpX s))).1, (rdDec ((s.take (rpC s)).drop (rpX s + 1))).1, (s.drop (rpC s + 1)).map kindB)
def rpOk (s : List UInt8) : Bool := (rdDec (s.take (rpX s))).2 && ((rdDec ((s.take (rpC s)).drop (rpX s + 1))).2 && (okP (rpP s) && decide (pTxt (rpP s) = s)))
/-! ### by parts -/
def nth (l : List (List UInt8)) (i : Nat) : List UInt8 := l.getD i []
def spW (s : List UInt8) : List (List UInt8) := splitS 58 s
def spV (s : List UInt8) : List (List UInt8) := splitS 120 (nth (spW s) 0)
def spP (s : List UInt8) : Pan := ((rdDec (nth (spV s) 0)).1, (rdDec (nth (spV s) 1)).1, (nth (spW s) 1).map kindB)
def spOk (s : List UInt8) : Bool := (rdDec (nth (spV s) 0)).2 && (rdDec (nth (spV s) 1)).2
end Am
/-! AmY6 -/
set_option linter.unusedVariables false
set_option linter.unusedSimpArgs false
set_option maxHeartbeats 4000000
set_option maxRecDepth 4000
namespace Am
open Go

def lineK (k : Kpt) : List UInt8 := k.1 ++ ([32] ++ (pTxt k.2 ++ [10]))
def kTxt (X : Lib) : List UInt8 := (X.map lineK).flatten
noncomputable def keptText (X : Lib) : List UInt8 := if keptOk X then kTxt X else []
theorem KeptOk.getOk {X : Lib} (ok : KeptOk X) {i : Nat} (hi : i < X.length) : OkP X[i].2 ∧ X[i].1.length ≤ 12 := by
  have h1 := (ok.ent i hi).ok
  have h2 := (ok.name12 hi).1
  rw [kP_of hi] at h1
  rw [kN_of hi] at h2
  exact ⟨h1, h2⟩
/-! ### packed -/
def packE (k : Kpt) : List UInt8 := byteI k.1.length :: (k.1 ++ packP k.2)
def packBodyK (X : Lib) : List UInt8 := (X.map packE).flatten
def packK (X : Lib) : List UInt8 := ended ([76, byteI X.length] ++ packBodyK X)
noncomputable def packAnsK (X : Lib) : List UInt8 × Int := if keptOk X then (packK X, 0) else ([], 1)

/-! ### found -/
def nameAt (X : Lib) (i : Nat) : List UInt8 := kN X i
noncomputable def nameOfAns (X : Lib) (p : Pan) : List UInt8 × Int := if keptOk X && okP p then (if likeN X (canonP p) < X.length then (kN X (likeN X (canonP p)), 0) else ([], 3)) else ([], 1)
noncomputable def namedAns (X : Lib) (s : List UInt8) : Pan × Int := if keptOk X then (if nameN X s < X.length then (kP X (nameN X s), 0) else ((0, 0, []), 3)) else ((0, 0, []), 1)
noncomputable def removeAns (X : Lib) (s : List UInt8) : Lib × Int := if keptOk X then (if nameN X s < X.length then (X.eraseIdx (nameN X s), 0) else ([], 3)) else ([], 1)
end Am
/-! AmY12 -/
set_option linter.unusedVariables false
set_option linter.unusedSimpArgs false
set_option maxHeartbeats 4000000
set_option maxRecDepth 4000
namespace Am
open Go

def pTxtK (X : Pan) (k : Nat) : List UInt8 := dgB X.1 :: 120 :: dgB X.2.1 :: 58 :: (X.2.2.take k).map signB
end Am
/-! AmY14 -/
set_option linter.unusedVariables false
set_option linter.unusedSimpArgs false
set_option maxHeartbeats 4000000
set_option maxRecDepth 4000
namespace Am
open Go

def keptIx (X : Lib) (s : List UInt8) (ok : Bool) : Int × Int := if ok then (if nameN X s < X.length then (nameN X s, 0) else (0, 3)) else (0, 1)
end Am
/-! AmY8 -/
set_option linter.unusedVariables false
set_option linter.unusedSimpArgs false
set_option maxHeartbeats 4000000
set_option maxRecDepth 4000
namespace Am
open Go

/-- In the order of the names. -/
def SortK (X : Lib) : Prop := X.Pairwise fun a b => lexLt a.1 b.1 = true
theorem KeptOk.lt {X : Lib} (ok : KeptOk X) : ∀ j i, i < j → j < X.length → lexLt (kN X i) (kN X j) = true := by
  intro j
  induction j with
  | zero => intro i h; omega
  | succ j ih =>
    intro i hi hj
    have h1 := ((ok.ent (j + 1) hj).ord).resolve_left (by omega)
    rw [Nat.add_sub_cancel] at h1
    by_cases e : i = j
    · subst e; exact h1
    · exact lexLt_trans (ih i (by omega) (by omega)) h1
structure IsPut (X : Lib) (s : List UInt8) (k : Nat) : Prop where
  le : k ≤ X.length
  lo : ∀ i (h : i < X.length), i < k → lexLt X[i].1 s = true
  hi : ∀ i (h : i < X.length), k ≤ i → lexLt s X[i].1 = true
def insK (k : Kpt) : Lib → Lib
  | [] => [k]
  | x :: X => if lexLt x.1 k.1 then x :: insK k X else k :: x :: X
theorem SortK.put {X : Lib} (h : SortK X) {s : List UInt8} (hn : ∀ y ∈ X, y.1 ≠ s) {k : Nat} (hk : k ≤ X.length) (lo : 0 < k → ∀ h : k - 1 < X.length, lexLt X[k - 1].1 s = true) (hi : ∀ h : k < X.length, lexLt s X[k].1 = true) : IsPut X s k := by
  unfold SortK at h
  rw [List.pairwise_iff_getElem] at h
  refine ⟨hk, fun i hl hik => ?_, fun i hl hik => ?_⟩
  · by_cases e : i = k - 1
    · subst e; exact lo (by omega) hl
    · exact lexLt_trans (h i (k - 1) hl (by omega) (by omega)) (lo (by omega) (by omega))
  · by_cases e : i = k
    · subst e; exact hi hl
    · exact lexLt_trans (hi (by omega)) (h k i (by omega) hl (by omega))

noncomputable def addAns (X : Lib) (s : List UInt8) (p : Pan) : Lib × Int :=
  if keptOk X && okP p then (if nameOk s then (if nameN X s < X.length ∨ likeN X (canonP p) < X.length then ([], 4) else if 40 ≤ X.length then ([], 5) else (insK (s, canonP p) X, 0)) else ([], 7)) else ([], 1)

/-! ### merged -/
def mrg (A : Lib) : Lib → Lib → Option Lib
  | out, [] => some out
  | out, b :: l => if ixI (nameN A b.1) A.length = ixI (likeN A b.2) A.length then (if nameN A b.1 < A.length then mrg A out l else mrg A (insK b out) l) else none
def mrgS : Lib → Lib → Option Lib
  | out, [] => some out
  | out, b :: l => if ixI (nameN out b.1) out.length = ixI (likeN out b.2) out.length then (if nameN out b.1 < out.length then mrgS out l else mrgS (insK b out) l) else none
def SameAt (X : Lib) (s : List UInt8) (p : Pan) : Prop := (∀ e ∈ X, e.1 ≠ s ∧ e.2 ≠ p) ∨ ∃ e ∈ X, e.1 = s ∧ e.2 = p
/-- Names are different, and so are panels. -/
structure Diff (X : Lib) : Prop where
  n : X.Pairwise fun a b => a.1 ≠ b.1
  p : X.Pairwise fun a b => a.2 ≠ b.2
noncomputable def mergeRes (o : Option Lib) : Lib × Int := match o with
  | none => ([], 4)
  | some x => if 40 < x.length then ([], 5) else (x, 0)
noncomputable def mergeAnsK (A B : Lib) : Lib × Int := if keptOk A && keptOk B then mergeRes (mrg A A B) else ([], 1)
noncomputable def withAns (X : Lib) (f : Pan → Int) (c : Int) : List (List UInt8) × Int := if keptOk X then ((X.filter fun k => decide (f k.2 = c)).map (·.1), 0) else ([], 1)
end Am
/-! AmY15 -/
set_option linter.unusedVariables false
set_option linter.unusedSimpArgs false
set_option maxHeartbeats 4000000
set_option maxRecDepth 4000
namespace Am
open Go

/-- An entry, the block of its breaks and what its slice says of the size. -/
abbrev Row := Kpt × Nat × Nat
def rbr (r : Row) : List Int := r.1.2.2.2
def rowS (r : Row) : Value := sl r.2.1 0 (rbr r).length r.2.2
def rowC (r : Row) : List Value := [S r.1.1, I r.1.2.1, I r.1.2.2.1, rowS r]
def rowB (r : Row) : List Nat := if rbr r = [] then [] else [r.2.1]
structure EntO (h : Heap) (r : Row) : Prop where
  z : r.2.2 = 1 ∨ r.2.1 = 0 ∧ rbr r = []
  m : (rbr r).length ≤ maxLen
  x : ∀ x ∈ rbr r, I64 x
  b : rbr r = [] ∨ h[r.2.1]? = some ⟨ints (rbr r), true⟩
  w : I64 r.1.2.1
  h : I64 r.1.2.2.1
  n : r.1.1.length ≤ maxLen
def rowsC (L : List Row) : List Value := (L.map rowC).flatten
theorem rowsC_len : ∀ L : List Row, (rowsC L).length = L.length * 4
  | [] => rfl
  | r :: L => by
    have := rowsC_len L
    simp only [rowsC, List.map_cons, List.flatten_cons, List.length_append, List.length_cons] at this ⊢
    rw [this]; simp [rowC]; omega
theorem rowsC_cons (r : Row) (b : List Row) : rowsC (r :: b) = rowC r ++ rowsC b := by simp [rowsC]
structure KO (h : Heap) (lo hi b z : Nat) (L : List Row) : Prop where
  z : z = 4 ∨ b = 0 ∧ L = []
  m : L.length ≤ maxLen
  el : ∀ r ∈ L, EntO h r
  blk : L = [] ∨ h[b]? = some ⟨rowsC L, true⟩ ∧ lo ≤ b ∧ b < hi
  nd : (L.map rowB).flatten.Nodup
  rg : ∀ r ∈ L, ∀ c ∈ rowB r, lo ≤ c ∧ c < hi
theorem EntO.ow {h : Heap} {r : Row} (e : EntO h r) : Ow h shKept (rowC r) r.1 (rowB r) := by
  refine ⟨[S r.1.1], [I r.1.2.1, I r.1.2.2.1, rowS r], [], rowB r, rfl, rfl, ⟨rfl, e.n, rfl⟩, [I r.1.2.1], [I r.1.2.2.1, rowS r], [], rowB r, rfl, rfl, ⟨rfl, wf_i64.2 e.w, rfl⟩, [I r.1.2.2.1], [rowS r], [], rowB r, rfl, rfl, ⟨rfl, wf_i64.2 e.h, rfl⟩, ?_⟩
  refine ⟨r.2.1, r.2.2, (rbr r).map fun x => [I x], (rbr r).map fun _ => [], rfl, e.z, e.m, all3_ints h _ e.x, ?_⟩
  by_cases h0 : rbr r = []
  · exact .inl ⟨h0, by simp [rowB, h0]⟩
  · exact .inr ⟨h0, by rw [rowB, if_neg h0, nils_flat], by rw [flat_ints]; exact e.b.resolve_left h0⟩
theorem EntO.of {h : Heap} {c : List Value} {k : Kpt} {s : List Nat} (o : Ow h shKept c k s) : ∃ b z, c = rowC (k, b, z) ∧ s = rowB (k, b, z) ∧ EntO h (k, b, z) := by
  obtain ⟨n, W, H, br⟩ := k
  obtain ⟨c1, c2, b1, b2, rfl, rfl, ⟨rfl, w0, rfl⟩, c3, c4, b3, b4, rfl, rfl, ⟨rfl, w1, rfl⟩, c5, c6, b5, b6, rfl, rfl, ⟨rfl, w2, rfl⟩, b, z, css, bss, rfl, hz, hm, h1, h2⟩ := o
  obtain ⟨e1, e2, e3⟩ := All3.ints h1
  refine ⟨b, z, rfl, ?_, hz, hm, e2, ?_, wf_i64.1 w1, wf_i64.1 w2, w0⟩
  · rcases h2 with ⟨q1, q2⟩ | ⟨q1, q2, q3⟩
    · have q1' : br = [] := q1
      subst q1'; simp [rowB, rbr, q2]
    · have q1' : ¬ br = [] := q1
      rw [e3] at q2
      simp [rowB, rbr, q1', q2]
  · rcases h2 with ⟨q1, q2⟩ | ⟨q1, q2, q3⟩
    · exact .inl q1
    · rw [e1] at q3; exact .inr q3
theorem rows_of {h : Heap} : ∀ {css : List (List Value)} {X : Lib} {bss : List (List Nat)}, All3 (fun c y s => Ow h shKept c y s) css X bss → ∃ L : List Row, X = L.map (·.1) ∧ css = L.map rowC ∧ bss = L.map rowB ∧ ∀ r ∈ L, EntO h r
  | [], [], [], _ => ⟨[], rfl, rfl, rfl, by simp⟩
  | c :: css, y :: x, s :: bss, r => by
    obtain ⟨b, z, e1, e2, e3⟩ := EntO.of r.1
    obtain ⟨L, f1, f2, f3, f4⟩ := rows_of r.2
    refine ⟨(y, b, z) :: L, by rw [f1]; rfl, by rw [e1, f2]; rfl, by rw [e2, f3]; rfl, fun q hq => ?_⟩
    rcases List.mem_cons.1 hq with e | e
    · rw [e]; exact e3
    · exact f4 q e
  | [], _ :: _, _, r => r.elim
  | [], [], _ :: _, r => r.elim
  | _ :: _, [], _, r => r.elim
  | _ :: _, _ :: _, [], r => r.elim
theorem rows_all {h : Heap} : ∀ {L : List Row}, (∀ r ∈ L, EntO h r) → All3 (fun c y s => Ow h shKept c y s) (L.map rowC) (L.map (·.1)) (L.map rowB)
  | [], _ => trivial
  | r :: L, f => ⟨(f r (by simp)).ow, rows_all fun q hq => f q (by simp [hq])⟩
/-- The list's own block is none of its entries' blocks. -/
theorem rows_nb {h : Heap} {b : Nat} {L : List Row} (el : ∀ r ∈ L, EntO h r) (hb : L = [] ∨ h[b]? = some ⟨rowsC L, true⟩) : ∀ r ∈ L, b ∉ rowB r := by
  intro r hr hm
  unfold rowB at hm
  split at hm
  · simp at hm
  · rename_i hne
    simp at hm
    have e1 := (el r hr).b.resolve_left hne
    rw [← hm] at e1
    cases L with
    | nil => simp at hr
    | cons q L =>
      have e2 := hb.resolve_left (by simp)
      rw [e1] at e2
      simp only [Option.some.injEq, Blk.mk.injEq, and_true] at e2
      rw [rowsC_cons] at e2
      cases hx : rbr r with
      | nil => exact hne hx
      | cons a l => rw [hx] at e2; simp [ints, rowC] at e2
theorem Vo.rows {h : Heap} {lo hi : Nat} {v : Value} {X : Lib} (x : Vo h lo hi shKepts v X) : ∃ b z L, v = sl b 0 X.length z ∧ X = L.map (·.1) ∧ KO h lo hi b z L := by
  obtain ⟨cs, bs, ⟨b, z, css, bss, rfl, hz, hm, h1, h2⟩, rfl, nd, hb⟩ := x
  obtain ⟨L, f1, f2, f3, f4⟩ := rows_of h1
  have hl : L = [] ↔ X = [] := by rw [f1]; simp
  refine ⟨b, z, L, rfl, f1, hz.imp id (fun q => ⟨q.1, hl.2 q.2⟩), by have := congrArg List.length f1; simp at this; rw [← this]; exact hm, f4, ?_, ?_, ?_⟩
  · rcases h2 with ⟨q, _⟩ | ⟨_, q2, q3⟩
    · exact .inl (hl.2 q)
    · exact .inr ⟨by rw [f2] at q3; exact q3, hb b (by rw [q2]; simp)⟩
  · rcases h2 with ⟨q, _⟩ | ⟨_, q2, q3⟩
    · have := hl.2 q
      subst this; simp
    · rw [q2] at nd
      rw [← f3]; exact (List.nodup_cons.1 nd).2
  · intro r hr c hc
    rcases h2 with ⟨q, _⟩ | ⟨_, q2, q3⟩
    · have := hl.2 q
      subst this; simp at hr
    · refine hb c ?_
      rw [q2, f3]
      exact List.mem_cons_of_mem _ (List.mem_flatten.2 ⟨_, List.mem_map.2 ⟨r, hr, rfl⟩, hc⟩)
theorem KO.vo {h : Heap} {lo hi b z : Nat} {L : List Row} (k : KO h lo hi b z L) : Vo h lo hi shKepts (sl b 0 L.length z) (L.map (·.1)) := by
  have nb := rows_nb (b := b) k.el (k.blk.imp id fun q => q.1)
  refine ⟨[sl b 0 L.length z], if L = [] then [] else b :: (L.map rowB).flatten, ⟨b, z, L.map rowC, L.map rowB, by simp, k.z.imp id fun q => ⟨q.1, by rw [q.2]; rfl⟩, by rw [List.length_map]; exact k.m, rows_all k.el, ?_⟩, rfl, ?_, ?_⟩
  · by_cases e : L = []
    · exact .inl ⟨by rw [e]; rfl, by rw [if_pos e]⟩
    · exact .inr ⟨by simpa using e, by rw [if_neg e], (k.blk.resolve_left e).1⟩
  · split
    · simp
    · refine List.nodup_cons.2 ⟨fun hm => ?_, k.nd⟩
      obtain ⟨s, hs, hb⟩ := List.mem_flatten.1 hm
      obtain ⟨r, hr, rfl⟩ := List.mem_map.1 hs
      exact nb r hr hb
  · intro c hc
    split at hc
    · simp at hc
    · rename_i e
      rcases List.mem_cons.1 hc with q | q
      · rw [q]; exact (k.blk.resolve_left e).2
      · obtain ⟨s, hs, hb⟩ := List.mem_flatten.1 q
        obtain ⟨r, hr, rfl⟩ := List.mem_map.1 hs
        exact k.rg r hr c hb
theorem EntO.frame {h h' : Heap} {r : Row} (e : EntO h r) (f : ∀ c ∈ rowB r, h'[c]? = h[c]?) : EntO h' r := by
  refine ⟨e.z, e.m, e.x, ?_, e.w, e.h, e.n⟩
  by_cases h0 : rbr r = []
  · exact .inl h0
  · exact .inr (by rw [f r.2.1 (by rw [rowB, if_neg h0]; simp)]; exact e.b.resolve_left h0)
theorem EntO.lt {h : Heap} {r : Row} (e : EntO h r) : ∀ c ∈ rowB r, c < h.length := by
  intro c hc
  unfold rowB at hc
  split at hc
  · simp at hc
  · rename_i h0
    simp at hc; rw [hc]; exact at_lt (e.b.resolve_left h0)
end Am
/-! AmY16 -/
set_option linter.unusedVariables false
set_option linter.unusedSimpArgs false
set_option maxHeartbeats 4000000
set_option maxRecDepth 4000
namespace Am
open Go

def kW (y : Kpt) : Nat := 3 + y.2.2.2.length
def kM (y : Kpt) (k : Nat) : Kpt := (markOf k, ((k + 1 : Nat) : Int), ((k + 2 : Nat) : Int), nums (k + 3) y.2.2.2.length)
def kMs : Lib → Nat → Lib
  | [], _ => []
  | y :: l, k => kM y k :: kMs l (k + kW y)
/-- Where an entry's marks begin. -/
def kPos (X : Lib) (k i : Nat) : Nat := k + ((X.take i).map kW).sum
theorem EntO.vo {h : Heap} {r : Row} (e : EntO h r) : ∃ lo hi, Vo h lo hi shInts (rowS r) (rbr r) ∧ (∀ c, lo ≤ c → c < hi → c ∈ rowB r) ∧ (rbr r = [] ∨ lo = r.2.1 ∧ hi = r.2.1 + 1) := by
  by_cases h0 : rbr r = []
  · refine ⟨0, 0, ?_, fun c _ h => by omega, .inl h0⟩
    exact Vo.of_ints e.z e.m e.x (.inl h0)
  · refine ⟨r.2.1, r.2.1 + 1, ?_, fun c h1 h2 => by rw [rowB, if_neg h0]; simp; omega, .inr ⟨rfl, rfl⟩⟩
    exact Vo.of_ints e.z e.m e.x (.inr ⟨e.b.resolve_left h0, by omega, by omega⟩)
end Am
/-! AmY17 -/
set_option linter.unusedVariables false
set_option linter.unusedSimpArgs false
set_option maxHeartbeats 4000000
set_option maxRecDepth 4000
namespace Am
open Go

/-- A list of rows that is being made. -/
structure KB (h0 h : Heap) (v : Value) (L : List Row) : Prop where
  b : Buf h0 h v 4 (rowsC L)
  el : ∀ r ∈ L, EntO h r
  nd : (L.map rowB).flatten.Nodup
  rg : ∀ r ∈ L, ∀ c ∈ rowB r, h0.length ≤ c
theorem KB.nil {h0 h : Heap} : KB h0 h (sl 0 0 0 4) [] := ⟨by simpa [rowsC] using Buf.nil, by simp, by simp, by simp⟩
theorem KB.ko {h0 h : Heap} {v : Value} {L : List Row} (k : KB h0 h v L) (hm : L.length ≤ maxLen) : ∃ b, v = sl b 0 L.length 4 ∧ KO h h0.length h.length b 4 L := by
  have hl := rowsC_len L
  rcases k.b with ⟨e1, e2⟩ | ⟨b, n, e1, e2, e3, e4⟩
  · have : L = [] := by
      rw [e1] at hl; simp at hl; exact List.length_eq_zero_iff.1 (by omega)
    subst this
    exact ⟨0, e2, .inl rfl, hm, k.el, .inl rfl, k.nd, by simp⟩
  · rw [hl] at e2
    have : n = L.length := by omega
    subst this
    exact ⟨b, e1, .inl rfl, hm, k.el, .inr ⟨e4, e3, at_lt e4⟩, k.nd, fun r hr c hc => ⟨k.rg r hr c hc, (k.el r hr).lt c hc⟩⟩
theorem KB.vo {h0 h : Heap} {v : Value} {L : List Row} (k : KB h0 h v L) (hm : L.length ≤ maxLen) : Vo h h0.length h.length shKepts v (L.map (·.1)) := by
  obtain ⟨b, rfl, ko⟩ := k.ko hm
  exact KO.vo ko
theorem KB.len {h0 h : Heap} {v : Value} {L : List Row} (k : KB h0 h v L) : ∃ b, v = sl b 0 L.length 4 := by
  have hl := rowsC_len L
  rcases k.b with ⟨e1, e2⟩ | ⟨b, n, e1, e2, e3, e4⟩
  · have : L = [] := by
      rw [e1] at hl; simp at hl; exact List.length_eq_zero_iff.1 (by omega)
    subst this
    exact ⟨0, e2⟩
  · rw [hl] at e2
    have : n = L.length := by omega
    subst this
    exact ⟨b, e1⟩
end Am
/-! AmY18 -/
set_option linter.unusedVariables false
set_option linter.unusedSimpArgs false
set_option maxHeartbeats 4000000
set_option maxRecDepth 4000
namespace Am
open Go

/-! ### parts of a list put together -/
def KCs (h : Heap) (X : Lib) (cs : List Value) : Prop := cs.length = X.length * 4 ∧ ∀ i (hi : i < X.length), ∃ s, (cs.drop (i * 4)).take 4 = [S X[i].1, I X[i].2.1, I X[i].2.2.1, s] ∧ Vr h shInts s X[i].2.2.2 ∧ I64 X[i].2.1 ∧ I64 X[i].2.2.1 ∧ X[i].1.length ≤ 9223372036854775807
theorem KCs.nil {h : Heap} : KCs h [] [] := ⟨rfl, fun i hi => by simp at hi⟩
theorem KCs.append {h : Heap} {X Y : Lib} {a b : List Value} (x : KCs h X a) (y : KCs h Y b) : KCs h (X ++ Y) (a ++ b) := by
  refine ⟨by rw [List.length_append, List.length_append, x.1, y.1]; omega, fun i hi => ?_⟩
  rw [List.length_append] at hi
  by_cases e : i < X.length
  · obtain ⟨s, c, r⟩ := x.2 i e
    rw [List.getElem_append_left e]
    refine ⟨s, ?_, r⟩
    rw [List.drop_append_of_le_length (by rw [x.1]; omega), List.take_append_of_le_length (by rw [List.length_drop, x.1]; omega), c]
  · obtain ⟨s, c, r⟩ := y.2 (i - X.length) (by omega)
    rw [List.getElem_append_right (by omega)]
    refine ⟨s, ?_, r⟩
    rw [List.drop_append, List.drop_eq_nil_of_le (by rw [x.1]; omega), List.nil_append, x.1, show i * 4 - X.length * 4 = (i - X.length) * 4 by omega, c]
theorem KAt.part {h : Heap} {b o z : Nat} {X : Lib} (x : KAt h b o z X) (hz : z = 4 ∨ X = []) {i j : Nat} (hij : i ≤ j) (hj : j ≤ X.length) : ∃ cs, newCells 4 h (sl b (o + i * z) (j - i) z) = some cs ∧ KCs h ((X.take j).drop i) cs := by
  by_cases e : j - i = 0
  · have : i = j := by omega
    subst this
    refine ⟨[], by simp [newCells], ?_⟩
    rw [List.drop_eq_nil_of_le (by rw [List.length_take]; omega)]
    exact KCs.nil
  · have hz4 : z = 4 := by
      rcases hz with q | q
      · exact q
      · subst q; simp at hj; omega
    subst hz4
    obtain ⟨s, c, _⟩ := x.2 (j - 1) (by omega)
    obtain ⟨k, hk⟩ : ∃ k, h[b]? = some k := by
      unfold cellsAt at c
      cases q : h[b]? with
      | none => simp [q] at c
      | some k => exact ⟨k, rfl⟩
    have hlen : o + (j - 1) * 4 + 4 ≤ k.cells.length := by
      unfold cellsAt at c
      simp only [hk] at c
      split at c
      · assumption
      · cases c
    refine ⟨(k.cells.drop (o + i * 4)).take ((j - i) * 4), ?_, ?_, fun m hm => ?_⟩
    · simp only [newCells, sl]
      rw [if_neg e, cellsAt_of hk (by omega)]
    · rw [List.length_take, List.length_drop, List.length_drop, List.length_take]; omega
    · rw [List.length_drop, List.length_take] at hm
      obtain ⟨s, c, r⟩ := x.2 (i + m) (by omega)
      rw [List.getElem_drop, List.getElem_take]
      refine ⟨s, ?_, r⟩
      have : o + (i + m) * 4 + 4 ≤ k.cells.length := by omega
      rw [cellsAt_of hk (by omega)] at c
      injection c with c
      rw [List.drop_take, List.take_take, List.drop_drop, ← c, show o + i * 4 + m * 4 = o + (i + m) * 4 by omega]
      congr 1; omega
theorem KeptOk.small {X : Lib} (ok : KeptOk X) : ∀ y ∈ X, y.1.length ≤ 12 ∧ y.2.2.2.length ≤ 128 := by
  intro y hy
  obtain ⟨j, hj, rfl⟩ := List.getElem_of_mem hy
  obtain ⟨okp, hn⟩ := ok.getOk hj
  exact ⟨hn, okp.siz⟩
end Am
/-! AmY19 -/
set_option linter.unusedVariables false
set_option linter.unusedSimpArgs false
set_option maxHeartbeats 4000000
set_option maxRecDepth 4000
namespace Am
open Go

/-! ### the program: sought by halves, inserted -/
def cmpT (a b : List UInt8) : Int := if lexLt a b = true then -1 else if lexLt b a = true then 1 else 0
end Am
/-! AmY20 -/
set_option linter.unusedVariables false
set_option linter.unusedSimpArgs false
set_option maxHeartbeats 4000000
set_option maxRecDepth 4000
namespace Am
open Go

theorem KB.grow {h0 h h' : Heap} {v : Value} {L : List Row} (k : KB h0 h v L) (g : Grows h h') : KB h0 h' v L :=
  ⟨k.b.grow g, fun r hr => (k.el r hr).frame fun c hc => g.look ((k.el r hr).lt c hc), k.nd, k.rg⟩
/-- All that was there stays, but for a list's own block. -/
def FrameOut (h h' : Heap) (v w : Value) : Prop := h.length ≤ h'.length ∧ (∃ b2 n2, w = sl b2 0 n2 4 ∧ h.length ≤ b2) ∧ ∀ c, c < h.length → (∀ m, v ≠ sl c 0 m 4) → h'[c]? = h[c]?
/-- Rows that are of a list, or are one row. -/
def OneMore (L' : List Row) (r : Row) (L : List Row) : Prop := ∀ q ∈ L', q = r ∨ q ∈ L
end Am
/-! AmY21 -/
set_option linter.unusedVariables false
set_option linter.unusedSimpArgs false
set_option maxHeartbeats 4000000
set_option maxRecDepth 4000
namespace Am
open Go

/-- Short names, no more breaks than panels have. -/
def SmallK (X : Lib) : Prop := ∀ y ∈ X, y.1.length ≤ 12 ∧ y.2.2.2.length ≤ 128
end Am
/-! AmY22 -/
set_option linter.unusedVariables false
set_option linter.unusedSimpArgs false
set_option maxHeartbeats 4000000
set_option maxRecDepth 4000
namespace Am
open Go

theorem EntO.vr {h : Heap} {r : Row} (e : EntO h r) : Vr h shPanel (.agg #[I r.1.2.1, I r.1.2.2.1, rowS r]) r.1.2 := by
  obtain ⟨lo, hi, vo, _⟩ := e.vo
  exact Vr.of_panel e.w e.h vo.vr
/-- Rows that are of a list, or of the first of another. -/
def FromTwo (L L0 LB : List Row) (k : Nat) : Prop := ∀ q ∈ L, q ∈ L0 ∨ ∃ j, j < k ∧ ∃ hj : j < LB.length, q = LB[j]
/-- The rows that are put in are there. -/
def RowsThere (h : Heap) (bw : Nat) (LB : List Row) : Prop := (LB = [] ∨ h[bw]? = some ⟨rowsC LB, true⟩) ∧ ∀ r ∈ LB, EntO h r
theorem RowsThere.grow {h h' : Heap} {bw : Nat} {LB : List Row} (x : RowsThere h bw LB) (g : Grows h h') : RowsThere h' bw LB :=
  ⟨x.1.imp id fun q => g.at q, fun r hr => (x.2 r hr).frame fun c hc => g.look ((x.2 r hr).lt c hc)⟩
/-- A list's own block lies outside a range. -/
def Outside (v : Value) (lo hi : Nat) : Prop := ∀ c m, v = sl c 0 m 4 → c = 0 ∨ c < lo ∨ hi ≤ c
end Am
/-! AmY23 -/
set_option linter.unusedVariables false
set_option linter.unusedSimpArgs false
set_option maxHeartbeats 4000000
set_option maxRecDepth 4000
namespace Am
open Go

end Am
/-! AmY28 -/
set_option linter.unusedVariables false
set_option linter.unusedSimpArgs false
set_option maxHeartbeats 4000000
set_option maxRecDepth 4000
namespace Am
open Go

/-- A walker. -/
def wv (w : Wk) : Value := .agg #[I w.1, I w.2.1, I w.2.2.1, I w.2.2.2]
end Am
/-! AmY29 -/
set_option linter.unusedVariables false
set_option linter.unusedSimpArgs false
set_option maxHeartbeats 4000000
set_option maxRecDepth 4000
namespace Am
open Go

end Am
/-! AmY30 -/
set_option linter.unusedVariables false
set_option linter.unusedSimpArgs false
set_option maxHeartbeats 4000000
set_option maxRecDepth 4000
namespace Am
open Go

/-- Two slices have no block in common. -/
def Apart (v w : Value) : Prop := ∀ b c n m z y, v = sl b 0 n z → w = sl c 0 m y → b = c → b = 0
theorem Apart.symm {v w : Value} (a : Apart v w) : Apart w v := fun b c n m z y h1 h2 e => by
  have := a c b m n y z h2 h1 e.symm; omega
/-- Appending to an own slice: what it becomes, and what stays. -/
theorem append_own {H0 B0 h : Heap} {v x : Value} {z : Nat} {cs new : List Value} {k : Value → Heap → Prop} (hp : 0 < B0.length) (g : Grows H0 h) (hB : H0.length ≤ B0.length) (hBh : B0.length ≤ h.length) (hv : Buf B0 h v z cs) (hn : newCells z h x = some new) (hz : 0 < z) (hne : new ≠ []) (hm : new.length / z * z = new.length)
    (hmax : cs.length + new.length ≤ maxSize) (hk : ∀ n' h', Grows H0 h' → h.length < h'.length → n' * z = (cs ++ new).length → h'[h.length]? = some ⟨cs ++ new, true⟩ → (∀ c kk, h[c]? = some kk → (∀ n, v ≠ sl c 0 n z) → h'[c]? = some kk) → k (sl h.length 0 n' z) h') : bindW (aAppend z h x v) k := by
  rcases hv with ⟨rfl, rfl⟩ | ⟨b, n, rfl, h2, h3, h4⟩
  · have e : aAppend z h x (sl 0 0 0 z) = some (sl h.length 0 (new.length / z) z, h ++ [⟨new, true⟩]) := by
      simp only [aAppend, hn]
      rw [if_neg (by omega), if_neg hne, if_neg (by simp at hmax; omega), if_pos trivial]
    rw [e]
    exact hk _ _ (g.push _) (by simp) hm (by simp) fun c kk hc _ => push_at hc
  · have hnz : n ≤ cs.length := by rw [← h2]; exact Nat.le_mul_of_pos_right n hz
    have e : aAppend z h x (sl b 0 n z) = some (sl h.length 0 (n + new.length / z) z, h.set b ⟨[], false⟩ ++ [⟨cs ++ new, true⟩]) := by
      simp only [aAppend, hn]
      rw [if_neg (by omega), if_neg hne, if_neg (by omega), if_neg (by omega)]
      simp only [h4]
      rw [if_pos ⟨trivial, trivial⟩, cellsAt_all h4 h2]
    rw [e]
    have hb := at_lt h4
    refine hk _ _ ((g.put (by omega) _).push _) (by simp) (by rw [Nat.add_mul, hm, h2]; simp) (by simp) fun c kk hc hne' => ?_
    exact push_at (put_at hc fun e => hne' n (by rw [e]))
/-- A second own slice beside it. -/
theorem Buf.keep {B0 h h' : Heap} {v w : Value} {z y : Nat} {cs : List Value} (hp : 0 < B0.length) (hw : Buf B0 h w y cs) (a : Apart v w) (fr : ∀ c kk, h[c]? = some kk → (∀ n, v ≠ sl c 0 n z) → h'[c]? = some kk) : Buf B0 h' w y cs := by
  rcases hw with ⟨rfl, rfl⟩ | ⟨b, n, rfl, h2, h3, h4⟩
  · exact .inl ⟨rfl, rfl⟩
  · refine .inr ⟨b, n, rfl, h2, h3, fr b _ h4 fun m e => ?_⟩
    have := a b b m n z y e rfl rfl
    omega
theorem apart_new {B0 h : Heap} {w : Value} {n z y : Nat} {cs : List Value} (hp : 0 < B0.length) (hBh : B0.length ≤ h.length) (hw : Buf B0 h w y cs) : Apart (sl h.length 0 n z) w := by
  intro b c n1 m z1 y1 h1 h2 e
  simp [sl] at h1
  rcases hw with ⟨rfl, rfl⟩ | ⟨b2, n2, rfl, _, _, h4⟩
  · simp [sl] at h2 <;> omega
  · have := at_lt h4
    simp [sl] at h2 <;> omega
theorem buf_new {B0 h h' : Heap} {n z : Nat} {cs : List Value} (hBh : B0.length ≤ h.length) (hn : n * z = cs.length) (hk : h'[h.length]? = some ⟨cs, true⟩) : Buf B0 h' (sl h.length 0 n z) z cs := .inr ⟨h.length, n, rfl, hn, hBh, hk⟩

end Am
/-! AmY31 -/
set_option linter.unusedVariables false
set_option linter.unusedSimpArgs false
set_option maxHeartbeats 4000000
set_option maxRecDepth 4000
namespace Am
open Go

/-- Appending one element to an own slice. -/
theorem app1 {H0 B0 h : Heap} {v : Value} {z : Nat} {cs new : List Value} {k : Value → Heap → Prop} (hp : 0 < B0.length) (g : Grows H0 h) (hB : H0.length ≤ B0.length) (hBh : B0.length ≤ h.length) (hv : Buf B0 h v z cs) (hl : new.length = z) (hz : 0 < z) (hmax : cs.length + z ≤ maxSize)
    (hk : ∀ v' h', Grows H0 h' → h.length ≤ h'.length → Buf B0 h' v' z (cs ++ new) → (∀ b n y, v' = sl b 0 n y → h.length < b) → (∀ c kk, h[c]? = some kk → (∀ n, v ≠ sl c 0 n z) → h'[c]? = some kk) → k v' h') : bindW (aAppend z (h ++ [⟨new, true⟩]) (sl h.length 0 1 z) v) k := by
  have gp : Grows h (h ++ [⟨new, true⟩]) := ⟨_, rfl⟩
  have hne : new ≠ [] := by intro e; rw [e] at hl; simp at hl; omega
  have hn : newCells z (h ++ [⟨new, true⟩]) (sl h.length 0 1 z) = some new := by
    simp [newCells]
    rw [cellsAt_of (k := ⟨new, true⟩) (by simp) (by simp; omega)]
    simp [← hl]
  refine append_own hp (g.trans gp) hB (by simp; omega) (hv.grow gp) hn hz hne (by rw [hl, Nat.div_self hz]; omega) (by omega) ?_
  intro n' h' g' hlt hn' hc fr
  refine hk _ h' g' (by simp at hlt; omega) (buf_new (by simp; omega) hn' hc) ?_ ?_
  · intro b n y e
    simp [sl] at e
    omega
  · intro c kk hck hne'
    exact fr c kk (push_at hck) hne'
theorem apart_of {B0 h : Heap} {v w : Value} {y : Nat} {cs : List Value} (hp : 0 < B0.length) (hw : Buf B0 h w y cs) (hv : ∀ b n y, v = sl b 0 n y → h.length < b) : Apart v w := by
  intro b c n1 m z1 y1 h1 h2 e
  have := hv b n1 z1 h1
  rcases hw with ⟨rfl, rfl⟩ | ⟨b2, n2, rfl, _, _, h4⟩
  · simp [sl] at h2 <;> omega
  · have := at_lt h4
    simp [sl] at h2 <;> omega
/-- The segments that a walk passes. -/
def segsW (f : Wk → Wk) (H : Nat) (w : Wk) (k : Nat) : List Int := (List.range k).map fun j => (segW H (itW f j w) : Int)
end Am
/-! AmY32 -/
set_option linter.unusedVariables false
set_option linter.unusedSimpArgs false
set_option maxHeartbeats 4000000
set_option maxRecDepth 4000
namespace Am
open Go

theorem Buf.ne {B0 h : Heap} {v : Value} {z y c : Nat} {cs : List Value} (x : Buf B0 h v z cs) (h0 : 0 < c) (hc : c < B0.length) : ∀ n, v ≠ sl c 0 n y := by
  intro n e
  rcases x with ⟨_, e2⟩ | ⟨b, m, e2, _, e3, _⟩
  · rw [e2] at e; simp [sl] at e <;> omega
  · rw [e2] at e; simp [sl] at e <;> omega
theorem Buf.put {B0 h : Heap} {v : Value} {z c : Nat} {cs : List Value} {k : Blk} (x : Buf B0 h v z cs) (hc : c < B0.length) : Buf B0 (h.set c k) v z cs := by
  rcases x with ⟨e1, e2⟩ | ⟨b, m, e2, e3, e4, e5⟩
  · exact .inl ⟨e1, e2⟩
  · exact .inr ⟨b, m, e2, e3, e4, put_at e5 (by omega)⟩
theorem Buf.sl1 {B0 h : Heap} {v : Value} {cs : List Value} (x : Buf B0 h v 1 cs) : ∃ b, v = sl b 0 cs.length 1 := by
  rcases x with ⟨e1, e2⟩ | ⟨b, m, e2, e3, e4, e5⟩
  · exact ⟨0, by rw [e1]; exact e2⟩
  · exact ⟨b, by rw [e2]; congr 1; omega⟩
end Am
/-! AmY33 -/
set_option linter.unusedVariables false
set_option linter.unusedSimpArgs false
set_option maxHeartbeats 4000000
set_option maxRecDepth 4000
namespace Am
open Go

end Am
/-! AmY36 -/
set_option linter.unusedVariables false
set_option linter.unusedSimpArgs false
set_option maxHeartbeats 4000000
set_option maxRecDepth 4000
namespace Am
open Go

/-- The breaks after the first steps from the start. -/
def fwdB (p : List Trip) (c : List Int) (k : Nat) : List Int := (p.take k).foldl (fun b s => b.set s.1.toNat s.2.2) c
noncomputable def alongL (X : Jrn) (k : Nat) : List Int := (List.range k).map fun j => (curveN (X.1.1, X.1.2.1, fwdB X.2.1 (startB X) j) : Int)
noncomputable def alongA (X : Jrn) : List Int × Int := if okJ X then (alongL X (X.2.1.length + 1), 0) else ([], 1)
structure AlongOk (W H : Int) (br : List Int) (p f : List Trip) : Prop where
  ok : ∀ k, k ≤ p.length → OkP (W, H, fwdB p (startB ((W, H, br), p, f)) k)
  st : ∀ k, (h : k < p.length) → (0 ≤ p[k].1 ∧ p[k].1 < (fwdB p (startB ((W, H, br), p, f)) k).length)
  len : ∀ k, k ≤ p.length → (fwdB p (startB ((W, H, br), p, f)) k).length = br.length
  le : p.length ≤ 50
end Am
/-! AmY37 -/
set_option linter.unusedVariables false
set_option linter.unusedSimpArgs false
set_option maxHeartbeats 4000000
set_option maxRecDepth 4000
namespace Am
open Go

end Am
/-! AmG4 -/
set_option linter.unusedVariables false
set_option linter.unusedSimpArgs false
set_option maxHeartbeats 4000000
set_option maxRecDepth 4000
namespace Am
open Go

/-! ### libraries -/
/-- One entry at the head of bytes, and what is behind it; more bytes than the entry needs must be there. -/
def oneP (more : Nat) (r : List UInt8) : Option (Kpt × List UInt8) :=
  if r.length < bn r 0 + 4 + more then none
  else if okSz (bn (r.drop (bn r 0 + 1)) 1) (bn (r.drop (bn r 0 + 1)) 2) = false ∨ ((r.drop (bn r 0 + 1)).length : Int) < packSize (bn (r.drop (bn r 0 + 1)) 1) (bn (r.drop (bn r 0 + 1)) 2) then none
  else if unOk ((r.drop (bn r 0 + 1)).take (packSize (bn (r.drop (bn r 0 + 1)) 1) (bn (r.drop (bn r 0 + 1)) 2)).toNat) then
    some ((((r.take (bn r 0 + 1)).drop 1), unP ((r.drop (bn r 0 + 1)).take (packSize (bn (r.drop (bn r 0 + 1)) 1) (bn (r.drop (bn r 0 + 1)) 2)).toNat)), (r.drop (bn r 0 + 1)).drop (packSize (bn (r.drop (bn r 0 + 1)) 1) (bn (r.drop (bn r 0 + 1)) 2)).toNat)
  else none
def parK (more : Nat) : Nat → List UInt8 → Option (Lib × List UInt8)
  | 0, r => some ([], r)
  | n + 1, r => match oneP more r with
    | none => none
    | some (k, t) => (parK more n t).map fun p => (k :: p.1, p.2)
open Classical in
/-- The library with a packed form. -/
noncomputable def unpackK (s : List UInt8) : Lib × Int := if h : ∃ X, keptOk X = true ∧ packK X = s then (Classical.choose h, 0) else ([], 8)
theorem KeptOk.pk {X : Lib} (ok : KeptOk X) : ∀ e ∈ X, OkP e.2 ∧ e.1.length ≤ 12 := by
  intro e he
  obtain ⟨i, hi, rfl⟩ := List.getElem_of_mem he
  exact ok.getOk hi
end Am
/-! AmG1 -/
set_option linter.unusedVariables false
set_option linter.unusedSimpArgs false
set_option maxHeartbeats 4000000
set_option maxRecDepth 4000
namespace Am
open Go

/-! ### counting -/
open Classical in
noncomputable def ind (p : Prop) : Nat := if p then 1 else 0
noncomputable def cntP (P : Nat → Prop) : Nat → Nat
  | 0 => 0
  | n + 1 => cntP P n + ind (P n)
/-! ### classes -/
def leastE (E : Nat → Nat → Prop) (k : Nat) : Prop := ∀ j, j < k → ¬ E j k
noncomputable def cls (E : Nat → Nat → Prop) (n : Nat) : Nat := cntP (leastE E) n
structure EqN (E : Nat → Nat → Prop) (n : Nat) : Prop where
  rf : ∀ k, k < n → E k k
  sm : ∀ j k, j < n → k < n → E j k → E k j
  tr : ∀ i j k, i < n → j < n → k < n → E i j → E j k → E i k
/-! ### one-to-one steps -/
section
variable {α : Type} {f g : α → α} {V : α → Prop} {ix : Nat → α} {n : Nat}
structure Inj (f : α → α) (V : α → Prop) (ix : Nat → α) (n : Nat) : Prop where
  vf : ∀ w, V w → V (f w)
  inj : ∀ w v, V w → V v → f w = f v → w = v
  cov : ∀ w, V w → ∃ j, j < n ∧ ix j = w
  vx : ∀ j, j < n → V (ix j)
def Go1 (f : α → α) (w v : α) : Prop := ∃ i, itW f i w = v
theorem Go1.refl (w : α) : Go1 f w w := ⟨0, rfl⟩
theorem Go1.trans {u v w : α} (x : Go1 f u v) (y : Go1 f v w) : Go1 f u w := by
  obtain ⟨i, rfl⟩ := x
  obtain ⟨j, rfl⟩ := y
  exact ⟨i + j, itW_add i j u⟩
theorem Go1.step {u v : α} (x : Go1 f u v) : Go1 f u (f v) := by
  obtain ⟨i, rfl⟩ := x
  exact ⟨i + 1, rfl⟩
theorem Inj.vi (a : Inj f V ix n) {w : α} (h : V w) : ∀ k, V (itW f k w)
  | 0 => h
  | k + 1 => a.vf _ (a.vi h k)
theorem Inj.injI (a : Inj f V ix n) {u v : α} (h : V u) (h' : V v) : ∀ k, itW f k u = itW f k v → u = v
  | 0, e => e
  | k + 1, e => a.injI h h' k (a.inj _ _ (a.vi h k) (a.vi h' k) e)
theorem Inj.again (a : Inj f V ix n) {w : α} (h : V w) : ∃ p, 0 < p ∧ itW f p w = w := by
  have hc : ∀ i, ∃ j, j < n ∧ ix j = itW f i w := fun i => a.cov _ (a.vi h i)
  obtain ⟨i, j, h1, h2, h3⟩ := pigeon n (fun i => Classical.choose (hc i)) fun i _ => (Classical.choose_spec (hc i)).1
  have e1 := (Classical.choose_spec (hc i)).2
  have e2 := (Classical.choose_spec (hc j)).2
  have h3' : Classical.choose (hc i) = Classical.choose (hc j) := h3
  rw [h3', e2] at e1
  refine ⟨j - i, by omega, ?_⟩
  have : itW f i (itW f (j - i) w) = itW f i w := by
    rw [← itW_add, show j - i + i = j by omega, e1]
  exact a.injI (a.vi h (j - i)) h i this
theorem it_mul {w : α} {p : Nat} (hp : itW f p w = w) : ∀ m, itW f (p * m) w = w
  | 0 => rfl
  | m + 1 => by rw [Nat.mul_succ, itW_add, it_mul hp m, hp]
theorem Inj.symm (a : Inj f V ix n) {u v : α} (h : V u) (x : Go1 f u v) : Go1 f v u := by
  obtain ⟨i, rfl⟩ := x
  obtain ⟨p, hp, e⟩ := a.again h
  refine ⟨p * i - i, ?_⟩
  have : i ≤ p * i := Nat.le_mul_of_pos_left i hp
  rw [← itW_add, show i + (p * i - i) = p * i by omega, it_mul e]
def relE (f : α → α) (ix : Nat → α) (j k : Nat) : Prop := Go1 f (ix j) (ix k)
end

/-! ### walkers -/
section
variable {α : Type} {f g R : α → α} {seg : α → Nat} {V : α → Prop} {N : Nat} {wk : Nat → α}
/-- What the walkers along the segments are. -/
structure Segs (seg : α → Nat) (V : α → Prop) (wk : Nat → α) (N : Nat) : Prop where
  ok : ∀ k, k < N → V (wk k)
  sg : ∀ k, k < N → seg (wk k) = k
def ixW (R : α → α) (wk : Nat → α) (j : Nat) : α := if j % 2 = 0 then wk (j / 2) else R (wk (j / 2))
/-- A segment is met from a segment. -/
def meets (f : α → α) (seg : α → Nat) (wk : Nat → α) (t s : Nat) : Prop := ∃ i, seg (itW f i (wk t)) = s
end
end Am
/-! AmG2 -/
set_option linter.unusedVariables false
set_option linter.unusedSimpArgs false
set_option maxHeartbeats 4000000
set_option maxRecDepth 4000
namespace Am
open Go

/-- The walker that goes to a point in a direction. -/
def toW (x y dx dy : Int) : Wk := (x - dx, y - dy, dx, dy)
end Am
/-! AmG5 -/
set_option linter.unusedVariables false
set_option linter.unusedSimpArgs false
set_option maxHeartbeats 4000000
set_option maxRecDepth 4000
namespace Am
open Go

structure SqOk (W H : Int) (br : List Int) (p f : List Trip) : Prop where
  ok : okJ ((W, H, br), dpre (startB ((W, H, br), p, f)) br br.length, []) = true
  len : (dpre (startB ((W, H, br), p, f)) br br.length).length ≤ p.length
  st : startB ((W, H, br), dpre (startB ((W, H, br), p, f)) br br.length, []) = startB ((W, H, br), p, f)
  fin : fwdB p (startB ((W, H, br), p, f)) p.length = br
noncomputable def curveA (X : Pan) : Int × Int := if okP X then ((curveN X : Int), 0) else (0, 1)
end Am
/-! AmG6 -/
set_option linter.unusedVariables false
set_option linter.unusedSimpArgs false
set_option maxHeartbeats 4000000
set_option maxRecDepth 4000
namespace Am
open Go

end Am
/-! AmS7 -/
set_option linter.unusedVariables false
set_option linter.unusedSimpArgs false
set_option maxHeartbeats 4000000
set_option maxRecDepth 4000
namespace Am
open Go

end Am
/-! AmS8 -/
set_option linter.unusedVariables false
set_option linter.unusedSimpArgs false
set_option maxHeartbeats 4000000
set_option maxRecDepth 4000
namespace Am
open Go

end Am
/-! AmG7 -/
set_option linter.unusedVariables false
set_option linter.unusedSimpArgs false
set_option maxHeartbeats 4000000
set_option maxRecDepth 4000
namespace Am
open Go

/-! ### the text of changes -/
end Am
/-! AmS10 -/
set_option linter.unusedVariables false
set_option linter.unusedSimpArgs false
set_option maxHeartbeats 4000000
set_option maxRecDepth 4000
namespace Am
open Go

def TS (l : List Trip) : Prop := ∀ x ∈ l, T64 x
def I64s (l : List Int) : Prop := ∀ x ∈ l, I64 x
end Am
/-! AmS11 -/
set_option linter.unusedVariables false
set_option linter.unusedSimpArgs false
set_option maxHeartbeats 4000000
set_option maxRecDepth 4000
namespace Am
open Go

/-- A panel of its own that a later draw leaves. -/
theorem Vo.draw {h h' : Heap} {b lo hi : Nat} {v : Value} {X : Pan} (x : Vo h lo hi shPanel v X) (m : Mod b (b + 1) h h') (hb : b < lo) : Vo h' lo hi shPanel v X := x.mod m (by omega)
end Am

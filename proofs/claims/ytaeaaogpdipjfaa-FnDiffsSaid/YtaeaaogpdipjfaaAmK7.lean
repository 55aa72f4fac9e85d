/- Contracts: AmY19, AmY20, AmY21, AmY22, AmY23, AmY28, AmY29, AmY30, AmY31, AmY32, AmY33, AmY36, AmY37, AmG4, AmG1, AmG2, AmG5, AmG6, AmS7, AmS8, AmG7, AmS10. -/
import Derived.Test.YtaeaaogpdipjfaaAmK6
import Derived.Test.YtaeaaogpdipjfaaAmK3
import Derived.Test.YtaeaaogpdipjfaaAmK4
import Derived.Test.YtaeaaogpdipjfaaAmK5
import Derived.Test.YtaeaaogpdipjfaaAmK2
import Derived.Test.YtaeaaogpdipjfaaAmK1
/-! AmY19 -/
set_option linter.unusedVariables false
set_option linter.unusedSimpArgs false
set_option maxHeartbeats 4000000
set_option maxRecDepth 4000
namespace Am
open Go

/-! ### the program: sought by halves, inserted -/
def cmpT (a b : List UInt8) : Int := if lexLt a b = true then -1 else if lexLt b a = true then 1 else 0
end Am
/-! AmY20 -/
set_option linter.unusedVariables false
set_option linter.unusedSimpArgs false
set_option maxHeartbeats 4000000
set_option maxRecDepth 4000
namespace Am
open Go

theorem KB.grow {h0 h h' : Heap} {v : Value} {L : List Row} (k : KB h0 h v L) (g : Grows h h') : KB h0 h' v L :=
  ⟨k.b.grow g, fun r hr => (k.el r hr).frame fun c hc => g.look ((k.el r hr).lt c hc), k.nd, k.rg⟩
/-- All that was there stays, but for a list's own block. -/
def FrameOut (h h' : Heap) (v w : Value) : Prop := h.length ≤ h'.length ∧ (∃ b2 n2, w = sl b2 0 n2 4 ∧ h.length ≤ b2) ∧ ∀ c, c < h.length → (∀ m, v ≠ sl c 0 m 4) → h'[c]? = h[c]?
/-- Rows that are of a list, or are one row. -/
def OneMore (L' : List Row) (r : Row) (L : List Row) : Prop := ∀ q ∈ L', q = r ∨ q ∈ L
end Am
/-! AmY21 -/
set_option linter.unusedVariables false
set_option linter.unusedSimpArgs false
set_option maxHeartbeats 4000000
set_option maxRecDepth 4000
namespace Am
open Go

/-- Short names, no more breaks than panels have. -/
def SmallK (X : Lib) : Prop := ∀ y ∈ X, y.1.length ≤ 12 ∧ y.2.2.2.length ≤ 128
end Am
/-! AmY22 -/
set_option linter.unusedVariables false
set_option linter.unusedSimpArgs false
set_option maxHeartbeats 4000000
set_option maxRecDepth 4000
namespace Am
open Go

theorem EntO.vr {h : Heap} {r : Row} (e : EntO h r) : Vr h shPanel (.agg #[I r.1.2.1, I r.1.2.2.1, rowS r]) r.1.2 := by
  obtain ⟨lo, hi, vo, _⟩ := e.vo
  exact Vr.of_panel e.w e.h vo.vr
/-- Rows that are of a list, or of the first of another. -/
def FromTwo (L L0 LB : List Row) (k : Nat) : Prop := ∀ q ∈ L, q ∈ L0 ∨ ∃ j, j < k ∧ ∃ hj : j < LB.length, q = LB[j]
/-- The rows that are put in are there. -/
def RowsThere (h : Heap) (bw : Nat) (LB : List Row) : Prop := (LB = [] ∨ h[bw]? = some ⟨rowsC LB, true⟩) ∧ ∀ r ∈ LB, EntO h r
theorem RowsThere.grow {h h' : Heap} {bw : Nat} {LB : List Row} (x : RowsThere h bw LB) (g : Grows h h') : RowsThere h' bw LB :=
  ⟨x.1.imp id fun q => g.at q, fun r hr => (x.2 r hr).frame fun c hc => g.look ((x.2 r hr).lt c hc)⟩
/-- A list's own block lies outside a range. -/
def Outside (v : Value) (lo hi : Nat) : Prop := ∀ c m, v = sl c 0 m 4 → c = 0 ∨ c < lo ∨ hi ≤ c
end Am
/-! AmY23 -/
set_option linter.unusedVariables false
set_option linter.unusedSimpArgs false
set_option maxHeartbeats 4000000
set_option maxRecDepth 4000
namespace Am
open Go

end Am
/-! AmY28 -/
set_option linter.unusedVariables false
set_option linter.unusedSimpArgs false
set_option maxHeartbeats 4000000
set_option maxRecDepth 4000
namespace Am
open Go

/-- A walker. -/
def wv (w : Wk) : Value := .agg #[I w.1, I w.2.1, I w.2.2.1, I w.2.2.2]
end Am
/-! AmY29 -/
set_option linter.unusedVariables false
set_option linter.unusedSimpArgs false
set_option maxHeartbeats 4000000
set_option maxRecDepth 4000
namespace Am
open Go

end Am
/-! AmY30 -/
set_option linter.unusedVariables false
set_option linter.unusedSimpArgs false
set_option maxHeartbeats 4000000
set_option maxRecDepth 4000
namespace Am
open Go

/-- Two slices have no block in common. -/
def Apart (v w : Value) : Prop := ∀ b c n m z y, v = sl b 0 n z → w = sl c 0 m y → b = c → b = 0
theorem Apart.symm {v w : Value} (a : Apart v w) : Apart w v := fun b c n m z y h1 h2 e => by
  have := a c b m n y z h2 h1 e.symm; omega
/-- A second own slice beside it. -/
theorem Buf.keep {B0 h h' : Heap} {v w : Value} {z y : Nat} {cs : List Value} (hp : 0 < B0.length) (hw : Buf B0 h w y cs) (a : Apart v w) (fr : ∀ c kk, h[c]? = some kk → (∀ n, v ≠ sl c 0 n z) → h'[c]? = some kk) : Buf B0 h' w y cs := by
  rcases hw with ⟨rfl, rfl⟩ | ⟨b, n, rfl, h2, h3, h4⟩
  · exact .inl ⟨rfl, rfl⟩
  · refine .inr ⟨b, n, rfl, h2, h3, fr b _ h4 fun m e => ?_⟩
    have := a b b m n z y e rfl rfl
    omega
end Am
/-! AmY31 -/
set_option linter.unusedVariables false
set_option linter.unusedSimpArgs false
set_option maxHeartbeats 4000000
set_option maxRecDepth 4000
namespace Am
open Go

/-- The segments that a walk passes. -/
def segsW (f : Wk → Wk) (H : Nat) (w : Wk) (k : Nat) : List Int := (List.range k).map fun j => (segW H (itW f j w) : Int)
end Am
/-! AmY32 -/
set_option linter.unusedVariables false
set_option linter.unusedSimpArgs false
set_option maxHeartbeats 4000000
set_option maxRecDepth 4000
namespace Am
open Go

theorem Buf.ne {B0 h : Heap} {v : Value} {z y c : Nat} {cs : List Value} (x : Buf B0 h v z cs) (h0 : 0 < c) (hc : c < B0.length) : ∀ n, v ≠ sl c 0 n y := by
  intro n e
  rcases x with ⟨_, e2⟩ | ⟨b, m, e2, _, e3, _⟩
  · rw [e2] at e; simp [sl] at e <;> omega
  · rw [e2] at e; simp [sl] at e <;> omega
theorem Buf.put {B0 h : Heap} {v : Value} {z c : Nat} {cs : List Value} {k : Blk} (x : Buf B0 h v z cs) (hc : c < B0.length) : Buf B0 (h.set c k) v z cs := by
  rcases x with ⟨e1, e2⟩ | ⟨b, m, e2, e3, e4, e5⟩
  · exact .inl ⟨e1, e2⟩
  · exact .inr ⟨b, m, e2, e3, e4, put_at e5 (by omega)⟩
end Am
/-! AmY33 -/
set_option linter.unusedVariables false
set_option linter.unusedSimpArgs false
set_option maxHeartbeats 4000000
set_option maxRecDepth 4000
namespace Am
open Go

end Am
/-! AmY36 -/
set_option linter.unusedVariables false
set_option linter.unusedSimpArgs false
set_option maxHeartbeats 4000000
set_option maxRecDepth 4000
namespace Am
open Go

/-- The breaks after the first steps from the start. -/
def fwdB (p : List Trip) (c : List Int) (k : Nat) : List Int := (p.take k).foldl (fun b s => b.set s.1.toNat s.2.2) c
noncomputable def alongL (X : Jrn) (k : Nat) : List Int := (List.range k).map fun j => (curveN (X.1.1, X.1.2.1, fwdB X.2.1 (startB X) j) : Int)
noncomputable def alongA (X : Jrn) : List Int × Int := if okJ X then (alongL X (X.2.1.length + 1), 0) else ([], 1)
structure AlongOk (W H : Int) (br : List Int) (p f : List Trip) : Prop where
  ok : ∀ k, k ≤ p.length → OkP (W, H, fwdB p (startB ((W, H, br), p, f)) k)
  st : ∀ k, (h : k < p.length) → (0 ≤ p[k].1 ∧ p[k].1 < (fwdB p (startB ((W, H, br), p, f)) k).length)
  len : ∀ k, k ≤ p.length → (fwdB p (startB ((W, H, br), p, f)) k).length = br.length
  le : p.length ≤ 50
end Am
/-! AmY37 -/
set_option linter.unusedVariables false
set_option linter.unusedSimpArgs false
set_option maxHeartbeats 4000000
set_option maxRecDepth 4000
namespace Am
open Go

end Am
/-! AmG4 -/
set_option linter.unusedVariables false
set_option linter.unusedSimpArgs false
set_option maxHeartbeats 4000000
set_option maxRecDepth 4000
namespace Am
open Go

/-! ### libraries -/
/-- One entry at the head of bytes, and what is behind it; more bytes than the entry needs must be there. -/
def oneP (more : Nat) (r : List UInt8) : Option (Kpt × List UInt8) :=
  if r.length < bn r 0 + 4 + more then none
  else if okSz (bn (r.drop (bn r 0 + 1)) 1) (bn (r.drop (bn r 0 + 1)) 2) = false ∨ ((r.drop (bn r 0 + 1)).length : Int) < packSize (bn (r.drop (bn r 0 + 1)) 1) (bn (r.drop (bn r 0 + 1)) 2) then none
  else if unOk ((r.drop (bn r 0 + 1)).take (packSize (bn (r.drop (bn r 0 + 1)) 1) (bn (r.drop (bn r 0 + 1)) 2)).toNat) then
    some ((((r.take (bn r 0 + 1)).drop 1), unP ((r.drop (bn r 0 + 1)).take (packSize (bn (r.drop (bn r 0 + 1)) 1) (bn (r.drop (bn r 0 + 1)) 2)).toNat)), (r.drop (bn r 0 + 1)).drop (packSize (bn (r.drop (bn r 0 + 1)) 1) (bn (r.drop (bn r 0 + 1)) 2)).toNat)
  else none
def parK (more : Nat) : Nat → List UInt8 → Option (Lib × List UInt8)
  | 0, r => some ([], r)
  | n + 1, r => match oneP more r with
    | none => none
    | some (k, t) => (parK more n t).map fun p => (k :: p.1, p.2)
open Classical in
/-- The library with a packed form. -/
noncomputable def unpackK (s : List UInt8) : Lib × Int := if h : ∃ X, keptOk X = true ∧ packK X = s then (Classical.choose h, 0) else ([], 8)
theorem KeptOk.pk {X : Lib} (ok : KeptOk X) : ∀ e ∈ X, OkP e.2 ∧ e.1.length ≤ 12 := by
  intro e he
  obtain ⟨i, hi, rfl⟩ := List.getElem_of_mem he
  exact ok.getOk hi
end Am
/-! AmG1 -/
set_option linter.unusedVariables false
set_option linter.unusedSimpArgs false
set_option maxHeartbeats 4000000
set_option maxRecDepth 4000
namespace Am
open Go

/-! ### counting -/
open Classical in
noncomputable def ind (p : Prop) : Nat := if p then 1 else 0
noncomputable def cntP (P : Nat → Prop) : Nat → Nat
  | 0 => 0
  | n + 1 => cntP P n + ind (P n)
/-! ### classes -/
def leastE (E : Nat → Nat → Prop) (k : Nat) : Prop := ∀ j, j < k → ¬ E j k
noncomputable def cls (E : Nat → Nat → Prop) (n : Nat) : Nat := cntP (leastE E) n
structure EqN (E : Nat → Nat → Prop) (n : Nat) : Prop where
  rf : ∀ k, k < n → E k k
  sm : ∀ j k, j < n → k < n → E j k → E k j
  tr : ∀ i j k, i < n → j < n → k < n → E i j → E j k → E i k
/-! ### one-to-one steps -/
section
variable {α : Type} {f g : α → α} {V : α → Prop} {ix : Nat → α} {n : Nat}
structure Inj (f : α → α) (V : α → Prop) (ix : Nat → α) (n : Nat) : Prop where
  vf : ∀ w, V w → V (f w)
  inj : ∀ w v, V w → V v → f w = f v → w = v
  cov : ∀ w, V w → ∃ j, j < n ∧ ix j = w
  vx : ∀ j, j < n → V (ix j)
def Go1 (f : α → α) (w v : α) : Prop := ∃ i, itW f i w = v
theorem Go1.refl (w : α) : Go1 f w w := ⟨0, rfl⟩
theorem Go1.trans {u v w : α} (x : Go1 f u v) (y : Go1 f v w) : Go1 f u w := by
  obtain ⟨i, rfl⟩ := x
  obtain ⟨j, rfl⟩ := y
  exact ⟨i + j, itW_add i j u⟩
theorem Go1.step {u v : α} (x : Go1 f u v) : Go1 f u (f v) := by
  obtain ⟨i, rfl⟩ := x
  exact ⟨i + 1, rfl⟩
theorem Inj.vi (a : Inj f V ix n) {w : α} (h : V w) : ∀ k, V (itW f k w)
  | 0 => h
  | k + 1 => a.vf _ (a.vi h k)
theorem Inj.injI (a : Inj f V ix n) {u v : α} (h : V u) (h' : V v) : ∀ k, itW f k u = itW f k v → u = v
  | 0, e => e
  | k + 1, e => a.injI h h' k (a.inj _ _ (a.vi h k) (a.vi h' k) e)
theorem Inj.again (a : Inj f V ix n) {w : α} (h : V w) : ∃ p, 0 < p ∧ itW f p w = w := by
  have hc : ∀ i, ∃ j, j < n ∧ ix j = itW f i w := fun i => a.cov _ (a.vi h i)
  obtain ⟨i, j, h1, h2, h3⟩ := pigeon n (fun i => Classical.choose (hc i)) fun i _ => (Classical.choose_spec (hc i)).1
  have e1 := (Classical.choose_spec (hc i)).2
  have e2 := (Classical.choose_spec (hc j)).2
  have h3' : Classical.choose (hc i) = Classical.choose (hc j) := h3
  rw [h3', e2] at e1
  refine ⟨j - i, by omega, ?_⟩
  have : itW f i (itW f (j - i) w) = itW f i w := by
    rw [← itW_add, show j - i + i = j by omega, e1]
  exact a.injI (a.vi h (j - i)) h i this
theorem it_mul {w : α} {p : Nat} (hp : itW f p w = w) : ∀ m, itW f (p * m) w = w
  | 0 => rfl
  | m + 1 => by rw [Nat.mul_succ, itW_add, it_mul hp m, hp]
theorem Inj.symm (a : Inj f V ix n) {u v : α} (h : V u) (x : Go1 f u v) : Go1 f v u := by
  obtain ⟨i, rfl⟩ := x
  obtain ⟨p, hp, e⟩ := a.again h
  refine ⟨p * i - i, ?_⟩
  have : i ≤ p * i := Nat.le_mul_of_pos_left i hp
  rw [← itW_add, show i + (p * i - i) = p * i by omega, it_mul e]
def relE (f : α → α) (ix : Nat → α) (j k : Nat) : Prop := Go1 f (ix j) (ix k)
end

/-! ### walkers -/
section
variable {α : Type} {f g R : α → α} {seg : α → Nat} {V : α → Prop} {N : Nat} {wk : Nat → α}
/-- What the walkers along the segments are. -/
structure Segs (seg : α → Nat) (V : α → Prop) (wk : Nat → α) (N : Nat) : Prop where
  ok : ∀ k, k < N → V (wk k)
  sg : ∀ k, k < N → seg (wk k) = k
def ixW (R : α → α) (wk : Nat → α) (j : Nat) : α := if j % 2 = 0 then wk (j / 2) else R (wk (j / 2))
/-- A segment is met from a segment. -/
def meets (f : α → α) (seg : α → Nat) (wk : Nat → α) (t s : Nat) : Prop := ∃ i, seg (itW f i (wk t)) = s
end
end Am
/-! AmG2 -/
set_option linter.unusedVariables false
set_option linter.unusedSimpArgs false
set_option maxHeartbeats 4000000
set_option maxRecDepth 4000
namespace Am
open Go

/-- The walker that goes to a point in a direction. -/
def toW (x y dx dy : Int) : Wk := (x - dx, y - dy, dx, dy)
end Am
/-! AmG5 -/
set_option linter.unusedVariables false
set_option linter.unusedSimpArgs false
set_option maxHeartbeats 4000000
set_option maxRecDepth 4000
namespace Am
open Go

structure SqOk (W H : Int) (br : List Int) (p f : List Trip) : Prop where
  ok : okJ ((W, H, br), dpre (startB ((W, H, br), p, f)) br br.length, []) = true
  len : (dpre (startB ((W, H, br), p, f)) br br.length).length ≤ p.length
  st : startB ((W, H, br), dpre (startB ((W, H, br), p, f)) br br.length, []) = startB ((W, H, br), p, f)
  fin : fwdB p (startB ((W, H, br), p, f)) p.length = br
noncomputable def curveA (X : Pan) : Int × Int := if okP X then ((curveN X : Int), 0) else (0, 1)
end Am
/-! AmG6 -/
set_option linter.unusedVariables false
set_option linter.unusedSimpArgs false
set_option maxHeartbeats 4000000
set_option maxRecDepth 4000
namespace Am
open Go

theorem samP_refl (X : Pan) : samP X X = true := by simp [samP]
end Am
/-! AmS7 -/
set_option linter.unusedVariables false
set_option linter.unusedSimpArgs false
set_option maxHeartbeats 4000000
set_option maxRecDepth 4000
namespace Am
open Go

theorem c443 (h : Heap) (b m : Nat) (hs : Src h b m) (hm : m ≤ 10000000) : ACall Gam 443 [pt b 0] h fun r h' => ∃ P : Pan, P.2.2.length ≤ 200 ∧ Mod b (b + 1) h h' ∧ Vo h' h.length h'.length shPanel r P ∧ Src h' b (m + 1100) := by
  have hb : b < h.length := by
    obtain ⟨_, _, _, _, _, _, e, _⟩ := hs
    exact at_lt e
  refine ACall_intro g443 rfl ?_
  unfold fn443
  rw [awp_seq, awp_reg]
  generalize hK : seqQ Gam _ _ 0 = K
  simp (disch := omega)
  subst hK
  simp only [seqQ_zero]
  rw [awp_seq, awp_reg]
  generalize hK : seqQ Gam _ _ 0 = K
  simp (disch := omega)
  refine callW_of (c445s h b m 5 hs (by omega) (by omega)) ?_
  rintro _ h1 ⟨⟨W, H, br⟩, bb, ok, w5, h5, md1, rfl, hbb, lb1, lb2, hs1⟩
  have okw : 1 ≤ W ∧ W ≤ 8 := ok.w
  have okh : 1 ≤ H ∧ H ≤ 8 := ok.h
  have okb : ∀ x ∈ br, 0 ≤ x ∧ x ≤ 2 := ok.b
  have w64 : I64 W := by unfold I64; omega
  have h64 : I64 H := by unfold I64; omega
  have hbb : h1[bb]? = some ⟨ints br, true⟩ := hbb
  have br64 : ∀ x ∈ br, I64 x := fun x hx => by have := okb x hx; unfold I64; omega
  have o1 : Vo h1 h.length h1.length shInts (sl bb 0 br.length 1) br := Vo.of_ints (.inl rfl) (by rw [maxLen_eq]; have := ok_len ok; omega) br64 (.inr ⟨hbb, lb1, lb2⟩)
  have hbl := ok_len ok
  have L1 := md1.1
  have bbb : b < bb := by omega
  simp (disch := omega)
  subst hK
  simp only [seqQ_zero]
  rw [awp_seq]
  generalize hK : seqQ Gam _ _ = K
  have tail : ∀ (σ : Nat → Value) (h3 : Heap) (W H : Int) (br : List Int) (s : Value), σ 3 = .agg #[I W, I H, s] → σ 2 = .agg #[I 0, I 0, sl 0 0 0 0] → I64 W → I64 H → br.length ≤ 200 → Mod b (b + 1) h h3 → Vo h3 h.length h3.length shInts s br → Src h3 b (m + 1100) → K 0 σ h3 := by
    intro σ h3 W H br s q3 q2 w64 h64 hl md ov hs3
    obtain ⟨bb, zz, e, _⟩ := ov.ints
    subst hK
    simp only [seqQ_zero]
    subst e
    simp (disch := omega) [q3, q2, resOf, resAll, resOne, aField]
    exact ⟨W, H, br, hl, md, Vo.of_panel w64 h64 ov, hs3⟩
  clear hK
  rw [awp_seq, awp_reg]
  generalize hA : seqQ Gam _ _ 0 = A
  simp (disch := omega)
  refine callW_of (c7 h1 b _ 20 hs1 (by omega) (by unfold I64; omega)) ?_
  rintro _ h2 ⟨k, rfl, _, k2, md2, l2, hs2⟩
  have o2 := o1.mod md2 (by omega)
  simp (disch := omega)
  subst hA
  simp only [seqQ_zero]
  rw [awp_block]
  have tail' : ∀ (σ : Nat → Value) (h3 : Heap) (W H : Int) (br : List Int) (s : Value), σ 3 = .agg #[I W, I H, s] → σ 2 = .agg #[I 0, I 0, sl 0 0 0 0] → I64 W → I64 H → br.length ≤ 200 → Mod b (b + 1) h h3 → Vo h3 h.length h3.length shInts s br → Src h3 b (m + 1100) → blockQ 0 K 0 σ h3 := by
    intro σ h3 W H br s q3 q2 w64 h64 hl md ov hs3
    rw [blockQ_eq, if_neg (by omega)]
    exact tail σ h3 W H br s q3 q2 w64 h64 hl md ov hs3
  clear tail
  generalize blockQ 0 K = B1 at tail' ⊢
  by_cases e0 : k = 0
  · subst e0
    simp (disch := omega) [aBuildSlice]
    obtain ⟨h3, e3⟩ : ∃ h3, h3 = h2 ++ [⟨ints [0, 8, 9, -9223372036854775808], true⟩] := ⟨_, rfl⟩
    have g3 : Grows h2 h3 := ⟨_, e3⟩
    simp only [ints, List.map_cons, List.map_nil] at e3
    rw [← e3]
    refine callW_of (c4 h3 b _ h2.length [0, 8, 9, -9223372036854775808] (hs2.grow g3) (by omega) (by rw [e3]; simp [ints]) (by omega) (by simp) (by simp)) ?_
    rintro _ h4 ⟨x, hx', rfl, md4, l4, hs4⟩
    have x64 : I64 x := by simp at hx'; unfold I64; omega
    have L3 := g3.le
    simp (disch := omega)
    exact tail' _ h4 x H br _ (by simp) (by simp) x64 h64 (by omega) (((md1.trans md2).trans g3.mod).trans md4) (((o2.grow g3).mod md4 (by omega)).wide (Nat.le_refl _) (by omega)) (hs4.mono (by omega))
  by_cases e1 : k = 1
  · subst e1
    have hb2 : h2[bb]? = some ⟨ints br, true⟩ := by rw [md2.2 bb (at_lt hbb) (by omega)]; exact hbb
    have eb : aBuildSlice 1 1 h2 [(0, .agg #[I 0]), (1, I 0)] = some (sl h2.length 0 1 1, h2 ++ [⟨[I 0], true⟩]) := by simp [aBuildSlice]
    simp (disch := omega) [eb]
    obtain ⟨h3, e3⟩ : ∃ h3, h3 = h2 ++ [⟨[I 0], true⟩] := ⟨_, rfl⟩
    have g3 : Grows h2 h3 := ⟨_, e3⟩
    rw [← e3]
    have hb3 := g3.at hb2
    have hn3 : h3[h2.length]? = some ⟨[I 0], true⟩ := by rw [e3]; simp
    have l3 : h3.length = h2.length + 1 := by rw [e3]; simp
    have hbl2 : bb < h2.length := at_lt hb2
    have ea : aAppend 1 h3 (sl h2.length 0 1 1) (sl bb 0 br.length 1) = some (sl h3.length 0 (br.length + 1) 1, h3.set bb ⟨[], false⟩ ++ [⟨ints (br ++ [0]), true⟩]) := by
      have hnew : newCells 1 h3 (sl h2.length 0 1 1) = some [I 0] := by
        simp [newCells]
        rw [cellsAt_of hn3 (by simp)]; simp
      have hold : cellsAt h3 bb 0 (br.length * 1) = some (ints br) := by rw [Nat.mul_one]; exact cellsAt_all hb3 (by simp [ints])
      have hbz : ¬ bb = 0 := by omega
      unfold aAppend
      rw [hnew]
      simp only [hb3, hold]
      rw [if_neg (by omega), if_neg (by simp), if_neg (by simp [maxSize]; omega), if_neg hbz, if_pos (by simp)]
      simp [ints]
    obtain ⟨h4, e4⟩ : ∃ h4, h4 = h3.set bb ⟨[], false⟩ ++ [⟨ints (br ++ [0]), true⟩] := ⟨_, rfl⟩
    rw [← e4] at ea
    have l4 : h4.length = h3.length + 1 := by rw [e4]; simp
    have ho : ∀ c, c < h3.length → c ≠ bb → h4[c]? = h3[c]? := fun c hc hne => by
      rw [e4, List.getElem?_append_left (by simpa using hc)]; exact set_other hne
    have md3 := (md1.trans md2).trans g3.mod
    have md4 : Mod b (b + 1) h h4 := ⟨by have := md3.1; omega, fun c hc hn => by
      rw [ho c (by have := md3.1; omega) (by omega)]
      exact md3.2 c hc hn⟩
    have hs4 : Src h4 b (m + 1100) := ((hs2.grow g3).mono (by omega)).mod (lo := bb) (hi := bb + 1) ⟨by omega, fun c hc hn => ho c hc (by omega)⟩ (by omega)
    have o4 : Vo h4 h.length h4.length shInts (sl h3.length 0 (br ++ [0]).length 1) (br ++ [0]) := Vo.of_ints (.inl rfl) (by rw [maxLen_eq]; simp; omega) (fun x hx => by
      rcases List.mem_append.1 hx with hx | hx
      · exact br64 x hx
      · simp at hx; subst hx; unfold I64; omega) (.inr ⟨by rw [e4, List.getElem?_append_right (by simp)]; simp, by have := md3.1; omega, by omega⟩)
    have el : (br ++ [0]).length = br.length + 1 := by simp
    rw [el] at o4
    simp (disch := omega) [ea]
    exact tail' _ h4 W H (br ++ [0]) _ (by simp) (by simp) w64 h64 (by omega) md4 o4 hs4
  by_cases e2 : k = 2
  · subst e2
    simp (disch := omega)
    refine fork_dec (fun hq => ?_) (fun hq => ?_)
    · have hq : 0 < br.length := by omega
      have hne : br ≠ [] := by intro e; rw [e] at hq; simp at hq
      have hb2 : h2[bb]? = some ⟨ints br, true⟩ := by rw [md2.2 bb (at_lt hbb) (by omega)]; exact hbb
      simp (disch := omega)
      refine callW_of (c7 h2 b _ br.length hs2 (by omega) (by unfold I64; omega)) ?_
      rintro _ h3 ⟨x, rfl, x1, x2, md3, l3, hs3⟩
      have hx' : x < br.length := by
        by_cases q1 : br.length = 1
        · have := x1 (by omega); omega
        · have := x2 (by omega); omega
      have hb3 : h3[bb]? = some ⟨ints br, true⟩ := by rw [md3.2 bb (at_lt hb2) (by omega)]; exact hb2
      simp (disch := omega) [aBuildSlice]
      obtain ⟨h4, e4⟩ : ∃ h4, h4 = h3 ++ [⟨ints [-1, 2, 3], true⟩] := ⟨_, rfl⟩
      have g4 : Grows h3 h4 := ⟨_, e4⟩
      simp only [ints, List.map_cons, List.map_nil] at e4
      rw [← e4]
      refine callW_of (c4 h4 b _ h3.length [-1, 2, 3] (hs3.grow g4) (by omega) (by rw [e4]; simp [ints]) (by omega) (by simp) (by simp)) ?_
      rintro _ h5 ⟨y, hy, rfl, md5, l5, hs5⟩
      have y64 : I64 y := by simp at hy; unfold I64; omega
      have L4 := g4.le
      have hb5 : h5[bb]? = some ⟨ints br, true⟩ := by rw [md5.2 bb (at_lt (g4.at hb3)) (by omega)]; exact g4.at hb3
      have hst := store_int (v := y) hb5 hx'
      obtain ⟨h6, e6⟩ : ∃ h6, h6 = h5.set bb ⟨ints (br.set x y), true⟩ := ⟨_, rfl⟩
      rw [← e6] at hst
      have l6 : h6.length = h5.length := by rw [e6]; simp
      have ho : ∀ c, c ≠ bb → h6[c]? = h5[c]? := fun c hc => by rw [e6]; exact set_other hc
      have md5' := (((md1.trans md2).trans md3).trans g4.mod).trans md5
      have md6 : Mod b (b + 1) h h6 := ⟨by have := md5'.1; omega, fun c hc hn => by rw [ho c (by omega)]; exact md5'.2 c hc hn⟩
      have hs6 : Src h6 b (m + 1100) := (hs5.mono (by omega)).mod (lo := bb) (hi := bb + 1) ⟨by omega, fun c hc hn => ho c (by omega)⟩ (by omega)
      have o6 : Vo h6 h.length h6.length shInts (sl bb 0 (br.set x y).length 1) (br.set x y) := Vo.of_ints (.inl rfl) (by rw [maxLen_eq]; simp; omega) (fun z hz => by
        rcases List.mem_or_eq_of_mem_set hz with hz | hz
        · exact br64 z hz
        · rw [hz]; exact y64) (.inr ⟨by rw [e6]; simp [at_lt hb5], lb1, by have := at_lt hb5; omega⟩)
      have el : (br.set x y).length = br.length := by simp
      rw [el] at o6
      have hxl : (x : Int) < br.length := by omega
      simp (disch := omega) [hx', hxl, hst]
      exact tail' _ h6 W H (br.set x y) _ (by simp) (by simp) w64 h64 (by rw [el]; omega) md6 o6 hs6
    · simp (disch := omega)
      exact tail' _ h2 W H br _ (by simp) (by simp) w64 h64 (by omega) (md1.trans md2) (o2.wide (Nat.le_refl _) (by omega)) (hs2.mono (by omega))
  by_cases e3 : k = 3
  · subst e3
    simp (disch := omega)
    refine callW_of (c450 h2 8 8 (by omega) (by omega) (by omega)) ?_
    rintro _ h3 ⟨g3, o3⟩
    have L3 := g3.le
    obtain ⟨s', rfl, w64', h64', o3⟩ := o3.panel
    have ol : (List.replicate (inner 8 8).toNat (0 : Int)).length ≤ 200 := by
      have := ok_len (newP_ok (W := 8) (H := 8) (by omega) (by omega))
      omega
    obtain ⟨b3, z3, e3, _⟩ := o3.ints
    subst e3
    simp (disch := omega)
    exact tail' _ h3 8 8 _ _ (by simp) (by simp) w64' h64' ol ((md1.trans md2).trans g3.mod) (o3.wide (by omega) (Nat.le_refl _)) ((hs2.grow g3).mono (by omega))
  have k1 : ((k : Int) = 1) = False := eq_false (by omega)
  have k2' : ((k : Int) = 2) = False := eq_false (by omega)
  have k3 : ((k : Int) = 3) = False := eq_false (by omega)
  simp (disch := omega) [e0, k1, k2', k3]
  exact tail' _ h2 W H br _ (by simp) (by simp) w64 h64 (by omega) (md1.trans md2) (o2.wide (Nat.le_refl _) (by omega)) (hs2.mono (by omega))
end Am
/-! AmS8 -/
set_option linter.unusedVariables false
set_option linter.unusedSimpArgs false
set_option maxHeartbeats 4000000
set_option maxRecDepth 4000
namespace Am
open Go

end Am
/-! AmG7 -/
set_option linter.unusedVariables false
set_option linter.unusedSimpArgs false
set_option maxHeartbeats 4000000
set_option maxRecDepth 4000
namespace Am
open Go

theorem at0_other {l : List Int} {i k : Nat} {v : Int} (h : i ≠ k) : at0 (l.set i v) k = at0 l k := by
  unfold at0; rw [List.getD_eq_getElem?_getD, List.getElem?_set_ne h, ← List.getD_eq_getElem?_getD]
theorem at0_same {l : List Int} {k : Nat} {v : Int} (hk : k < l.length) : at0 (l.set k v) k = v := by
  rw [at0_of (by simpa using hk)]; simp
theorem set_back {l : List Int} {k : Nat} {v : Int} (hk : k < l.length) : (l.set k v).set k (at0 l k) = l := by
  rw [List.set_set, at0_of hk, List.set_getElem_self]
theorem runD_cons {s : Trip} {l : List Trip} {b c : List Int} (h : runD (s :: l) b = (c, 0)) : (0 ≤ s.1 ∧ s.1.toNat < b.length) ∧ okBr s.2.2 = true ∧ at0 b s.1.toNat = s.2.1 ∧ runD l (b.set s.1.toNat s.2.2) = (c, 0) := by
  simp only [runD] at h
  split at h
  · rename_i h1
    simp only [Bool.and_eq_true] at h1
    have h2 := inR_iff.1 h1.1
    split at h
    · rename_i h3
      exact ⟨by omega, h1.2, h3, h⟩
    · simp at h
  · simp at h
theorem runD_mk {s : Trip} {l : List Trip} {b : List Int} (h1 : 0 ≤ s.1 ∧ s.1.toNat < b.length) (h2 : okBr s.2.2 = true) (h3 : at0 b s.1.toNat = s.2.1) : runD (s :: l) b = runD l (b.set s.1.toNat s.2.2) := by
  simp only [runD]
  rw [if_pos, if_pos h3]
  simp only [Bool.and_eq_true]
  exact ⟨inR_iff.2 (by omega), h2⟩
theorem runD_append : ∀ {l m : List Trip} {b c : List Int}, runD l b = (c, 0) → runD (l ++ m) b = runD m c
  | [], m, b, c, h => by
    simp only [runD, Prod.mk.injEq, and_true] at h
    subst h; rfl
  | s :: l, m, b, c, h => by
    obtain ⟨h1, h2, h3, h4⟩ := runD_cons h
    rw [List.cons_append, runD_mk h1 h2 h3, runD_append h4]
theorem runD_len : ∀ {l : List Trip} {b c : List Int}, runD l b = (c, 0) → c.length = b.length ∧ ((∀ x ∈ b, 0 ≤ x ∧ x ≤ 2) → ∀ x ∈ c, 0 ≤ x ∧ x ≤ 2)
  | [], b, c, h => by
    simp only [runD, Prod.mk.injEq, and_true] at h
    subst h; exact ⟨rfl, fun h => h⟩
  | s :: l, b, c, h => by
    obtain ⟨h1, h2, h3, h4⟩ := runD_cons h
    obtain ⟨a1, a2⟩ := runD_len h4
    refine ⟨by simpa using a1, fun hb => a2 fun x hx => ?_⟩
    rcases List.mem_or_eq_of_mem_set hx with hx | rfl
    · exact hb x hx
    · unfold okBr at h2; exact inR_iff.1 h2
theorem inverse_cons (s : Trip) (l : List Trip) : inverse (s :: l) = inverse l ++ [(s.1, s.2.2, s.2.1)] := by simp [inverse]
theorem runD_inverse : ∀ {l : List Trip} {b c : List Int}, (∀ x ∈ b, 0 ≤ x ∧ x ≤ 2) → runD l b = (c, 0) → runD (inverse l) c = (b, 0)
  | [], b, c, _, h => by
    simp only [runD, Prod.mk.injEq, and_true] at h
    subst h; rfl
  | s :: l, b, c, hb, h => by
    obtain ⟨h1, h2, h3, h4⟩ := runD_cons h
    have hb' : ∀ x ∈ b.set s.1.toNat s.2.2, 0 ≤ x ∧ x ≤ 2 := by
      intro x hx
      rcases List.mem_or_eq_of_mem_set hx with hx | rfl
      · exact hb x hx
      · unfold okBr at h2; exact inR_iff.1 h2
    have ih := runD_inverse hb' h4
    rw [inverse_cons, runD_append ih]
    have hold := at0_rng hb s.1.toNat
    rw [h3] at hold
    rw [runD_mk (s := (s.1, s.2.2, s.2.1)) (l := []) (by simpa using h1) (by unfold okBr; exact inR_iff.2 hold) (at0_same h1.2)]
    simp only
    rw [← h3, set_back h1.2]
    rfl
theorem app_inverse {X Y : Pan} {l : List Trip} (h : appAns X l = (Y, 0)) : appAns Y (inverse l) = (X, 0) := by
  obtain ⟨W, H, br⟩ := X
  unfold appAns at h
  split at h
  · rename_i hok
    have ok := okP_iff.1 hok
    split at h
    · rename_i h0
      simp only [Prod.mk.injEq, and_true] at h
      subst h
      obtain ⟨c, hc⟩ : ∃ c, runD l br = (c, 0) := ⟨(runD l br).1, Prod.ext rfl h0⟩
      have hi := runD_inverse ok.b hc
      obtain ⟨q1, q2⟩ := runD_len hc
      simp only [hc]
      have ok' : okP (W, H, c) = true := okP_iff.2 ⟨ok.w, ok.h, by rw [q1]; exact ok.n, q2 ok.b⟩
      unfold appAns
      rw [ok', hi]
      rfl
    · rename_i h0
      simp only [Prod.mk.injEq] at h
      exact absurd h.2 h0
  · simp at h
theorem runD_dpre {a b : List Int} (hl : a.length = b.length) (hb : ∀ x ∈ b, 0 ≤ x ∧ x ≤ 2) : ∀ k, k ≤ a.length → ∃ c, runD (dpre a b k) a = (c, 0) ∧ c.length = a.length ∧ ∀ i, at0 c i = if i < k then at0 b i else at0 a i
  | 0, _ => ⟨a, rfl, rfl, fun i => by simp⟩
  | k + 1, hk => by
    obtain ⟨c, h1, h2, h3⟩ := runD_dpre hl hb k (by omega)
    rw [dpre_succ, runD_append h1]
    by_cases e : at0 a k = at0 b k
    · rw [if_pos e]
      refine ⟨c, rfl, h2, fun i => ?_⟩
      rw [h3]
      by_cases q : i < k
      · rw [if_pos q, if_pos (by omega)]
      · rw [if_neg q]
        by_cases q2 : i = k
        · subst q2; rw [if_pos (by omega), e]
        · rw [if_neg (by omega)]
    · rw [if_neg e]
      have hck : at0 c k = at0 a k := by rw [h3, if_neg (by omega)]
      rw [runD_mk (s := ((k : Int), at0 a k, at0 b k)) ⟨by simp only; omega, by simp only [Int.toNat_natCast]; omega⟩ (by unfold okBr; exact inR_iff.2 (at0_rng hb k)) (by simp only [Int.toNat_natCast]; exact hck)]
      simp only [Int.toNat_natCast]
      refine ⟨c.set k (at0 b k), rfl, by simpa using h2, fun i => ?_⟩
      by_cases q : i = k
      · subst q; rw [at0_same (by omega), if_pos (by omega)]
      · rw [at0_other (fun e => q e.symm), h3]
        by_cases q2 : i < k
        · rw [if_pos q2, if_pos (by omega)]
        · rw [if_neg q2, if_neg (by omega)]
theorem app_diff {X Y : Pan} (o1 : okP X = true) (o2 : okP Y = true) (hs : sameSz X Y = true) : appAns X (dpre X.2.2 Y.2.2 X.2.2.length) = (Y, 0) := by
  obtain ⟨W, H, a⟩ := X
  obtain ⟨W', H', b⟩ := Y
  obtain ⟨e1, e2⟩ := sameSz_iff.1 hs
  simp only at e1 e2
  subst e1; subst e2
  have k1 := okP_iff.1 o1
  have k2 := okP_iff.1 o2
  have hl : a.length = b.length := by
    have h1 := k1.n; have h2 := k2.n
    simp only at h1 h2
    omega
  obtain ⟨c, h1, h2, h3⟩ := runD_dpre hl k2.b a.length (Nat.le_refl _)
  have : c = b := by
    apply List.ext_getElem (by omega)
    intro i hi hi'
    have := h3 i
    rw [if_pos (by omega), at0_of hi, at0_of hi'] at this
    exact this
  subst this
  unfold appAns
  rw [o1]
  simp only [h1]
  rfl

/-! ### the text of changes -/
theorem digits_decN : ∀ (n : Nat), (decN n).all isDig = true ∧ (45 : UInt8) ∉ decN n ∧ (32 : UInt8) ∉ decN n := by
  intro n
  induction n using Nat.strongRecOn with
  | ind n ih =>
    by_cases h0 : n = 0
    · subst h0; rw [decN_zero]; simp
    · rw [decN_pos h0]
      obtain ⟨h1, h2, h3⟩ := ih (n / 10) (by omega)
      have hd : ∀ m : Fin 10, isDig (UInt8.ofNat (48 + m.val)) = true ∧ UInt8.ofNat (48 + m.val) ≠ 45 ∧ UInt8.ofNat (48 + m.val) ≠ 32 := by decide
      have hm := hd ⟨n % 10, Nat.mod_lt _ (by omega)⟩
      simp only at hm
      refine ⟨by rw [List.all_append, h1, Bool.true_and]; simp only [List.all_cons, List.all_nil, Bool.and_true]; exact hm.1, ?_, ?_⟩
      · rw [List.mem_append]
        rintro (h | h)
        · exact h2 h
        · simp only [List.mem_singleton] at h; exact hm.2.1 h.symm
      · rw [List.mem_append]
        rintro (h | h)
        · exact h3 h
        · simp only [List.mem_singleton] at h; exact hm.2.2 h.symm
theorem val_decN : ∀ (n : Nat), valN (decN n) = n := by
  intro n
  induction n using Nat.strongRecOn with
  | ind n ih =>
    by_cases h0 : n = 0
    · subst h0; rw [decN_zero]; rfl
    · rw [decN_pos h0]
      have := ih (n / 10) (by omega)
      unfold valN at this ⊢
      rw [List.foldl_append, this]
      simp only [List.foldl_cons, List.foldl_nil]
      rw [UInt8.toNat_ofNat']
      omega
theorem rdDec_nat {n : Nat} (h : n < 1000000000000000000) : rdDec (decS n) = ((n : Int), true) := by
  by_cases h0 : n = 0
  · subst h0
    decide
  · have e : decS (n : Int) = decN n := by
      unfold decS; rw [if_neg (by omega), if_neg (by omega)]; simp
    obtain ⟨d1, d2, d3⟩ := digits_decN n
    have hlen := decN_len 18 n (by have : (10 : Nat) ^ 18 = 1000000000000000000 := by decide
                                   omega)
    have hpos := decN_pos_len h0
    have hv := val_decN n
    have hdg : dgs (decN n) = decN n := by
      unfold dgs
      rw [if_neg]
      intro q
      exact d2 (List.mem_of_mem_head? (by rw [q]; rfl))
    have hrv : rdV (decN n) = (n : Int) := by
      unfold rdV; rw [hdg, if_neg (by omega), hv]
    unfold rdDec rdOk
    rw [e, hdg, hrv, e, d1]
    simp [hlen]
    intro q
    rw [q] at hpos
    simp at hpos
theorem parse_word {t : Trip} (h : okT t = true) : parseW (wordT t) = some t ∧ (32 : UInt8) ∉ wordT t := by
  obtain ⟨a, b, c⟩ := t
  simp only [okT, Bool.and_eq_true] at h
  obtain ⟨h1, h2, h3⟩ := h
  have h1 := inR_iff.1 h1
  unfold okBr at h2 h3
  have h2 := inR_iff.1 h2
  have h3 := inR_iff.1 h3
  obtain ⟨n, rfl⟩ := Int.eq_ofNat_of_zero_le h1.1
  have hr := rdDec_nat (n := n) (by omega)
  have hl := (decS_len (n := (n : Int)) (by unfold I64; omega)).1
  have h32 : (32 : UInt8) ∉ decS (n : Int) := by
    unfold decS
    split
    · simp
    · split
      · omega
      · exact (digits_decN _).2.2
  have hs32 : ∀ x : Int, signB x ≠ 32 := by intro x; unfold signB; split <;> (try split) <;> decide
  have el : (wordT ((n : Int), b, c)).length = (decS (n : Int)).length + 2 := by simp [wordT]
  have t1 : (wordT ((n : Int), b, c)).take ((decS (n : Int)).length) = decS (n : Int) := by unfold wordT; simp
  have a1 : at8 (wordT ((n : Int), b, c)) ((decS (n : Int)).length) = signB b := by unfold wordT at8; simp
  have a2 : at8 (wordT ((n : Int), b, c)) ((decS (n : Int)).length + 1) = signB c := by unfold wordT at8; simp
  constructor
  · unfold parseW
    rw [if_neg (by omega), el, show (decS (n : Int)).length + 2 - 2 = (decS (n : Int)).length by omega, show (decS (n : Int)).length + 2 - 1 = (decS (n : Int)).length + 1 by omega, t1, a1, a2, hr, kind_sign h2, kind_sign h3]
    rfl
  · unfold wordT
    rw [List.mem_append]
    rintro (h | h)
    · exact h32 h
    · simp only [List.mem_cons, List.not_mem_nil, or_false] at h
      rcases h with h | h
      · exact hs32 b h.symm
      · exact hs32 c h.symm
theorem parse_words : ∀ {L : List Trip} {acc : List Trip}, (∀ t ∈ L, okT t = true) → parseL (L.map wordT) acc = some (acc ++ L)
  | [], acc, _ => by simp [parseL]
  | t :: L, acc, h => by
    simp only [List.map_cons, parseL]
    rw [(parse_word (h t (by simp))).1]
    simp only
    rw [parse_words fun u hu => h u (by simp [hu])]
    simp
theorem split_words : ∀ {L : List (List UInt8)} {w : List UInt8}, (32 : UInt8) ∉ w → (∀ u ∈ L, (32 : UInt8) ∉ u) → splitS 32 (joinS [32] (w :: L)) = w :: L
  | [], w, h, _ => by
    have : joinS [32] [w] = w := by simp [joinS]
    unfold splitS; rw [this, splitG_none h]; simp
  | u :: L, w, h, hL => by
    have : joinS [32] (w :: u :: L) = w ++ 32 :: joinS [32] (u :: L) := by simp [joinS]
    unfold splitS
    rw [this, splitG_one h]
    have ih := split_words (L := L) (hL u (by simp)) fun v hv => hL v (by simp [hv])
    unfold splitS at ih
    rw [ih]; simp
theorem okD_all {X : List Trip} (h : okD X = true) : (∀ t ∈ X, okT t = true) := by
  unfold okD at h
  simp only [Bool.and_eq_true, List.all_eq_true] at h
  exact h.1
theorem rd_diffText {X : List Trip} (hne : diffText X ≠ []) : rdAns (diffText X) = (X, true) := by
  unfold diffText at hne ⊢
  by_cases h : okD X = true
  · rw [if_pos h] at hne ⊢
    have hall := okD_all h
    unfold rdAns
    rw [if_neg hne]
    cases X with
    | nil => exact absurd rfl hne
    | cons t L =>
      unfold diffT
      simp only [List.map_cons]
      rw [split_words (parse_word (hall t (by simp))).2 (by
        intro u hu
        obtain ⟨v, hv, rfl⟩ := List.mem_map.1 hu
        exact (parse_word (hall v (by simp [hv]))).2)]
      have := parse_words (L := t :: L) (acc := []) hall
      simp only [List.map_cons, List.nil_append] at this
      rw [this]
      simp only [rdRes]
      rw [if_pos h]
  · rw [if_neg h] at hne; exact absurd rfl hne
end Am
/-! AmS10 -/
set_option linter.unusedVariables false
set_option linter.unusedSimpArgs false
set_option maxHeartbeats 4000000
set_option maxRecDepth 4000
namespace Am
open Go

theorem cellsAt_three {h : Heap} {b o : Nat} {x y z : Value} (a1 : cell h b o = some x) (a2 : cell h b (o + 1) = some y) (a3 : cell h b (o + 2) = some z) : cellsAt h b o 3 = some [x, y, z] := by
  unfold cell at a1 a2 a3
  unfold cellsAt
  cases hk : h[b]? with
  | none => rw [hk] at a1; simp at a1
  | some k =>
    rw [hk] at a1 a2 a3
    simp only at a1 a2 a3 ⊢
    have hl : o + 2 < k.cells.length := (List.getElem?_eq_some_iff.1 a3).1
    rw [if_pos (by omega)]
    congr 1
    apply List.ext_getElem? 
    intro i
    rw [List.getElem?_take]
    match i with
    | 0 => simp [List.getElem?_drop, a1]
    | 1 => simp [List.getElem?_drop, a2]
    | 2 => simp [List.getElem?_drop, a3]
    | i + 3 => simp; intro q; omega
def TS (l : List Trip) : Prop := ∀ x ∈ l, T64 x
def I64s (l : List Int) : Prop := ∀ x ∈ l, I64 x
theorem src_lt {h : Heap} {b m : Nat} (hs : Src h b m) : b < h.length := by
  obtain ⟨_, _, _, _, _, _, e, _⟩ := hs
  exact at_lt e
/-- A row of a block is written: nothing else. -/
theorem put_draw {h h' : Heap} {b bb m : Nat} {cs : List Value} (md : Mod b (b + 1) h h') (hs : Src h' b m) (h1 : b < bb) (h2 : h.length ≤ bb) : Mod b (b + 1) h (h'.set bb ⟨cs, true⟩) ∧ Src (h'.set bb ⟨cs, true⟩) b m :=
  ⟨⟨by have := md.1; simp; omega, fun c hc hn => by rw [set_other (by omega)]; exact md.2 c hc hn⟩, hs.mod (lo := bb) (hi := bb + 1) ⟨by simp, fun c hc hn => set_other (by omega)⟩ (by omega)⟩
/-- A panel varied. -/
theorem c555 (h : Heap) (b m : Nat) (pv : Value) (P : Pan) (hs : Src h b m) (hm : m ≤ 10000000) (pp : PtP h pv P) (hl : P.2.2.length ≤ 1000) :
    ACall Gam 555 [pt b 0, pv] h fun r h' => ∃ Q : Pan, Q.1 = P.1 ∧ Q.2.1 = P.2.1 ∧ Q.2.2.length = P.2.2.length ∧ Mod b (b + 1) h h' ∧ Vo h' h.length h'.length shPanel r Q ∧ Src h' b (m + 50) := by
  have hb := src_lt hs
  obtain ⟨W, H, br⟩ := P
  refine ACall_intro g555 rfl ?_
  unfold fn555
  rw [awp_seq, awp_reg]
  generalize hK : seqQ Gam _ _ 0 = K
  simp (disch := omega)
  subst hK
  simp only [seqQ_zero]
  rw [awp_seq, awp_reg]
  generalize hK : seqQ Gam _ _ 0 = K
  try simp (disch := omega)
  refine callW_of (c453 h pv _ (by omega) pp (by simp only at hl ⊢; omega)) ?_
  rintro _ h1 ⟨g1, o⟩
  try refine ⟨fun e => (by first | exact g1 | cases e), ?_⟩
  obtain ⟨s, rfl, w64, h64, o⟩ := o.panel
  obtain ⟨bb, zz, e, hz, hmx, hx, hbb⟩ := o.ints
  subst e
  have hl : br.length ≤ 1000 := hl
  have L1 := g1.le
  have hs1 := hs.grow g1
  try simp (disch := omega)
  subst hK
  simp only [seqQ_zero]
  rw [awp_seq]
  generalize hK : seqQ Gam _ _ = K
  rw [awp_seq, awp_reg]
  generalize hA : seqQ Gam _ _ 0 = A
  try simp (disch := omega)
  refine callW_of (c7 h1 b m 5 hs1 (by omega) (by unfold I64; omega)) ?_
  rintro _ h2 ⟨k, rfl, _, k2, md2, l2, hs2⟩
  try refine ⟨fun e => (by cases e), ?_⟩
  have k4 : k ≤ 4 := by have := k2 (by omega); omega
  have hb2 : br = [] ∨ h2[bb]? = some ⟨ints br, true⟩ ∧ h.length ≤ bb := hbb.imp id fun e => ⟨by rw [md2.2 bb (at_lt e.1) (by omega)]; exact e.1, e.2.1⟩
  have md2' : Mod b (b + 1) h h2 := g1.mod.trans md2
  try simp (disch := omega)
  subst hA
  simp only [seqQ_zero]
  rw [awp_block]
  have post : ∀ (σ : Nat → Value) (h' : Heap) (br' : List Int), σ 4 = .agg #[I 0, I 0, sl 0 0 0 0] → σ 5 = .agg #[I W, I H, sl bb 0 br.length zz] → br'.length = br.length → (∀ x ∈ br', I64 x) → (br = [] ∨ h'[bb]? = some ⟨ints br', true⟩ ∧ h.length ≤ bb) → Mod b (b + 1) h h' → Src h' b (m + 50) → blockQ 0 K 2 σ h' := by
    intro σ h' br' q4 q5 e1 e2 e3 md hs'
    rw [blockQ_eq, if_pos rfl]
    subst hK
    simp only [seqQ_zero]
    have ov : Vo h' h.length h'.length shInts (sl bb 0 br'.length zz) br' := Vo.of_ints (hz.imp id fun e => ⟨e.1, List.length_eq_zero_iff.1 (by rw [e1, e.2]; rfl)⟩) (by rw [maxLen_eq]; omega) e2 (by
      rcases e3 with e | e
      · exact .inl (List.length_eq_zero_iff.1 (by rw [e1, e]; rfl))
      · exact .inr ⟨e.1, e.2, at_lt e.1⟩)
    rw [e1] at ov
    simp (disch := omega) [q4, q5, resOf, resAll, resOne, aField]
    exact ⟨br', e1, md, Vo.of_panel w64 h64 ov, hs'⟩
  generalize blockQ 0 K = B1 at post ⊢
  refine awp_loop (fun (j : Nat) σ h' => j ≤ k ∧ σ 0 = pt b 0 ∧ σ 4 = .agg #[I 0, I 0, sl 0 0 0 0] ∧ σ 5 = .agg #[I W, I H, sl bb 0 br.length zz] ∧ σ 6 = I j ∧ Mod b (b + 1) h h' ∧ Src h' b (m + 2 + 4 * (k - j)) ∧ ∃ br' : List Int, br'.length = br.length ∧ I64s br' ∧ (br = [] ∨ h'[bb]? = some ⟨ints br', true⟩ ∧ h.length ≤ bb)) (fun j => j) k ?_ ?_
  · exact ⟨Nat.le_refl _, by simp, by simp, by simp, by simp, md2', by simpa using hs2, br, rfl, hx, hb2⟩
  · rintro j σ h' ⟨hj, q0, q4, q5, q6, md, hs', br', e1, e2, e3⟩
    by_cases j0 : j = 0
    · subst j0
      simp (disch := omega) [q5, q6]
      exact post _ h' br' (by simp [q4]) (by simp [q5]) e1 e2 e3 md (hs'.mono (by omega))
    · have jp : (0 : Int) < (j : Int) := by omega
      have jp' : 0 < j := by omega
      by_cases n0 : br.length = 0
      · simp (disch := omega) [q5, q6, jp, jp', n0]
        exact post _ h' br' (by simp [q4]) (by simp [q5, n0]) e1 e2 e3 md (hs'.mono (by omega))
      · have np : 0 < br.length := by omega
        have np' : (0 : Int) < br.length := by omega
        obtain ⟨e3a, e3b⟩ := e3.resolve_left (fun e => n0 (by rw [e]; rfl))
        simp (disch := omega) [q0, q5, q6, jp, jp', np, np']
        refine callW_of (c7 h' b _ br.length hs' (by omega) (by unfold I64; omega)) ?_
        rintro _ h3 ⟨x, rfl, x1, x2, md3, l3, hs3⟩
        try refine ⟨fun e => (by cases e), ?_⟩
        have hx3 : x < br.length := by
          by_cases q : br.length = 1
          · have := x1 (by omega); omega
          · have := x2 (by omega); omega
        have hbl : b < bb := by omega
        have f3 : h3[bb]? = some ⟨ints br', true⟩ := by rw [md3.2 bb (at_lt e3a) (by omega)]; exact e3a
        try simp (disch := omega) [q0, q5, q6]
        refine callW_of (c7 h3 b _ 3 hs3 (by omega) (by unfold I64; omega)) ?_
        rintro _ h4 ⟨y, rfl, _, y2, md4, l4, hs4⟩
        try refine ⟨fun e => (by cases e), ?_⟩
        have f4 : h4[bb]? = some ⟨ints br', true⟩ := by rw [md4.2 bb (at_lt f3) (by omega)]; exact f3
        have hst := store_int (v := (y : Int)) f4 (show x < br'.length by omega)
        have hxi : (x : Int) < br.length := by omega
        obtain ⟨p1, p2⟩ := put_draw (cs := ints (br'.set x y)) ((md.trans md3).trans md4) hs4 hbl e3b
        simp (disch := omega) [q0, q5, q6, hx3, hxi, hst, wrap64]
        have k1 : (j : Int) - 1 = ((j - 1 : Nat) : Int) := by omega
        refine ⟨j - 1, ⟨by omega, q4, by omega, p1, p2.mono (by omega), br'.set x y, by simpa using e1, ?_, .inr ⟨by simp [at_lt f4], e3b⟩⟩, by omega⟩
        intro z hz
        rcases List.mem_or_eq_of_mem_set hz with hz | hz
        · exact e2 z hz
        · have := y2 (by omega)
          rw [hz]; unfold I64; omega
/-- Changes for a panel, that seldom fail. -/
theorem c547 (h : Heap) (b m pb po : Nat) (P : Pan) (hs : Src h b m) (hm : m ≤ 10000000) (pp : PtP h (pt pb po) P) (hpb : b ≠ pb) (hl : P.2.2.length ≤ 1000) (far : ∀ bb o n z, cell h pb (po + 2) = some (sl bb o n z) → n = 0 ∨ b ≠ bb) :
    ACall Gam 547 [pt b 0, pt pb po] h fun r h' => ∃ L : List Trip, L.length ≤ 1100 ∧ Mod b (b + 1) h h' ∧ Vo h' h.length h'.length shTrips r L ∧ Src h' b (m + 200) := by
  have hb := src_lt hs
  have pp0 := pp
  obtain ⟨W, H, br⟩ := P
  have hl : br.length ≤ 1000 := hl
  obtain ⟨pb', po', s, e, f1, f2, f3, hsv, w64, h64⟩ := pp
  simp at e
  obtain ⟨rfl, rfl⟩ := e
  obtain ⟨sb, so, sz, rfl, hz0, _, hx0, hc0⟩ := hsv.ints
  simp only at f1 f2 f3 hsv hz0 hx0 hc0
  have hfar := far _ _ _ _ f3
  have hpl : pb < h.length := by
    unfold cell at f1
    cases hk : h[pb]? with
    | none => rw [hk] at f1; simp at f1
    | some k => exact at_lt hk
  -- the panel reads so for ever
  have keep : ∀ {h' : Heap}, Mod b (b + 1) h h' → cell h' pb po = some (I W) ∧ cell h' pb (po + 1) = some (I H) ∧ cell h' pb (po + 2) = some (sl sb so br.length sz) ∧ Vr h' shInts (sl sb so br.length sz) br := by
    intro h' md
    have e : h'[pb]? = h[pb]? := md.2 pb hpl (by omega)
    refine ⟨by unfold cell at f1 ⊢; rw [e]; exact f1, by unfold cell at f2 ⊢; rw [e]; exact f2, by unfold cell at f3 ⊢; rw [e]; exact f3, ?_⟩
    refine Vr.of_ints hz0 (by rw [maxLen_eq]; omega) hx0 ?_
    rcases hc0 with q | q
    · exact .inl q
    · by_cases n0 : br = []
      · exact .inl n0
      · right
        have hsl : sb < h.length := by
          unfold cellsAt at q
          cases hk : h[sb]? with
          | none => rw [hk] at q; simp at q
          | some k => exact at_lt hk
        have hne : b ≠ sb := hfar.resolve_left fun e => n0 (List.length_eq_zero_iff.1 e)
        have e2 : h'[sb]? = h[sb]? := md.2 sb hsl (by omega)
        unfold cellsAt at q ⊢
        rw [e2]; exact q
  refine ACall_intro g547 rfl ?_
  unfold fn547
  rw [awp_seq, awp_reg]
  generalize hK : seqQ Gam _ _ 0 = K
  simp (disch := omega)
  subst hK
  simp only [seqQ_zero]
  rw [awp_seq]
  generalize hK : seqQ Gam _ _ = K
  try simp (disch := omega)
  refine callW_of (c452 _ (W, H, br) h pp0) ?_
  rintro _ h ⟨rfl, rfl⟩
  try refine ⟨fun e => (by cases e), ?_⟩
  cases q : okP (W, H, br)
  · simp (disch := omega) [aBuildSlice]
    subst hK
    simp (disch := omega)
    refine ⟨[(0, 0, 1)], by simp, Mod.push _, ?_, hs.grow ⟨_, rfl⟩ |>.mono (by omega)⟩
    exact Vo.of_trips (X := [(0, 0, 1)]) (.inl rfl) (by simp [maxLen_eq]) (by simp [T64]; unfold I64; omega) (.inr ⟨by simp [Am.trips, trip], Nat.le_refl _, by simp⟩)
  have ok := okP_iff.1 q
  have oln := ok_len ok
  try simp (disch := omega)
  subst hK
  simp only [seqQ_zero]
  rw [awp_seq, awp_reg]
  generalize hK : seqQ Gam _ _ 0 = K
  try simp (disch := omega)
  refine callW_of (c555 h b m _ _ hs hm pp0 (by simp only; omega)) ?_
  rintro _ h1 ⟨⟨W', H', br'⟩, e1, e2, e3, md1, o1, hs1⟩
  simp only at e1 e2 e3
  have e1 := e1.symm
  have e2 := e2.symm
  subst e1; subst e2
  try refine ⟨fun e => (by cases e), ?_⟩
  have v1 := o1.vr
  obtain ⟨s1, rfl, _, _, o1⟩ := o1.panel
  have L1 := md1.1
  try simp (disch := omega)
  subst hK
  simp only [seqQ_zero]
  rw [awp_seq, awp_reg]
  generalize hK : seqQ Gam _ _ 0 = K
  obtain ⟨a1, a2, a3, a4⟩ := keep md1
  have ca : cellsAt h1 pb po 3 = some [I W, I H, sl sb so br.length sz] := cellsAt_three a1 a2 a3
  simp (disch := omega) [ca]
  refine callW_of (c346 h1 (by omega) _ _ (Vr.of_panel w64 h64 a4) (by rw [siz_panel]; omega) _ _ v1 (by rw [siz_panel]; omega)) ?_
  rintro _ h2 ⟨g2, r0, rfl, o2, _⟩
  try refine ⟨fun e => (by first | exact g2 | cases e), ?_⟩
  obtain ⟨L, hL⟩ : ∃ L, L = (diffAns (W, H, br) (W, H, br')).1 := ⟨_, rfl⟩
  rw [← hL] at o2
  have hLl : L.length ≤ 1000 := by
    rw [hL]; unfold diffAns
    split
    · split
      · have := dpre_len br br' br.length; simp only; omega
      · simp
    · simp
  have v2 : Vr h2 shTrips r0 L := o2.vr
  have o2' := o2
  obtain ⟨lb, lz, rfl, hz2, _, hx2, hc2⟩ := o2.trips
  have md2 : Mod b (b + 1) h h2 := md1.trans g2.mod
  have hs2 := hs1.grow g2
  have L2 := g2.le
  try simp (disch := omega)
  subst hK
  simp only [seqQ_zero]
  rw [awp_seq]
  generalize hK : seqQ Gam _ _ = K
  by_cases l0 : L.length = 0
  · simp (disch := omega) [l0]
    subst hK
    have : L = [] := List.length_eq_zero_iff.1 l0
    subst this
    simp (disch := omega)
    exact ⟨[], by simp, md2, o2'.wide L1 (Nat.le_refl _), hs2.mono (by omega)⟩
  have l0' : ¬ (L.length : Int) = 0 := by omega
  have lp : (0 : Int) < L.length := by omega
  have lp' : 0 < L.length := by omega
  obtain ⟨hb2, hlo, hhi⟩ := hc2.resolve_left (fun e => l0 (by rw [e]; rfl))
  have hbl : b < lb := by omega
  simp (disch := omega) [l0, l0']
  subst hK
  simp only [seqQ_zero]
  rw [awp_seq, awp_reg]
  generalize hK : seqQ Gam _ _ 0 = K
  simp (disch := omega) [lp, lp']
  subst hK
  simp only [seqQ_zero]
  -- one number of the first change
  rw [awp_seq]
  generalize hK : seqQ Gam _ _ = K
  have tail : ∀ (σ : Nat → Value) (h' : Heap) (t : Trip) (M : List Trip), σ 0 = pt b 0 → σ 1 = pt pb po → σ 6 = sl lb 0 L.length lz → M.length = L.length → TS M → h'[lb]? = some ⟨Am.trips M, true⟩ → Mod b (b + 1) h h' → Src h' b (m + 100) → K 0 σ h' := by
    intro σ h' t M q0 q1 q6 e1 e2 e3 md hs'
    subst hK
    simp only [seqQ_zero]
    have zz : lz = 3 := hz2.resolve_right fun e => l0 (by rw [e.2]; rfl)
    have ov : Vo h' h.length h'.length shTrips (sl lb 0 M.length lz) M := Vo.of_trips (.inl zz) (by rw [maxLen_eq]; omega) e2 (.inr ⟨e3, by omega, at_lt e3⟩)
    rw [e1] at ov
    rw [awp_seq]
    generalize hK : seqQ Gam _ _ = K
    simp (disch := omega) [q0]
    refine callW_of (c6 h' b _ 30 hs' (by omega) (by unfold I64; omega)) ?_
    rintro _ h3 ⟨w, rfl, md3, l3, hs3⟩
    try refine ⟨fun e => (by cases e), ?_⟩
    have md3' := md.trans md3
    cases w
    · simp (disch := omega)
      subst hK
      simp (disch := omega) [q6]
      have f3 : h3[lb]? = some ⟨Am.trips M, true⟩ := by rw [md3.2 lb (at_lt e3) (by omega)]; exact e3
      have ov3 : Vo h3 h.length h3.length shTrips (sl lb 0 M.length lz) M := Vo.of_trips (.inl zz) (by rw [maxLen_eq]; omega) e2 (.inr ⟨f3, by omega, at_lt f3⟩)
      rw [e1] at ov3
      exact ⟨M, by omega, md3', ov3, hs3.mono (by omega)⟩
    · -- many changes
      have brp : 0 < br.length := by
        by_cases n0 : br.length = 0
        · exfalso
          have hLe : L = [] := by
            rw [hL]; unfold diffAns
            split
            · split
              · have : br = [] := List.length_eq_zero_iff.1 n0
                rw [this]; rfl
              · rfl
            · rfl
          exact l0 (by rw [hLe]; rfl)
        · omega
      simp (disch := omega) [q0]
      refine callW_of (c7 h3 b _ 2 hs3 (by omega) (by unfold I64; omega)) ?_
      rintro _ h4 ⟨x, rfl, _, x2, md4, l4, hs4⟩
      try refine ⟨fun e => (by cases e), ?_⟩
      have hx4 : x < 2 := by have := x2 (by omega); omega
      have md4' := md3'.trans md4
      have hp4 : 0 < h4.length := by have := md4'.1; omega
      simp (disch := omega) [wrap64]
      refine awp_loop (fun (j : Nat) σ h' => j ≤ 112 + x ∧ σ 0 = pt b 0 ∧ σ 1 = pt pb po ∧ σ 10 = I j ∧ Grows h4 h' ∧ ∃ M : List Trip, M.length + j = 112 + x ∧ TS M ∧ Buf h4 h' (σ 9) 3 (Am.trips M)) (fun j => j) (112 + x) ?_ ?_
      · refine ⟨Nat.le_refl _, by simp [q0], by simp [q1], by simp, Grows.refl _, [], by simp, by simp [TS], ?_⟩
        simp [Am.trips]; exact Buf.nil
      · rintro j σ' h5 ⟨hj, r0, r1, r10, g5, M2, m1, m2, m3⟩
        by_cases j0 : j = 0
        · subst j0
          simp (disch := omega) [r10]
          subst hK
          have ov5 := m3.trips (by rw [maxLen_eq]; omega) m2
          simp (disch := omega)
          exact ⟨M2, by omega, md4'.trans g5.mod, ov5.wide (by have := md4'.1; omega) (Nat.le_refl _), (hs4.grow g5).mono (by omega)⟩
        · have jp : (0 : Int) < (j : Int) := by omega
          have jp' : 0 < j := by omega
          obtain ⟨_, _, c3, c4⟩ := keep (md4'.trans g5.mod)
          obtain ⟨b9, o9, z9, e9, _, _, _, c5⟩ := c4.ints
          simp at e9
          obtain ⟨⟨rfl, rfl⟩, rfl⟩ := e9
          have c6' := ints_cell c5 brp
          rw [Nat.add_zero] at c6'
          have i0 : (0 : Int) < br.length := by omega
          simp (disch := omega) [r0, r1, r10, jp, jp', c3, c6', brp, i0]
          refine append_trip hp4 (by omega) g5 m3 fun v' h6 g6 b6 _ => ?_
          have k1 : (j : Int) - 1 = ((j - 1 : Nat) : Int) := by omega
          simp (disch := omega) [r0, r1, r10, wrap64]
          refine ⟨j - 1, ⟨by omega, by omega, g6, M2 ++ ([((0 : Int), br[0], br[0])] : List Trip), by simp; omega, ?_, b6⟩, by omega⟩
          intro t ht
          rcases List.mem_append.1 ht with ht | ht
          · exact m2 t ht
          · simp at ht; subst ht
            have := ok.b br[0] (List.getElem_mem brp)
            unfold T64 I64; simp only; omega
  clear hK
  rw [awp_seq, awp_reg]
  generalize hA : seqQ Gam _ _ 0 = A
  simp (disch := omega)
  refine callW_of (c7 h2 b _ 16 hs2 (by omega) (by unfold I64; omega)) ?_
  rintro _ h3 ⟨k, rfl, _, k2, md3, l3, hs3⟩
  try refine ⟨fun e => (by cases e), ?_⟩
  have hb3 : h3[lb]? = some ⟨Am.trips L, true⟩ := by rw [md3.2 lb (at_lt hb2) (by omega)]; exact hb2
  have md3' := md2.trans md3
  obtain ⟨t, L', rfl⟩ : ∃ t L', L = t :: L' := by
    cases L with
    | nil => exact absurd rfl l0
    | cons t L' => exact ⟨t, L', rfl⟩
  obtain ⟨ta, tb, tc⟩ := t
  have et : Am.trips ((ta, tb, tc) :: L') = I ta :: I tb :: I tc :: Am.trips L' := by simp [Am.trips, trip]
  have t64 := hx2 (ta, tb, tc) (by simp)
  have ts' : TS L' := fun x hx => hx2 x (by simp [hx])
  try simp (disch := omega)
  subst hA
  simp only [seqQ_zero]
  rw [awp_block]
  have tail' : ∀ (σ : Nat → Value) (h' : Heap) (u : Trip), σ 0 = pt b 0 → σ 1 = pt pb po → σ 6 = sl lb 0 (L'.length + 1) lz → T64 u → h'[lb]? = some ⟨Am.trips (u :: L'), true⟩ → Mod b (b + 1) h h' → Src h' b (m + 100) → blockQ 0 K 0 σ h' := by
    intro σ h' u q0 q1 q6 e2 e3 md hs'
    rw [blockQ_eq, if_neg (by omega)]
    exact tail σ h' u (u :: L') q0 q1 (by simpa using q6) (by simp) (fun x hx => by
      rcases List.mem_cons.1 hx with rfl | hx
      · exact e2
      · exact ts' x hx) e3 md hs'
  clear tail
  generalize blockQ 0 K = B1 at tail' ⊢
  have putf : ∀ {h' : Heap} (i : Nat) (v : Int), i < 3 → h'[lb]? = some ⟨Am.trips ((ta, tb, tc) :: L'), true⟩ → storeAt h' lb i [I v] = some (h'.set lb ⟨(Am.trips ((ta, tb, tc) :: L')).set i (I v), true⟩) := by
    intro h' i v hi hb'
    exact store_one hb' (by rw [et]; simp; omega)
  by_cases e0 : k = 0
  · subst e0
    obtain ⟨_, _, c3, _⟩ := keep md3'
    simp (disch := omega) [c3, aBuildSlice]
    obtain ⟨h4, e4⟩ : ∃ h4, h4 = h3 ++ [⟨ints [-1, (br.length : Int), 111, 112], true⟩] := ⟨_, rfl⟩
    have g4 : Grows h3 h4 := ⟨_, e4⟩
    simp only [ints, List.map_cons, List.map_nil] at e4
    rw [← e4]
    refine callW_of (c4 h4 b _ h3.length [-1, (br.length : Int), 111, 112] (hs3.grow g4) (by omega) (by rw [e4]; simp [ints]) (by have := md3'.1; omega) (by simp) (by simp)) ?_
    rintro _ h5 ⟨y, hy, rfl, md5, l5, hs5⟩
    have y64 : I64 y := by simp at hy; unfold I64; omega
    have hb5 : h5[lb]? = some ⟨Am.trips ((ta, tb, tc) :: L'), true⟩ := by rw [md5.2 lb (at_lt (g4.at hb3)) (by omega)]; exact g4.at hb3
    have st := putf 0 y (by omega) hb5
    obtain ⟨p1, p2⟩ := put_draw (cs := (Am.trips ((ta, tb, tc) :: L')).set 0 (I y)) ((md3'.trans g4.mod).trans md5) hs5 hbl (by omega)
    simp (disch := omega) [st]
    exact tail' _ _ (y, tb, tc) (by simp) (by simp) (by simp) ⟨y64, t64.2.1, t64.2.2⟩ (by simp [at_lt hb5, et]; simp [Am.trips, trip]) p1 (p2.mono (by omega))
  by_cases e1 : k = 1
  · subst e1
    simp (disch := omega) [aBuildSlice]
    obtain ⟨h4, e4⟩ : ∃ h4, h4 = h3 ++ [⟨ints [-1, 2, 3], true⟩] := ⟨_, rfl⟩
    have g4 : Grows h3 h4 := ⟨_, e4⟩
    simp only [ints, List.map_cons, List.map_nil] at e4
    rw [← e4]
    refine callW_of (c4 h4 b _ h3.length [-1, 2, 3] (hs3.grow g4) (by omega) (by rw [e4]; simp [ints]) (by have := md3'.1; omega) (by simp) (by simp)) ?_
    rintro _ h5 ⟨y, hy, rfl, md5, l5, hs5⟩
    have y64 : I64 y := by simp at hy; unfold I64; omega
    have hb5 : h5[lb]? = some ⟨Am.trips ((ta, tb, tc) :: L'), true⟩ := by rw [md5.2 lb (at_lt (g4.at hb3)) (by omega)]; exact g4.at hb3
    have st := putf 2 y (by omega) hb5
    obtain ⟨p1, p2⟩ := put_draw (cs := (Am.trips ((ta, tb, tc) :: L')).set 2 (I y)) ((md3'.trans g4.mod).trans md5) hs5 hbl (by omega)
    simp (disch := omega) [st]
    exact tail' _ _ (ta, tb, y) (by simp) (by simp) (by simp) ⟨t64.1, t64.2.1, y64⟩ (by simp [at_lt hb5, et]; simp [Am.trips, trip]) p1 (p2.mono (by omega))
  by_cases e2 : k = 2
  · subst e2
    simp (disch := omega)
    refine callW_of (c7 h3 b _ 4 hs3 (by omega) (by unfold I64; omega)) ?_
    rintro _ h5 ⟨y, rfl, _, y2, md5, l5, hs5⟩
    try refine ⟨fun e => (by cases e), ?_⟩
    have hy := y2 (by omega)
    have y64 : I64 (y : Int) := by unfold I64; omega
    have hb5 : h5[lb]? = some ⟨Am.trips ((ta, tb, tc) :: L'), true⟩ := by rw [md5.2 lb (at_lt hb3) (by omega)]; exact hb3
    have st := putf 1 y (by omega) hb5
    obtain ⟨p1, p2⟩ := put_draw (cs := (Am.trips ((ta, tb, tc) :: L')).set 1 (I y)) (md3'.trans md5) hs5 hbl (by omega)
    simp (disch := omega) [st]
    exact tail' _ _ (ta, y, tc) (by simp) (by simp) (by simp) ⟨t64.1, y64, t64.2.2⟩ (by simp [at_lt hb5, et]; simp [Am.trips, trip]) p1 (p2.mono (by omega))
  have n0 : ((k : Int) = 0) = False := eq_false (by omega)
  have n1 : ((k : Int) = 1) = False := eq_false (by omega)
  have n2 : ((k : Int) = 2) = False := eq_false (by omega)
  simp (disch := omega) [e0, n0, n1, n2]
  exact tail' _ h3 (ta, tb, tc) (by simp) (by simp) (by simp) t64 hb3 md3' (hs3.mono (by omega))
end Am

/- Contracts: AmY16, AmY17, AmY18, AmY19, AmY20, AmY21, AmY22, AmY23, AmY28, AmY29, AmY30, AmY31, AmY32, AmY33, AmY36, AmY37, AmG4, AmG1, AmG2, AmG5, AmG6, AmS7, AmS8. -/
import Derived.Test.YtaeaaogpdipjfaaAmK5
import Derived.Test.YtaeaaogpdipjfaaAmK3
import Derived.Test.YtaeaaogpdipjfaaAmK4
import Derived.Test.YtaeaaogpdipjfaaAmK2
import Derived.Test.YtaeaaogpdipjfaaAmK1
/-! AmY16 -/
set_option linter.unusedVariables false
set_option linter.unusedSimpArgs false
set_option maxHeartbeats 4000000
set_option maxRecDepth 4000
namespace Am
open Go

def kW (y : Kpt) : Nat := 3 + y.2.2.2.length
def kM (y : Kpt) (k : Nat) : Kpt := (markOf k, ((k + 1 : Nat) : Int), ((k + 2 : Nat) : Int), nums (k + 3) y.2.2.2.length)
def kMs : Lib → Nat → Lib
  | [], _ => []
  | y :: l, k => kM y k :: kMs l (k + kW y)
/-- Where an entry's marks begin. -/
def kPos (X : Lib) (k i : Nat) : Nat := k + ((X.take i).map kW).sum
theorem EntO.vo {h : Heap} {r : Row} (e : EntO h r) : ∃ lo hi, Vo h lo hi shInts (rowS r) (rbr r) ∧ (∀ c, lo ≤ c → c < hi → c ∈ rowB r) ∧ (rbr r = [] ∨ lo = r.2.1 ∧ hi = r.2.1 + 1) := by
  by_cases h0 : rbr r = []
  · refine ⟨0, 0, ?_, fun c _ h => by omega, .inl h0⟩
    exact Vo.of_ints e.z e.m e.x (.inl h0)
  · refine ⟨r.2.1, r.2.1 + 1, ?_, fun c h1 h2 => by rw [rowB, if_neg h0]; simp; omega, .inr ⟨rfl, rfl⟩⟩
    exact Vo.of_ints e.z e.m e.x (.inr ⟨e.b.resolve_left h0, by omega, by omega⟩)
end Am
/-! AmY17 -/
set_option linter.unusedVariables false
set_option linter.unusedSimpArgs false
set_option maxHeartbeats 4000000
set_option maxRecDepth 4000
namespace Am
open Go

/-- A list of rows that is being made. -/
structure KB (h0 h : Heap) (v : Value) (L : List Row) : Prop where
  b : Buf h0 h v 4 (rowsC L)
  el : ∀ r ∈ L, EntO h r
  nd : (L.map rowB).flatten.Nodup
  rg : ∀ r ∈ L, ∀ c ∈ rowB r, h0.length ≤ c
theorem KB.nil {h0 h : Heap} : KB h0 h (sl 0 0 0 4) [] := ⟨by simpa [rowsC] using Buf.nil, by simp, by simp, by simp⟩
theorem KB.ko {h0 h : Heap} {v : Value} {L : List Row} (k : KB h0 h v L) (hm : L.length ≤ maxLen) : ∃ b, v = sl b 0 L.length 4 ∧ KO h h0.length h.length b 4 L := by
  have hl := rowsC_len L
  rcases k.b with ⟨e1, e2⟩ | ⟨b, n, e1, e2, e3, e4⟩
  · have : L = [] := by
      rw [e1] at hl; simp at hl; exact List.length_eq_zero_iff.1 (by omega)
    subst this
    exact ⟨0, e2, .inl rfl, hm, k.el, .inl rfl, k.nd, by simp⟩
  · rw [hl] at e2
    have : n = L.length := by omega
    subst this
    exact ⟨b, e1, .inl rfl, hm, k.el, .inr ⟨e4, e3, at_lt e4⟩, k.nd, fun r hr c hc => ⟨k.rg r hr c hc, (k.el r hr).lt c hc⟩⟩
theorem KB.vo {h0 h : Heap} {v : Value} {L : List Row} (k : KB h0 h v L) (hm : L.length ≤ maxLen) : Vo h h0.length h.length shKepts v (L.map (·.1)) := by
  obtain ⟨b, rfl, ko⟩ := k.ko hm
  exact KO.vo ko
theorem KB.len {h0 h : Heap} {v : Value} {L : List Row} (k : KB h0 h v L) : ∃ b, v = sl b 0 L.length 4 := by
  have hl := rowsC_len L
  rcases k.b with ⟨e1, e2⟩ | ⟨b, n, e1, e2, e3, e4⟩
  · have : L = [] := by
      rw [e1] at hl; simp at hl; exact List.length_eq_zero_iff.1 (by omega)
    subst this
    exact ⟨0, e2⟩
  · rw [hl] at e2
    have : n = L.length := by omega
    subst this
    exact ⟨b, e1⟩
end Am
/-! AmY18 -/
set_option linter.unusedVariables false
set_option linter.unusedSimpArgs false
set_option maxHeartbeats 4000000
set_option maxRecDepth 4000
namespace Am
open Go

/-! ### parts of a list put together -/
def KCs (h : Heap) (X : Lib) (cs : List Value) : Prop := cs.length = X.length * 4 ∧ ∀ i (hi : i < X.length), ∃ s, (cs.drop (i * 4)).take 4 = [S X[i].1, I X[i].2.1, I X[i].2.2.1, s] ∧ Vr h shInts s X[i].2.2.2 ∧ I64 X[i].2.1 ∧ I64 X[i].2.2.1 ∧ X[i].1.length ≤ 9223372036854775807
theorem KCs.nil {h : Heap} : KCs h [] [] := ⟨rfl, fun i hi => by simp at hi⟩
theorem KCs.append {h : Heap} {X Y : Lib} {a b : List Value} (x : KCs h X a) (y : KCs h Y b) : KCs h (X ++ Y) (a ++ b) := by
  refine ⟨by rw [List.length_append, List.length_append, x.1, y.1]; omega, fun i hi => ?_⟩
  rw [List.length_append] at hi
  by_cases e : i < X.length
  · obtain ⟨s, c, r⟩ := x.2 i e
    rw [List.getElem_append_left e]
    refine ⟨s, ?_, r⟩
    rw [List.drop_append_of_le_length (by rw [x.1]; omega), List.take_append_of_le_length (by rw [List.length_drop, x.1]; omega), c]
  · obtain ⟨s, c, r⟩ := y.2 (i - X.length) (by omega)
    rw [List.getElem_append_right (by omega)]
    refine ⟨s, ?_, r⟩
    rw [List.drop_append, List.drop_eq_nil_of_le (by rw [x.1]; omega), List.nil_append, x.1, show i * 4 - X.length * 4 = (i - X.length) * 4 by omega, c]
theorem KAt.part {h : Heap} {b o z : Nat} {X : Lib} (x : KAt h b o z X) (hz : z = 4 ∨ X = []) {i j : Nat} (hij : i ≤ j) (hj : j ≤ X.length) : ∃ cs, newCells 4 h (sl b (o + i * z) (j - i) z) = some cs ∧ KCs h ((X.take j).drop i) cs := by
  by_cases e : j - i = 0
  · have : i = j := by omega
    subst this
    refine ⟨[], by simp [newCells], ?_⟩
    rw [List.drop_eq_nil_of_le (by rw [List.length_take]; omega)]
    exact KCs.nil
  · have hz4 : z = 4 := by
      rcases hz with q | q
      · exact q
      · subst q; simp at hj; omega
    subst hz4
    obtain ⟨s, c, _⟩ := x.2 (j - 1) (by omega)
    obtain ⟨k, hk⟩ : ∃ k, h[b]? = some k := by
      unfold cellsAt at c
      cases q : h[b]? with
      | none => simp [q] at c
      | some k => exact ⟨k, rfl⟩
    have hlen : o + (j - 1) * 4 + 4 ≤ k.cells.length := by
      unfold cellsAt at c
      simp only [hk] at c
      split at c
      · assumption
      · cases c
    refine ⟨(k.cells.drop (o + i * 4)).take ((j - i) * 4), ?_, ?_, fun m hm => ?_⟩
    · simp only [newCells, sl]
      rw [if_neg e, cellsAt_of hk (by omega)]
    · rw [List.length_take, List.length_drop, List.length_drop, List.length_take]; omega
    · rw [List.length_drop, List.length_take] at hm
      obtain ⟨s, c, r⟩ := x.2 (i + m) (by omega)
      rw [List.getElem_drop, List.getElem_take]
      refine ⟨s, ?_, r⟩
      have : o + (i + m) * 4 + 4 ≤ k.cells.length := by omega
      rw [cellsAt_of hk (by omega)] at c
      injection c with c
      rw [List.drop_take, List.take_take, List.drop_drop, ← c, show o + i * 4 + m * 4 = o + (i + m) * 4 by omega]
      congr 1; omega
theorem KeptOk.small {X : Lib} (ok : KeptOk X) : ∀ y ∈ X, y.1.length ≤ 12 ∧ y.2.2.2.length ≤ 128 := by
  intro y hy
  obtain ⟨j, hj, rfl⟩ := List.getElem_of_mem hy
  obtain ⟨okp, hn⟩ := ok.getOk hj
  exact ⟨hn, okp.siz⟩
end Am
/-! AmY19 -/
set_option linter.unusedVariables false
set_option linter.unusedSimpArgs false
set_option maxHeartbeats 4000000
set_option maxRecDepth 4000
namespace Am
open Go

/-! ### the program: sought by halves, inserted -/
def cmpT (a b : List UInt8) : Int := if lexLt a b = true then -1 else if lexLt b a = true then 1 else 0
end Am
/-! AmY20 -/
set_option linter.unusedVariables false
set_option linter.unusedSimpArgs false
set_option maxHeartbeats 4000000
set_option maxRecDepth 4000
namespace Am
open Go

theorem KB.grow {h0 h h' : Heap} {v : Value} {L : List Row} (k : KB h0 h v L) (g : Grows h h') : KB h0 h' v L :=
  ⟨k.b.grow g, fun r hr => (k.el r hr).frame fun c hc => g.look ((k.el r hr).lt c hc), k.nd, k.rg⟩
/-- All that was there stays, but for a list's own block. -/
def FrameOut (h h' : Heap) (v w : Value) : Prop := h.length ≤ h'.length ∧ (∃ b2 n2, w = sl b2 0 n2 4 ∧ h.length ≤ b2) ∧ ∀ c, c < h.length → (∀ m, v ≠ sl c 0 m 4) → h'[c]? = h[c]?
/-- Rows that are of a list, or are one row. -/
def OneMore (L' : List Row) (r : Row) (L : List Row) : Prop := ∀ q ∈ L', q = r ∨ q ∈ L
end Am
/-! AmY21 -/
set_option linter.unusedVariables false
set_option linter.unusedSimpArgs false
set_option maxHeartbeats 4000000
set_option maxRecDepth 4000
namespace Am
open Go

/-- Short names, no more breaks than panels have. -/
def SmallK (X : Lib) : Prop := ∀ y ∈ X, y.1.length ≤ 12 ∧ y.2.2.2.length ≤ 128
end Am
/-! AmY22 -/
set_option linter.unusedVariables false
set_option linter.unusedSimpArgs false
set_option maxHeartbeats 4000000
set_option maxRecDepth 4000
namespace Am
open Go

theorem EntO.vr {h : Heap} {r : Row} (e : EntO h r) : Vr h shPanel (.agg #[I r.1.2.1, I r.1.2.2.1, rowS r]) r.1.2 := by
  obtain ⟨lo, hi, vo, _⟩ := e.vo
  exact Vr.of_panel e.w e.h vo.vr
/-- Rows that are of a list, or of the first of another. -/
def FromTwo (L L0 LB : List Row) (k : Nat) : Prop := ∀ q ∈ L, q ∈ L0 ∨ ∃ j, j < k ∧ ∃ hj : j < LB.length, q = LB[j]
/-- The rows that are put in are there. -/
def RowsThere (h : Heap) (bw : Nat) (LB : List Row) : Prop := (LB = [] ∨ h[bw]? = some ⟨rowsC LB, true⟩) ∧ ∀ r ∈ LB, EntO h r
theorem RowsThere.grow {h h' : Heap} {bw : Nat} {LB : List Row} (x : RowsThere h bw LB) (g : Grows h h') : RowsThere h' bw LB :=
  ⟨x.1.imp id fun q => g.at q, fun r hr => (x.2 r hr).frame fun c hc => g.look ((x.2 r hr).lt c hc)⟩
/-- A list's own block lies outside a range. -/
def Outside (v : Value) (lo hi : Nat) : Prop := ∀ c m, v = sl c 0 m 4 → c = 0 ∨ c < lo ∨ hi ≤ c
end Am
/-! AmY23 -/
set_option linter.unusedVariables false
set_option linter.unusedSimpArgs false
set_option maxHeartbeats 4000000
set_option maxRecDepth 4000
namespace Am
open Go

theorem packP_len {X : Pan} (ok : OkP X) : 5 ≤ (packP X).length ∧ (packP X).length ≤ 40 := by
  have := ok.siz
  unfold packP packBody
  rw [ended_len, List.length_append, packB_len]
  simp only [List.length_cons, List.length_nil]
  omega
end Am
/-! AmY28 -/
set_option linter.unusedVariables false
set_option linter.unusedSimpArgs false
set_option maxHeartbeats 4000000
set_option maxRecDepth 4000
namespace Am
open Go

/-- A walker. -/
def wv (w : Wk) : Value := .agg #[I w.1, I w.2.1, I w.2.2.1, I w.2.2.2]
end Am
/-! AmY29 -/
set_option linter.unusedVariables false
set_option linter.unusedSimpArgs false
set_option maxHeartbeats 4000000
set_option maxRecDepth 4000
namespace Am
open Go

end Am
/-! AmY30 -/
set_option linter.unusedVariables false
set_option linter.unusedSimpArgs false
set_option maxHeartbeats 4000000
set_option maxRecDepth 4000
namespace Am
open Go

/-- Two slices have no block in common. -/
def Apart (v w : Value) : Prop := ∀ b c n m z y, v = sl b 0 n z → w = sl c 0 m y → b = c → b = 0
theorem Apart.symm {v w : Value} (a : Apart v w) : Apart w v := fun b c n m z y h1 h2 e => by
  have := a c b m n y z h2 h1 e.symm; omega
end Am
/-! AmY31 -/
set_option linter.unusedVariables false
set_option linter.unusedSimpArgs false
set_option maxHeartbeats 4000000
set_option maxRecDepth 4000
namespace Am
open Go

/-- The segments that a walk passes. -/
def segsW (f : Wk → Wk) (H : Nat) (w : Wk) (k : Nat) : List Int := (List.range k).map fun j => (segW H (itW f j w) : Int)
end Am
/-! AmY32 -/
set_option linter.unusedVariables false
set_option linter.unusedSimpArgs false
set_option maxHeartbeats 4000000
set_option maxRecDepth 4000
namespace Am
open Go

theorem Buf.ne {B0 h : Heap} {v : Value} {z y c : Nat} {cs : List Value} (x : Buf B0 h v z cs) (h0 : 0 < c) (hc : c < B0.length) : ∀ n, v ≠ sl c 0 n y := by
  intro n e
  rcases x with ⟨_, e2⟩ | ⟨b, m, e2, _, e3, _⟩
  · rw [e2] at e; simp [sl] at e <;> omega
  · rw [e2] at e; simp [sl] at e <;> omega
theorem Buf.put {B0 h : Heap} {v : Value} {z c : Nat} {cs : List Value} {k : Blk} (x : Buf B0 h v z cs) (hc : c < B0.length) : Buf B0 (h.set c k) v z cs := by
  rcases x with ⟨e1, e2⟩ | ⟨b, m, e2, e3, e4, e5⟩
  · exact .inl ⟨e1, e2⟩
  · exact .inr ⟨b, m, e2, e3, e4, put_at e5 (by omega)⟩
end Am
/-! AmY33 -/
set_option linter.unusedVariables false
set_option linter.unusedSimpArgs false
set_option maxHeartbeats 4000000
set_option maxRecDepth 4000
namespace Am
open Go

end Am
/-! AmY36 -/
set_option linter.unusedVariables false
set_option linter.unusedSimpArgs false
set_option maxHeartbeats 4000000
set_option maxRecDepth 4000
namespace Am
open Go

/-- The breaks after the first steps from the start. -/
def fwdB (p : List Trip) (c : List Int) (k : Nat) : List Int := (p.take k).foldl (fun b s => b.set s.1.toNat s.2.2) c
noncomputable def alongL (X : Jrn) (k : Nat) : List Int := (List.range k).map fun j => (curveN (X.1.1, X.1.2.1, fwdB X.2.1 (startB X) j) : Int)
noncomputable def alongA (X : Jrn) : List Int × Int := if okJ X then (alongL X (X.2.1.length + 1), 0) else ([], 1)
structure AlongOk (W H : Int) (br : List Int) (p f : List Trip) : Prop where
  ok : ∀ k, k ≤ p.length → OkP (W, H, fwdB p (startB ((W, H, br), p, f)) k)
  st : ∀ k, (h : k < p.length) → (0 ≤ p[k].1 ∧ p[k].1 < (fwdB p (startB ((W, H, br), p, f)) k).length)
  len : ∀ k, k ≤ p.length → (fwdB p (startB ((W, H, br), p, f)) k).length = br.length
  le : p.length ≤ 50
end Am
/-! AmY37 -/
set_option linter.unusedVariables false
set_option linter.unusedSimpArgs false
set_option maxHeartbeats 4000000
set_option maxRecDepth 4000
namespace Am
open Go

end Am
/-! AmG4 -/
set_option linter.unusedVariables false
set_option linter.unusedSimpArgs false
set_option maxHeartbeats 4000000
set_option maxRecDepth 4000
namespace Am
open Go

theorem pv_dv {br : List Int} (hb : ∀ x ∈ br, 0 ≤ x ∧ x ≤ 2) (i : Nat) : ∀ m j, dv (pv br i (j + m)).toNat m = (pv br i j).toNat
  | 0, j => by rw [dv_zero]; rfl
  | m + 1, j => by
    have ih := pv_dv hb i m (j + 1)
    rw [dv_succ, show j + (m + 1) = j + 1 + m by omega, ih]
    have h1 := (pv_bd hb i j).1
    have h2 := at0_bd hb (i + j)
    simp only [pv]
    omega
theorem pv_digit {br : List Int} (hb : ∀ x ∈ br, 0 ≤ x ∧ x ≤ 2) (i : Nat) {j : Nat} (hj : j < 5) : ((dv (fiveV br i).toNat (4 - j) % 3 : Nat) : Int) = at0 br (i + j) := by
  have e := pv_dv hb i (4 - j) (j + 1)
  rw [show j + 1 + (4 - j) = 5 by omega] at e
  unfold fiveV
  rw [e]
  have h1 := (pv_bd hb i j).1
  have h2 := at0_bd hb (i + j)
  simp only [pv]
  omega
theorem bn_app {a b : List UInt8} {i : Nat} (h : i < a.length) : bn (a ++ b) i = bn a i := by
  unfold bn; rw [List.getD_eq_getElem?_getD, List.getElem?_append_left h, ← List.getD_eq_getElem?_getD]
theorem bn_app2 {a b : List UInt8} {i : Nat} : bn (a ++ b) (a.length + i) = bn b i := by
  unfold bn; rw [List.getD_eq_getElem?_getD, List.getElem?_append_right (by omega), ← List.getD_eq_getElem?_getD]; congr 2; omega
theorem bn_packB {br : List Int} {q i : Nat} (hb : ∀ x ∈ br, 0 ≤ x ∧ x ≤ 2) (h : i < q) : bn (packB br q) i = (fiveV br (5 * i)).toNat := by
  have h1 := pv_le hb (5 * i) 5 (Nat.le_refl _)
  have : (packB br q)[i]? = some (byteI (fiveV br (5 * i))) := by simp [packB, h]
  unfold bn
  rw [List.getD_eq_getElem?_getD, this]
  have h2 := byteI_toNat (x := fiveV br (5 * i)) (by unfold fiveV; omega)
  simp only [Option.getD_some]
  omega
theorem packBody_len {X : Pan} : (packBody X).length = 3 + (X.2.2.length + 4) / 5 := by
  unfold packBody; rw [List.length_append, packB_len]; rfl
theorem packP_len' {X : Pan} : (packP X).length = 5 + (X.2.2.length + 4) / 5 := by
  unfold packP; rw [ended_len, packBody_len]; omega
theorem bn_packP {X : Pan} {i : Nat} (h : i < (packBody X).length) : bn (packP X) i = bn (packBody X) i := by
  unfold packP ended; exact bn_app h
theorem packP_heads {X : Pan} (ok : OkP X) : bn (packP X) 0 = 77 ∧ (bn (packP X) 1 : Int) = X.1 ∧ (bn (packP X) 2 : Int) = X.2.1 := by
  have hl := packBody_len (X := X)
  have hw := ok.w; have hh := ok.h
  rw [bn_packP (by omega), bn_packP (by omega), bn_packP (by omega)]
  have e1 := byteI_toNat (x := X.1) (by omega)
  have e2 := byteI_toNat (x := X.2.1) (by omega)
  refine ⟨rfl, ?_, ?_⟩
  · show ((byteI X.1).toNat : Int) = _
    exact e1
  · show ((byteI X.2.1).toNat : Int) = _
    exact e2
theorem unP_pack {X : Pan} (ok : OkP X) : unP (packP X) = X := by
  obtain ⟨h0, h1, h2⟩ := packP_heads ok
  have hl := packBody_len (X := X)
  have hn := ok.n
  obtain ⟨W, H, br⟩ := X
  simp only at h1 h2 hn hl
  unfold unP
  rw [h1, h2]
  refine Prod.ext rfl (Prod.ext rfl ?_)
  simp only
  unfold unB
  apply List.ext_getElem
  · simp; omega
  · intro k hk hk'
    have hk2 : k / 5 < (br.length + 4) / 5 := by omega
    simp only [List.getElem_map, List.getElem_range]
    have e : bn (packP (W, H, br)) (3 + k / 5) = (fiveV br (5 * (k / 5))).toNat := by
      rw [bn_packP (by omega)]
      show bn ([77, byteI W, byteI H] ++ packB br ((br.length + 4) / 5)) (3 + k / 5) = _
      have := bn_app2 (a := [77, byteI W, byteI H]) (b := packB br ((br.length + 4) / 5)) (i := k / 5)
      simp only [List.length_cons, List.length_nil] at this
      rw [this]
      exact bn_packB ok.b hk2
    unfold brk
    rw [e, pv_digit ok.b _ (Nat.mod_lt _ (by omega)), show 5 * (k / 5) + k % 5 = k by omega, at0_of hk']
theorem lenOk_pack {X : Pan} (ok : OkP X) : lenOk (packP X) = true := by
  obtain ⟨h0, h1, h2⟩ := packP_heads ok
  have hl := packP_len' (X := X)
  have hn := ok.n
  unfold lenOk
  rw [h1, h2]
  simp only [Bool.and_eq_true, decide_eq_true_eq]
  refine ⟨by omega, okSz_iff.2 ⟨ok.w, ok.h⟩, ?_⟩
  unfold packSize
  omega
theorem unOk_pack {X : Pan} (ok : OkP X) : unOk (packP X) = true := by
  unfold unOk
  rw [lenOk_pack ok, unP_pack ok]; simp
theorem packP_size {X : Pan} (ok : OkP X) : ((packP X).length : Int) = packSize X.1 X.2.1 := by
  have hl := packP_len' (X := X)
  have hn := ok.n
  unfold packSize
  omega

/-! ### libraries -/
/-- One entry at the head of bytes, and what is behind it; more bytes than the entry needs must be there. -/
def oneP (more : Nat) (r : List UInt8) : Option (Kpt × List UInt8) :=
  if r.length < bn r 0 + 4 + more then none
  else if okSz (bn (r.drop (bn r 0 + 1)) 1) (bn (r.drop (bn r 0 + 1)) 2) = false ∨ ((r.drop (bn r 0 + 1)).length : Int) < packSize (bn (r.drop (bn r 0 + 1)) 1) (bn (r.drop (bn r 0 + 1)) 2) then none
  else if unOk ((r.drop (bn r 0 + 1)).take (packSize (bn (r.drop (bn r 0 + 1)) 1) (bn (r.drop (bn r 0 + 1)) 2)).toNat) then
    some ((((r.take (bn r 0 + 1)).drop 1), unP ((r.drop (bn r 0 + 1)).take (packSize (bn (r.drop (bn r 0 + 1)) 1) (bn (r.drop (bn r 0 + 1)) 2)).toNat)), (r.drop (bn r 0 + 1)).drop (packSize (bn (r.drop (bn r 0 + 1)) 1) (bn (r.drop (bn r 0 + 1)) 2)).toNat)
  else none
def parK (more : Nat) : Nat → List UInt8 → Option (Lib × List UInt8)
  | 0, r => some ([], r)
  | n + 1, r => match oneP more r with
    | none => none
    | some (k, t) => (parK more n t).map fun p => (k :: p.1, p.2)
open Classical in
/-- The library with a packed form. -/
noncomputable def unpackK (s : List UInt8) : Lib × Int := if h : ∃ X, keptOk X = true ∧ packK X = s then (Classical.choose h, 0) else ([], 8)
theorem KeptOk.pk {X : Lib} (ok : KeptOk X) : ∀ e ∈ X, OkP e.2 ∧ e.1.length ≤ 12 := by
  intro e he
  obtain ⟨i, hi, rfl⟩ := List.getElem_of_mem he
  exact ok.getOk hi
end Am
/-! AmG1 -/
set_option linter.unusedVariables false
set_option linter.unusedSimpArgs false
set_option maxHeartbeats 4000000
set_option maxRecDepth 4000
namespace Am
open Go

/-! ### counting -/
open Classical in
noncomputable def ind (p : Prop) : Nat := if p then 1 else 0
noncomputable def cntP (P : Nat → Prop) : Nat → Nat
  | 0 => 0
  | n + 1 => cntP P n + ind (P n)
/-! ### classes -/
def leastE (E : Nat → Nat → Prop) (k : Nat) : Prop := ∀ j, j < k → ¬ E j k
noncomputable def cls (E : Nat → Nat → Prop) (n : Nat) : Nat := cntP (leastE E) n
structure EqN (E : Nat → Nat → Prop) (n : Nat) : Prop where
  rf : ∀ k, k < n → E k k
  sm : ∀ j k, j < n → k < n → E j k → E k j
  tr : ∀ i j k, i < n → j < n → k < n → E i j → E j k → E i k
/-! ### one-to-one steps -/
section
variable {α : Type} {f g : α → α} {V : α → Prop} {ix : Nat → α} {n : Nat}
structure Inj (f : α → α) (V : α → Prop) (ix : Nat → α) (n : Nat) : Prop where
  vf : ∀ w, V w → V (f w)
  inj : ∀ w v, V w → V v → f w = f v → w = v
  cov : ∀ w, V w → ∃ j, j < n ∧ ix j = w
  vx : ∀ j, j < n → V (ix j)
def Go1 (f : α → α) (w v : α) : Prop := ∃ i, itW f i w = v
theorem Go1.refl (w : α) : Go1 f w w := ⟨0, rfl⟩
theorem Go1.trans {u v w : α} (x : Go1 f u v) (y : Go1 f v w) : Go1 f u w := by
  obtain ⟨i, rfl⟩ := x
  obtain ⟨j, rfl⟩ := y
  exact ⟨i + j, itW_add i j u⟩
theorem Go1.step {u v : α} (x : Go1 f u v) : Go1 f u (f v) := by
  obtain ⟨i, rfl⟩ := x
  exact ⟨i + 1, rfl⟩
theorem Inj.vi (a : Inj f V ix n) {w : α} (h : V w) : ∀ k, V (itW f k w)
  | 0 => h
  | k + 1 => a.vf _ (a.vi h k)
theorem Inj.injI (a : Inj f V ix n) {u v : α} (h : V u) (h' : V v) : ∀ k, itW f k u = itW f k v → u = v
  | 0, e => e
  | k + 1, e => a.injI h h' k (a.inj _ _ (a.vi h k) (a.vi h' k) e)
theorem Inj.again (a : Inj f V ix n) {w : α} (h : V w) : ∃ p, 0 < p ∧ itW f p w = w := by
  have hc : ∀ i, ∃ j, j < n ∧ ix j = itW f i w := fun i => a.cov _ (a.vi h i)
  obtain ⟨i, j, h1, h2, h3⟩ := pigeon n (fun i => Classical.choose (hc i)) fun i _ => (Classical.choose_spec (hc i)).1
  have e1 := (Classical.choose_spec (hc i)).2
  have e2 := (Classical.choose_spec (hc j)).2
  have h3' : Classical.choose (hc i) = Classical.choose (hc j) := h3
  rw [h3', e2] at e1
  refine ⟨j - i, by omega, ?_⟩
  have : itW f i (itW f (j - i) w) = itW f i w := by
    rw [← itW_add, show j - i + i = j by omega, e1]
  exact a.injI (a.vi h (j - i)) h i this
theorem it_mul {w : α} {p : Nat} (hp : itW f p w = w) : ∀ m, itW f (p * m) w = w
  | 0 => rfl
  | m + 1 => by rw [Nat.mul_succ, itW_add, it_mul hp m, hp]
theorem Inj.symm (a : Inj f V ix n) {u v : α} (h : V u) (x : Go1 f u v) : Go1 f v u := by
  obtain ⟨i, rfl⟩ := x
  obtain ⟨p, hp, e⟩ := a.again h
  refine ⟨p * i - i, ?_⟩
  have : i ≤ p * i := Nat.le_mul_of_pos_left i hp
  rw [← itW_add, show i + (p * i - i) = p * i by omega, it_mul e]
def relE (f : α → α) (ix : Nat → α) (j k : Nat) : Prop := Go1 f (ix j) (ix k)
end

/-! ### walkers -/
section
variable {α : Type} {f g R : α → α} {seg : α → Nat} {V : α → Prop} {N : Nat} {wk : Nat → α}
/-- What the walkers along the segments are. -/
structure Segs (seg : α → Nat) (V : α → Prop) (wk : Nat → α) (N : Nat) : Prop where
  ok : ∀ k, k < N → V (wk k)
  sg : ∀ k, k < N → seg (wk k) = k
def ixW (R : α → α) (wk : Nat → α) (j : Nat) : α := if j % 2 = 0 then wk (j / 2) else R (wk (j / 2))
/-- A segment is met from a segment. -/
def meets (f : α → α) (seg : α → Nat) (wk : Nat → α) (t s : Nat) : Prop := ∃ i, seg (itW f i (wk t)) = s
end
end Am
/-! AmG2 -/
set_option linter.unusedVariables false
set_option linter.unusedSimpArgs false
set_option maxHeartbeats 4000000
set_option maxRecDepth 4000
namespace Am
open Go

/-- The walker that goes to a point in a direction. -/
def toW (x y dx dy : Int) : Wk := (x - dx, y - dy, dx, dy)
end Am
/-! AmG5 -/
set_option linter.unusedVariables false
set_option linter.unusedSimpArgs false
set_option maxHeartbeats 4000000
set_option maxRecDepth 4000
namespace Am
open Go

structure SqOk (W H : Int) (br : List Int) (p f : List Trip) : Prop where
  ok : okJ ((W, H, br), dpre (startB ((W, H, br), p, f)) br br.length, []) = true
  len : (dpre (startB ((W, H, br), p, f)) br br.length).length ≤ p.length
  st : startB ((W, H, br), dpre (startB ((W, H, br), p, f)) br br.length, []) = startB ((W, H, br), p, f)
  fin : fwdB p (startB ((W, H, br), p, f)) p.length = br
noncomputable def curveA (X : Pan) : Int × Int := if okP X then ((curveN X : Int), 0) else (0, 1)
end Am
/-! AmG6 -/
set_option linter.unusedVariables false
set_option linter.unusedSimpArgs false
set_option maxHeartbeats 4000000
set_option maxRecDepth 4000
namespace Am
open Go

theorem samP_refl (X : Pan) : samP X X = true := by simp [samP]
end Am
/-! AmS7 -/
set_option linter.unusedVariables false
set_option linter.unusedSimpArgs false
set_option maxHeartbeats 4000000
set_option maxRecDepth 4000
namespace Am
open Go

theorem c443 (h : Heap) (b m : Nat) (hs : Src h b m) (hm : m ≤ 10000000) : ACall Gam 443 [pt b 0] h fun r h' => ∃ P : Pan, P.2.2.length ≤ 200 ∧ Mod b (b + 1) h h' ∧ Vo h' h.length h'.length shPanel r P ∧ Src h' b (m + 1100) := by
  have hb : b < h.length := by
    obtain ⟨_, _, _, _, _, _, e, _⟩ := hs
    exact at_lt e
  refine ACall_intro g443 rfl ?_
  unfold fn443
  rw [awp_seq, awp_reg]
  generalize hK : seqQ Gam _ _ 0 = K
  simp (disch := omega)
  subst hK
  simp only [seqQ_zero]
  rw [awp_seq, awp_reg]
  generalize hK : seqQ Gam _ _ 0 = K
  simp (disch := omega)
  refine callW_of (c445s h b m 5 hs (by omega) (by omega)) ?_
  rintro _ h1 ⟨⟨W, H, br⟩, bb, ok, w5, h5, md1, rfl, hbb, lb1, lb2, hs1⟩
  have okw : 1 ≤ W ∧ W ≤ 8 := ok.w
  have okh : 1 ≤ H ∧ H ≤ 8 := ok.h
  have okb : ∀ x ∈ br, 0 ≤ x ∧ x ≤ 2 := ok.b
  have w64 : I64 W := by unfold I64; omega
  have h64 : I64 H := by unfold I64; omega
  have hbb : h1[bb]? = some ⟨ints br, true⟩ := hbb
  have br64 : ∀ x ∈ br, I64 x := fun x hx => by have := okb x hx; unfold I64; omega
  have o1 : Vo h1 h.length h1.length shInts (sl bb 0 br.length 1) br := Vo.of_ints (.inl rfl) (by rw [maxLen_eq]; have := ok_len ok; omega) br64 (.inr ⟨hbb, lb1, lb2⟩)
  have hbl := ok_len ok
  have L1 := md1.1
  have bbb : b < bb := by omega
  simp (disch := omega)
  subst hK
  simp only [seqQ_zero]
  rw [awp_seq]
  generalize hK : seqQ Gam _ _ = K
  have tail : ∀ (σ : Nat → Value) (h3 : Heap) (W H : Int) (br : List Int) (s : Value), σ 3 = .agg #[I W, I H, s] → σ 2 = .agg #[I 0, I 0, sl 0 0 0 0] → I64 W → I64 H → br.length ≤ 200 → Mod b (b + 1) h h3 → Vo h3 h.length h3.length shInts s br → Src h3 b (m + 1100) → K 0 σ h3 := by
    intro σ h3 W H br s q3 q2 w64 h64 hl md ov hs3
    obtain ⟨bb, zz, e, _⟩ := ov.ints
    subst hK
    simp only [seqQ_zero]
    subst e
    simp (disch := omega) [q3, q2, resOf, resAll, resOne, aField]
    exact ⟨W, H, br, hl, md, Vo.of_panel w64 h64 ov, hs3⟩
  clear hK
  rw [awp_seq, awp_reg]
  generalize hA : seqQ Gam _ _ 0 = A
  simp (disch := omega)
  refine callW_of (c7 h1 b _ 20 hs1 (by omega) (by unfold I64; omega)) ?_
  rintro _ h2 ⟨k, rfl, _, k2, md2, l2, hs2⟩
  have o2 := o1.mod md2 (by omega)
  simp (disch := omega)
  subst hA
  simp only [seqQ_zero]
  rw [awp_block]
  have tail' : ∀ (σ : Nat → Value) (h3 : Heap) (W H : Int) (br : List Int) (s : Value), σ 3 = .agg #[I W, I H, s] → σ 2 = .agg #[I 0, I 0, sl 0 0 0 0] → I64 W → I64 H → br.length ≤ 200 → Mod b (b + 1) h h3 → Vo h3 h.length h3.length shInts s br → Src h3 b (m + 1100) → blockQ 0 K 0 σ h3 := by
    intro σ h3 W H br s q3 q2 w64 h64 hl md ov hs3
    rw [blockQ_eq, if_neg (by omega)]
    exact tail σ h3 W H br s q3 q2 w64 h64 hl md ov hs3
  clear tail
  generalize blockQ 0 K = B1 at tail' ⊢
  by_cases e0 : k = 0
  · subst e0
    simp (disch := omega) [aBuildSlice]
    obtain ⟨h3, e3⟩ : ∃ h3, h3 = h2 ++ [⟨ints [0, 8, 9, -9223372036854775808], true⟩] := ⟨_, rfl⟩
    have g3 : Grows h2 h3 := ⟨_, e3⟩
    simp only [ints, List.map_cons, List.map_nil] at e3
    rw [← e3]
    refine callW_of (c4 h3 b _ h2.length [0, 8, 9, -9223372036854775808] (hs2.grow g3) (by omega) (by rw [e3]; simp [ints]) (by omega) (by simp) (by simp)) ?_
    rintro _ h4 ⟨x, hx', rfl, md4, l4, hs4⟩
    have x64 : I64 x := by simp at hx'; unfold I64; omega
    have L3 := g3.le
    simp (disch := omega)
    exact tail' _ h4 x H br _ (by simp) (by simp) x64 h64 (by omega) (((md1.trans md2).trans g3.mod).trans md4) (((o2.grow g3).mod md4 (by omega)).wide (Nat.le_refl _) (by omega)) (hs4.mono (by omega))
  by_cases e1 : k = 1
  · subst e1
    have hb2 : h2[bb]? = some ⟨ints br, true⟩ := by rw [md2.2 bb (at_lt hbb) (by omega)]; exact hbb
    have eb : aBuildSlice 1 1 h2 [(0, .agg #[I 0]), (1, I 0)] = some (sl h2.length 0 1 1, h2 ++ [⟨[I 0], true⟩]) := by simp [aBuildSlice]
    simp (disch := omega) [eb]
    obtain ⟨h3, e3⟩ : ∃ h3, h3 = h2 ++ [⟨[I 0], true⟩] := ⟨_, rfl⟩
    have g3 : Grows h2 h3 := ⟨_, e3⟩
    rw [← e3]
    have hb3 := g3.at hb2
    have hn3 : h3[h2.length]? = some ⟨[I 0], true⟩ := by rw [e3]; simp
    have l3 : h3.length = h2.length + 1 := by rw [e3]; simp
    have hbl2 : bb < h2.length := at_lt hb2
    have ea : aAppend 1 h3 (sl h2.length 0 1 1) (sl bb 0 br.length 1) = some (sl h3.length 0 (br.length + 1) 1, h3.set bb ⟨[], false⟩ ++ [⟨ints (br ++ [0]), true⟩]) := by
      have hnew : newCells 1 h3 (sl h2.length 0 1 1) = some [I 0] := by
        simp [newCells]
        rw [cellsAt_of hn3 (by simp)]; simp
      have hold : cellsAt h3 bb 0 (br.length * 1) = some (ints br) := by rw [Nat.mul_one]; exact cellsAt_all hb3 (by simp [ints])
      have hbz : ¬ bb = 0 := by omega
      unfold aAppend
      rw [hnew]
      simp only [hb3, hold]
      rw [if_neg (by omega), if_neg (by simp), if_neg (by simp [maxSize]; omega), if_neg hbz, if_pos (by simp)]
      simp [ints]
    obtain ⟨h4, e4⟩ : ∃ h4, h4 = h3.set bb ⟨[], false⟩ ++ [⟨ints (br ++ [0]), true⟩] := ⟨_, rfl⟩
    rw [← e4] at ea
    have l4 : h4.length = h3.length + 1 := by rw [e4]; simp
    have ho : ∀ c, c < h3.length → c ≠ bb → h4[c]? = h3[c]? := fun c hc hne => by
      rw [e4, List.getElem?_append_left (by simpa using hc)]; exact set_other hne
    have md3 := (md1.trans md2).trans g3.mod
    have md4 : Mod b (b + 1) h h4 := ⟨by have := md3.1; omega, fun c hc hn => by
      rw [ho c (by have := md3.1; omega) (by omega)]
      exact md3.2 c hc hn⟩
    have hs4 : Src h4 b (m + 1100) := ((hs2.grow g3).mono (by omega)).mod (lo := bb) (hi := bb + 1) ⟨by omega, fun c hc hn => ho c hc (by omega)⟩ (by omega)
    have o4 : Vo h4 h.length h4.length shInts (sl h3.length 0 (br ++ [0]).length 1) (br ++ [0]) := Vo.of_ints (.inl rfl) (by rw [maxLen_eq]; simp; omega) (fun x hx => by
      rcases List.mem_append.1 hx with hx | hx
      · exact br64 x hx
      · simp at hx; subst hx; unfold I64; omega) (.inr ⟨by rw [e4, List.getElem?_append_right (by simp)]; simp, by have := md3.1; omega, by omega⟩)
    have el : (br ++ [0]).length = br.length + 1 := by simp
    rw [el] at o4
    simp (disch := omega) [ea]
    exact tail' _ h4 W H (br ++ [0]) _ (by simp) (by simp) w64 h64 (by omega) md4 o4 hs4
  by_cases e2 : k = 2
  · subst e2
    simp (disch := omega)
    refine fork_dec (fun hq => ?_) (fun hq => ?_)
    · have hq : 0 < br.length := by omega
      have hne : br ≠ [] := by intro e; rw [e] at hq; simp at hq
      have hb2 : h2[bb]? = some ⟨ints br, true⟩ := by rw [md2.2 bb (at_lt hbb) (by omega)]; exact hbb
      simp (disch := omega)
      refine callW_of (c7 h2 b _ br.length hs2 (by omega) (by unfold I64; omega)) ?_
      rintro _ h3 ⟨x, rfl, x1, x2, md3, l3, hs3⟩
      have hx' : x < br.length := by
        by_cases q1 : br.length = 1
        · have := x1 (by omega); omega
        · have := x2 (by omega); omega
      have hb3 : h3[bb]? = some ⟨ints br, true⟩ := by rw [md3.2 bb (at_lt hb2) (by omega)]; exact hb2
      simp (disch := omega) [aBuildSlice]
      obtain ⟨h4, e4⟩ : ∃ h4, h4 = h3 ++ [⟨ints [-1, 2, 3], true⟩] := ⟨_, rfl⟩
      have g4 : Grows h3 h4 := ⟨_, e4⟩
      simp only [ints, List.map_cons, List.map_nil] at e4
      rw [← e4]
      refine callW_of (c4 h4 b _ h3.length [-1, 2, 3] (hs3.grow g4) (by omega) (by rw [e4]; simp [ints]) (by omega) (by simp) (by simp)) ?_
      rintro _ h5 ⟨y, hy, rfl, md5, l5, hs5⟩
      have y64 : I64 y := by simp at hy; unfold I64; omega
      have L4 := g4.le
      have hb5 : h5[bb]? = some ⟨ints br, true⟩ := by rw [md5.2 bb (at_lt (g4.at hb3)) (by omega)]; exact g4.at hb3
      have hst := store_int (v := y) hb5 hx'
      obtain ⟨h6, e6⟩ : ∃ h6, h6 = h5.set bb ⟨ints (br.set x y), true⟩ := ⟨_, rfl⟩
      rw [← e6] at hst
      have l6 : h6.length = h5.length := by rw [e6]; simp
      have ho : ∀ c, c ≠ bb → h6[c]? = h5[c]? := fun c hc => by rw [e6]; exact set_other hc
      have md5' := (((md1.trans md2).trans md3).trans g4.mod).trans md5
      have md6 : Mod b (b + 1) h h6 := ⟨by have := md5'.1; omega, fun c hc hn => by rw [ho c (by omega)]; exact md5'.2 c hc hn⟩
      have hs6 : Src h6 b (m + 1100) := (hs5.mono (by omega)).mod (lo := bb) (hi := bb + 1) ⟨by omega, fun c hc hn => ho c (by omega)⟩ (by omega)
      have o6 : Vo h6 h.length h6.length shInts (sl bb 0 (br.set x y).length 1) (br.set x y) := Vo.of_ints (.inl rfl) (by rw [maxLen_eq]; simp; omega) (fun z hz => by
        rcases List.mem_or_eq_of_mem_set hz with hz | hz
        · exact br64 z hz
        · rw [hz]; exact y64) (.inr ⟨by rw [e6]; simp [at_lt hb5], lb1, by have := at_lt hb5; omega⟩)
      have el : (br.set x y).length = br.length := by simp
      rw [el] at o6
      have hxl : (x : Int) < br.length := by omega
      simp (disch := omega) [hx', hxl, hst]
      exact tail' _ h6 W H (br.set x y) _ (by simp) (by simp) w64 h64 (by rw [el]; omega) md6 o6 hs6
    · simp (disch := omega)
      exact tail' _ h2 W H br _ (by simp) (by simp) w64 h64 (by omega) (md1.trans md2) (o2.wide (Nat.le_refl _) (by omega)) (hs2.mono (by omega))
  by_cases e3 : k = 3
  · subst e3
    simp (disch := omega)
    refine callW_of (c450 h2 8 8 (by omega) (by omega) (by omega)) ?_
    rintro _ h3 ⟨g3, o3⟩
    have L3 := g3.le
    obtain ⟨s', rfl, w64', h64', o3⟩ := o3.panel
    have ol : (List.replicate (inner 8 8).toNat (0 : Int)).length ≤ 200 := by
      have := ok_len (newP_ok (W := 8) (H := 8) (by omega) (by omega))
      omega
    obtain ⟨b3, z3, e3, _⟩ := o3.ints
    subst e3
    simp (disch := omega)
    exact tail' _ h3 8 8 _ _ (by simp) (by simp) w64' h64' ol ((md1.trans md2).trans g3.mod) (o3.wide (by omega) (Nat.le_refl _)) ((hs2.grow g3).mono (by omega))
  have k1 : ((k : Int) = 1) = False := eq_false (by omega)
  have k2' : ((k : Int) = 2) = False := eq_false (by omega)
  have k3 : ((k : Int) = 3) = False := eq_false (by omega)
  simp (disch := omega) [e0, k1, k2', k3]
  exact tail' _ h2 W H br _ (by simp) (by simp) w64 h64 (by omega) (md1.trans md2) (o2.wide (Nat.le_refl _) (by omega)) (hs2.mono (by omega))
end Am
/-! AmS8 -/
set_option linter.unusedVariables false
set_option linter.unusedSimpArgs false
set_option maxHeartbeats 4000000
set_option maxRecDepth 4000
namespace Am
open Go

theorem text_cells {h : Heap} {b o n z : Nat} {l : List UInt8} (hn : n = l.length) (hc : n = 0 ∨ cellsAt h b o n = some (bytesV l)) : aConv 21 (sl b o n z) h = some (S l, h) := by
  simp only [aConv]
  by_cases h0 : n = 0
  · subst h0
    have : l = [] := List.length_eq_zero_iff.1 hn.symm
    subst this; simp
  · simp [h0, hc.resolve_left h0, asInts_bytes]
theorem bytesV_len (l : List UInt8) : (bytesV l).length = l.length := by simp [bytesV]
theorem bytesV_take (l : List UInt8) (n : Nat) : (bytesV l).take n = bytesV (l.take n) := by simp [bytesV, List.map_take]
theorem bytes_part {h : Heap} {b n : Nat} {l : List UInt8} (hb : h[b]? = some ⟨bytesV l, true⟩) (hn : n ≤ l.length) : cellsAt h b 0 n = some (bytesV (l.take n)) := by
  rw [cellsAt_of hb (by simp only; rw [bytesV_len]; omega)]
  simp only [List.drop_zero]
  rw [bytesV_take]
/-- Bytes with their checksum; the bytes may be the head of a longer block. -/
theorem c568p (l m : List UInt8) (hl : l.length ≤ 1048000) (h : Heap) (bb : Nat) (hp : 0 < bb) (hb : h[bb]? = some ⟨bytesV (l ++ m), true⟩) :
    ACall Gam 568 [sl bb 0 l.length 1] h fun r h' => r = S (ended l) ∧ Mod bb (bb + 1) h h' := by
  have hbd := checksum_bd l
  have hpart := bytes_part (n := l.length) hb (by simp)
  rw [List.take_left'] at hpart
  rotate_left
  · rfl
  refine ACall_intro g568 rfl ?_
  unfold fn568
  have e1 := text_cells (h := h) (b := bb) (o := 0) (z := 1) (l := l) rfl (.inr hpart)
  simp (disch := omega) [e1]
  refine callW_of (c573 l (by omega) h) ?_
  rintro v' h' ⟨rfl, rfl⟩
  try refine ⟨fun e => (by cases e), ?_⟩
  simp (disch := omega) [wrap64, tdiv_pos, tmod_pos]
  rw [two_bytes]
  simp only [bindW_some]
  obtain ⟨c, hc⟩ : ∃ c, c = [byteI (checksum l / 256), byteI (checksum l % 256)] := ⟨_, rfl⟩
  rw [← hc]
  have hcl : c.length = 2 := by rw [hc]; rfl
  obtain ⟨h1, eh1⟩ : ∃ h1, h1 = h' ++ [⟨bytesV c, true⟩] := ⟨_, rfl⟩
  rw [← eh1]
  have hbl := at_lt hb
  have hb1 : h1[bb]? = some ⟨bytesV (l ++ m), true⟩ := by rw [eh1]; exact push_at hb
  have hn1 : h1[h'.length]? = some ⟨bytesV c, true⟩ := by rw [eh1]; simp
  have l1 : h1.length = h'.length + 1 := by rw [eh1]; simp
  have hpart1 := bytes_part (n := l.length) hb1 (by simp)
  rw [List.take_left'] at hpart1
  rotate_left
  · rfl
  have ea : aAppend 1 h1 (sl h'.length 0 2 1) (sl bb 0 l.length 1) = some (sl h1.length 0 (l.length + 2) 1, h1.set bb ⟨[], false⟩ ++ [⟨bytesV (l ++ c), true⟩]) := by
    have hnew : newCells 1 h1 (sl h'.length 0 2 1) = some (bytesV c) := by
      simp [newCells]
      rw [cellsAt_of hn1 (by simp only; rw [bytesV_len]; omega)]
      simp only [List.drop_zero]
      rw [List.take_of_length_le (by rw [bytesV_len]; omega)]
    have hz : (bytesV c).length = 2 := by rw [bytesV_len, hcl]
    unfold aAppend
    rw [hnew]
    simp only [hb1]
    rw [if_neg (by omega), if_neg (by intro e; rw [e] at hz; simp at hz), if_neg (by simp [maxSize]; omega), if_neg (by omega), if_pos (by simp), Nat.mul_one, hpart1]
    simp [hz, bytesV, hcl]
  obtain ⟨h2, eh2⟩ : ∃ h2, h2 = h1.set bb ⟨[], false⟩ ++ [⟨bytesV (l ++ c), true⟩] := ⟨_, rfl⟩
  rw [← eh2] at ea
  have hn2 : h2[h1.length]? = some ⟨bytesV (l ++ c), true⟩ := by rw [eh2, List.getElem?_append_right (by simp)]; simp
  have e2 := text_cells (h := h2) (b := h1.length) (o := 0) (n := l.length + 2) (z := 1) (l := l ++ c) (by simp [hcl]) (.inr (by
    have := bytes_part (n := l.length + 2) hn2 (by simp [hcl])
    rw [List.take_of_length_le (by simp [hcl])] at this; exact this))
  simp (disch := omega) [ea, e2]
  refine ⟨by rw [hc]; rfl, ?_⟩
  rw [eh2]
  refine ⟨by simp; omega, fun k hk hn => ?_⟩
  rw [List.getElem?_append_left (by simp; omega), set_other (by omega), eh1, List.getElem?_append_left hk]
theorem set_byte {l : List UInt8} {i x : Nat} (hi : i < l.length) (hx : x < 256) : (bytesV l).set i (U x) = bytesV (l.set i (UInt8.ofNat x)) := by
  unfold bytesV
  rw [List.map_set]
  congr 1
  simp
  omega
theorem store_byte {h : Heap} {b i x : Nat} {l : List UInt8} (hb : h[b]? = some ⟨bytesV l, true⟩) (hi : i < l.length) (hx : x < 256) : storeAt h b i [U x] = some (h.set b ⟨bytesV (l.set i (UInt8.ofNat x)), true⟩) := by
  have := store_one (v := U x) (o := i) hb (by show i < (bytesV l).length; rw [bytesV_len]; exact hi)
  rw [this, ← set_byte hi hx]
theorem c565 (h : Heap) (b m : Nat) (hs : Src h b m) (hm : m ≤ 10000000) : ACall Gam 565 [pt b 0] h fun r h' => ∃ s : List UInt8, r = S s ∧ s.length ≤ 200 ∧ Mod b (b + 1) h h' ∧ Src h' b (m + 1100) := by
  have hb : b < h.length := by
    obtain ⟨_, _, _, _, _, _, e, _⟩ := hs
    exact at_lt e
  refine ACall_intro g565 rfl ?_
  unfold fn565
  rw [awp_seq, awp_reg]
  generalize hK : seqQ Gam _ _ 0 = K
  simp (disch := omega)
  subst hK
  simp only [seqQ_zero]
  rw [awp_seq, awp_reg]
  generalize hK : seqQ Gam _ _ 0 = K
  simp (disch := omega)
  refine callW_of (c445s h b m 4 hs (by omega) (by omega)) ?_
  rintro _ h1 ⟨⟨W, H, br⟩, bb, ok, w5, h5, md1, rfl, hbb, lb1, lb2, hs1⟩
  have okw : 1 ≤ W ∧ W ≤ 8 := ok.w
  have okh : 1 ≤ H ∧ H ≤ 8 := ok.h
  have okb : ∀ x ∈ br, 0 ≤ x ∧ x ≤ 2 := ok.b
  have hbb : h1[bb]? = some ⟨ints br, true⟩ := hbb
  have vb : Vr h1 shInts (sl bb 0 br.length 1) br := Vr.of_ints (.inl rfl) (by rw [maxLen_eq]; have := ok_len ok; omega) (fun x hx => by have := okb x hx; unfold I64; omega) (.inr (cellsAt_all hbb (by simp [ints])))
  have L1 := md1.1
  try refine ⟨fun e => (by cases e), ?_⟩
  have st := store_box (h := h1) (cs := [I 0, I 0, sl 0 0 0 0]) (xs := [I W, I H, sl bb 0 br.length 1]) rfl
  simp (disch := omega) [st]
  obtain ⟨h2, e2⟩ : ∃ h2, h2 = h1 ++ [⟨[I W, I H, sl bb 0 br.length 1], true⟩] := ⟨_, rfl⟩
  rw [← e2]
  have g2 : Grows h1 h2 := ⟨_, e2⟩
  have pp : PtP h2 (pt h1.length 0) (W, H, br) := PtP.at (r := true) (by rw [e2]; simp) (vb.grow g2) (by unfold I64; omega) (by unfold I64; omega)
  have hp1 : 0 < h1.length := by omega
  have L2 := g2.le
  subst hK
  simp only [seqQ_zero]
  rw [awp_seq, awp_reg]
  generalize hK : seqQ Gam _ _ 0 = K
  simp (disch := omega)
  refine callW_of (c571 _ _ h2 (by omega) pp ok) ?_
  rintro _ h3 ⟨rfl, g3⟩
  try refine ⟨fun e => (by first | exact g3 | cases e), ?_⟩
  have hlen := packP_len ok
  obtain ⟨l, hl⟩ : ∃ l, l = packP (W, H, br) := ⟨_, rfl⟩
  rw [← hl] at hlen ⊢
  have L3 := g3.le
  have ec := aConv_str (h := h3) (l := l) (by simp [maxSize]; omega)
  simp (disch := omega) [ec]
  obtain ⟨h4, e4⟩ : ∃ h4, h4 = h3 ++ [⟨bytesV l, true⟩] := ⟨_, rfl⟩
  have e4' : h3 ++ [⟨List.map (fun b => U ↑b.toNat) l, true⟩] = h4 := by rw [e4]; rfl
  rw [e4']
  have g4 : Grows h3 h4 := ⟨_, e4⟩
  obtain ⟨nb, hnb⟩ : ∃ nb, nb = h3.length := ⟨_, rfl⟩
  have hb4 : h4[nb]? = some ⟨bytesV l, true⟩ := by rw [e4, hnb]; simp
  rw [← hnb]
  have hbn : b < nb ∧ h.length ≤ nb := by omega
  have md4 : Mod b (b + 1) h h4 := md1.trans ((g2.trans g3).trans g4).mod
  have hs4 := hs1.grow ((g2.trans g3).trans g4)
  subst hK
  simp only [seqQ_zero]
  rw [awp_seq, awp_reg]
  generalize hK : seqQ Gam _ _ 0 = K
  simp (disch := omega)
  refine callW_of (c7 h4 b _ l.length hs4 (by omega) (by unfold I64; omega)) ?_
  rintro _ h5 ⟨at_, rfl, _, at2, md5, l5, hs5⟩
  have hat : at_ < l.length := by have := at2 (by omega); omega
  have hb5 : h5[nb]? = some ⟨bytesV l, true⟩ := by rw [md5.2 nb (at_lt hb4) (by omega)]; exact hb4
  simp (disch := omega)
  subst hK
  simp only [seqQ_zero]
  rw [awp_seq]
  generalize hK : seqQ Gam _ _ = K
  have tail : ∀ (σ : Nat → Value) (h' : Heap) (l' : List UInt8), σ 4 = sl nb 0 l'.length 1 → h'[nb]? = some ⟨bytesV l', true⟩ → l'.length ≤ 200 → Mod b (b + 1) h h' → Src h' b (m + 1100) → K 0 σ h' := by
    intro σ h' l' q4 hb' hl' md hs'
    subst hK
    simp only [seqQ_zero]
    have e := text_cells (h := h') (b := nb) (o := 0) (n := l'.length) (z := 1) (l := l') rfl (.inr (by
      have := bytes_part (n := l'.length) hb' (Nat.le_refl _)
      rw [List.take_length] at this; exact this))
    simp (disch := omega) [q4, e]
    exact ⟨hl', md, hs'⟩
  have fin : ∀ (σ : Nat → Value) (h' : Heap) (l' : List UInt8), σ 2 = S l' → l'.length ≤ 200 → Mod b (b + 1) h h' → Src h' b (m + 1100) → K 1 σ h' := by
    intro σ h' l' q2 hl' md hs'
    subst hK
    simp (disch := omega) [q2]
    exact ⟨hl', md, hs'⟩
  clear hK
  have md5' := md4.trans md5
  rw [awp_seq, awp_reg]
  generalize hA : seqQ Gam _ _ 0 = A
  simp (disch := omega)
  refine callW_of (c7 h5 b _ 8 hs5 (by omega) (by unfold I64; omega)) ?_
  rintro _ h6 ⟨k, rfl, _, k2, md6, l6, hs6⟩
  have hb6 : h6[nb]? = some ⟨bytesV l, true⟩ := by rw [md6.2 nb (at_lt hb5) (by omega)]; exact hb5
  have md6' := md5'.trans md6
  simp (disch := omega)
  subst hA
  simp only [seqQ_zero]
  rw [awp_block]
  have tail' : ∀ (σ : Nat → Value) (h' : Heap) (l' : List UInt8), σ 4 = sl nb 0 l'.length 1 → h'[nb]? = some ⟨bytesV l', true⟩ → l'.length ≤ 200 → Mod b (b + 1) h h' → Src h' b (m + 1100) → blockQ 0 K 0 σ h' := by
    intro σ h' l' q1 q2 q3 q4 q5
    rw [blockQ_eq, if_neg (by omega)]
    exact tail σ h' l' q1 q2 q3 q4 q5
  have fin' : ∀ (σ : Nat → Value) (h' : Heap) (l' : List UInt8), σ 2 = S l' → l'.length ≤ 200 → Mod b (b + 1) h h' → Src h' b (m + 1100) → blockQ 0 K 1 σ h' := by
    intro σ h' l' q1 q2 q3 q4
    rw [blockQ_eq, if_neg (by omega)]
    exact fin σ h' l' q1 q2 q3 q4
  clear tail fin
  generalize blockQ 0 K = B1 at tail' fin' ⊢
  have putb : ∀ {h' : Heap} {i x : Nat} {l' : List UInt8}, h'[nb]? = some ⟨bytesV l', true⟩ → Mod b (b + 1) h h' → Src h' b (m + 1100) → Mod b (b + 1) h (h'.set nb ⟨bytesV (l'.set i (UInt8.ofNat x)), true⟩) ∧ Src (h'.set nb ⟨bytesV (l'.set i (UInt8.ofNat x)), true⟩) b (m + 1100) ∧ (h'.set nb ⟨bytesV (l'.set i (UInt8.ofNat x)), true⟩)[nb]? = some ⟨bytesV (l'.set i (UInt8.ofNat x)), true⟩ := by
    intro h' i x l' hb' md hs'
    refine ⟨⟨by have := md.1; simp; omega, fun c hc hn => by rw [set_other (by omega)]; exact md.2 c hc hn⟩, hs'.mod (lo := nb) (hi := nb + 1) ⟨by simp, fun c hc hn => set_other (by omega)⟩ (by omega), by simp [at_lt hb']⟩
  by_cases e0 : k = 0
  · subst e0
    simp (disch := omega)
    refine callW_of (c7 h6 b _ 256 hs6 (by omega) (by unfold I64; omega)) ?_
    rintro _ h7 ⟨x, rfl, _, x2, md7, l7, hs7⟩
    have hx : x < 256 := by have := x2 (by omega); omega
    have hb7 : h7[nb]? = some ⟨bytesV l, true⟩ := by rw [md7.2 nb (at_lt hb6) (by omega)]; exact hb6
    have hst := store_byte hb7 hat hx
    have hat' : (at_ : Int) < l.length := by omega
    obtain ⟨p1, p2, p3⟩ := putb (i := at_) (x := x) hb7 (md6'.trans md7) (hs7.mono (by omega))
    simp (disch := omega) [hat, hat', wrap8, hst]
    exact tail' _ _ (l.set at_ (UInt8.ofNat x)) (by simp) p3 (by simp; omega) p1 p2
  by_cases e1 : k = 1
  · subst e1
    have es : aSlice 3 h6 (sl nb 0 l.length 1) none (some (I at_)) none = some (sl nb 0 at_ 1, h6) := by
      have : at_ ≤ l.length := by omega
      simp [aSlice, bound, this]
    have e := text_cells (h := h6) (b := nb) (o := 0) (n := at_) (z := 1) (l := l.take at_) (by simp; omega) (.inr (bytes_part hb6 (by omega)))
    simp (disch := omega) [es, e]
    exact fin' _ h6 (l.take at_) (by simp) (by simp; omega) md6' (hs6.mono (by omega))
  by_cases e2 : k = 2
  · subst e2
    have eb : aBuildSlice 1 1 h6 [(0, .agg #[U 0]), (1, U 0)] = some (sl h6.length 0 1 1, h6 ++ [⟨bytesV [0], true⟩]) := by simp [aBuildSlice, bytesV]
    simp (disch := omega) [eb]
    obtain ⟨h7, e7⟩ : ∃ h7, h7 = h6 ++ [⟨bytesV [0], true⟩] := ⟨_, rfl⟩
    rw [← e7]
    have g7 : Grows h6 h7 := ⟨_, e7⟩
    have hb7 := g7.at hb6
    have hn7 : h7[h6.length]? = some ⟨bytesV [0], true⟩ := by rw [e7]; simp
    have ea : aAppend 1 h7 (sl h6.length 0 1 1) (sl nb 0 l.length 1) = some (sl h7.length 0 (l.length + 1) 1, h7.set nb ⟨[], false⟩ ++ [⟨bytesV (l ++ [0]), true⟩]) := by
      have hnew : newCells 1 h7 (sl h6.length 0 1 1) = some (bytesV [0]) := by
        simp [newCells]
        rw [cellsAt_of hn7 (by simp [bytesV])]
        simp [bytesV]
      have hold := bytes_part (n := l.length) hb7 (Nat.le_refl _)
      rw [List.take_length] at hold
      unfold aAppend
      rw [hnew]
      simp only [hb7]
      rw [if_neg (by omega), if_neg (by simp [bytesV]), if_neg (by simp [maxSize, bytesV]; omega), if_neg (by omega), if_pos (by simp), Nat.mul_one, hold]
      simp [bytesV]
    obtain ⟨h8, e8⟩ : ∃ h8, h8 = h7.set nb ⟨[], false⟩ ++ [⟨bytesV (l ++ [0]), true⟩] := ⟨_, rfl⟩
    rw [← e8] at ea
    have hn8 : h8[h7.length]? = some ⟨bytesV (l ++ [0]), true⟩ := by rw [e8, List.getElem?_append_right (by simp)]; simp
    have e := text_cells (h := h8) (b := h7.length) (o := 0) (n := l.length + 1) (z := 1) (l := l ++ [0]) (by simp) (.inr (by
      have := bytes_part (n := l.length + 1) hn8 (by simp)
      rw [List.take_of_length_le (by simp)] at this; exact this))
    have ho : ∀ c, c < h6.length → c ≠ nb → h8[c]? = h6[c]? := fun c hc hne => by
      rw [e8, List.getElem?_append_left (by rw [e7]; simp; omega), set_other hne, e7, List.getElem?_append_left hc]
    have l8 : h6.length ≤ h8.length := by rw [e8, e7]; simp; omega
    have md8 : Mod b (b + 1) h h8 := ⟨by have := md6'.1; omega, fun c hc hn => by rw [ho c (by have := md6'.1; omega) (by omega)]; exact md6'.2 c hc hn⟩
    have hs8 : Src h8 b (m + 1100) := (hs6.mono (by omega)).mod (lo := nb) (hi := nb + 1) ⟨l8, fun c hc hn => ho c hc (by omega)⟩ (by omega)
    simp (disch := omega) [ea, e]
    exact fin' _ h8 (l ++ [0]) (by simp) (by simp; omega) md8 hs8
  by_cases e3 : k = 3
  · subst e3
    have i1 : (l.length : Int) - 2 = ((l.length - 2 : Nat) : Int) := by omega
    obtain ⟨n2, hn2⟩ : ∃ n2, n2 = l.length - 2 := ⟨_, rfl⟩
    rw [← hn2] at i1
    simp (disch := omega) [i1, wrap64]
    refine callW_of (c7 h6 b _ n2 hs6 (by omega) (by unfold I64; omega)) ?_
    rintro _ h7 ⟨y, rfl, _, y2, md7, l7, hs7⟩
    have hy : y < l.length := by have := y2 (by omega); omega
    have hb7 : h7[nb]? = some ⟨bytesV l, true⟩ := by rw [md7.2 nb (at_lt hb6) (by omega)]; exact hb6
    simp (disch := omega)
    refine callW_of (c7 h7 b _ 256 hs7 (by omega) (by unfold I64; omega)) ?_
    rintro _ h8 ⟨x, rfl, _, x2, md8, l8, hs8⟩
    have hx : x < 256 := by have := x2 (by omega); omega
    have hb8 : h8[nb]? = some ⟨bytesV l, true⟩ := by rw [md8.2 nb (at_lt hb7) (by omega)]; exact hb7
    have hst := store_byte hb8 hy hx
    have hy' : (y : Int) < l.length := by omega
    obtain ⟨p1, p2, p3⟩ := putb (i := y) (x := x) hb8 ((md6'.trans md7).trans md8) (hs8.mono (by omega))
    obtain ⟨h9, e9⟩ : ∃ h9, h9 = h8.set nb ⟨bytesV (l.set y (UInt8.ofNat x)), true⟩ := ⟨_, rfl⟩
    rw [← e9] at p1 p2 p3 hst
    obtain ⟨l', el'⟩ : ∃ l', l' = l.set y (UInt8.ofNat x) := ⟨_, rfl⟩
    have hll : l'.length = l.length := by rw [el']; simp
    rw [← el'] at p3
    have es : aSlice 3 h9 (sl nb 0 l.length 1) none (some (I n2)) none = some (sl nb 0 n2 1, h9) := by
      have : n2 ≤ l.length := by omega
      simp [aSlice, bound, this]
    have htk : (l'.take n2).length = n2 := by rw [List.length_take]; omega
    have cc := c568p (l'.take n2) (l'.drop n2) (by omega) h9 nb (by omega) (by rw [List.take_append_drop]; exact p3)
    rw [htk] at cc
    simp (disch := omega) [hy, hy', wrap8, hst, i1, wrap64, es]
    refine callW_of cc ?_
    rintro _ h10 ⟨rfl, md10⟩
    try refine ⟨fun e => (by cases e), ?_⟩
    have mdF : Mod b (b + 1) h h10 := ⟨by have := p1.1; have := md10.1; omega, fun c hc hn => by rw [md10.2 c (by have := p1.1; omega) (by omega)]; exact p1.2 c hc hn⟩
    have hsF := p2.mod md10 (by omega)
    try simp (disch := omega)
    exact fin' _ h10 (ended (l'.take n2)) (by simp) (by rw [ended_len]; omega) mdF hsF
  have n0 : ((k : Int) = 0) = False := eq_false (by omega)
  have n1 : ((k : Int) = 1) = False := eq_false (by omega)
  have n2' : ((k : Int) = 2) = False := eq_false (by omega)
  have n3 : ((k : Int) = 3) = False := eq_false (by omega)
  simp (disch := omega) [e0, n0, n1, n2', n3]
  exact tail' _ h6 l (by simp) hb6 (by omega) md6' (hs6.mono (by omega))
end Am

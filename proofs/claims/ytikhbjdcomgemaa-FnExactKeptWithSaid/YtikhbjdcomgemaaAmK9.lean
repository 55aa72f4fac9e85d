/- Contracts: AmY21, AmY22, AmY23, AmY24, AmY25, AmY26, AmY27, AmY28, AmY29. -/
import Derived.Test.YtikhbjdcomgemaaAmK8
import Derived.Test.YtikhbjdcomgemaaAmK5
import Derived.Test.YtikhbjdcomgemaaAmK4
set_option linter.unusedVariables false
set_option linter.unusedSimpArgs false
set_option maxHeartbeats 4000000
set_option maxRecDepth 4000
namespace Am
open Go

/-- Short names, no more breaks than panels have. -/
def SmallK (X : Lib) : Prop := ∀ y ∈ X, y.1.length ≤ 12 ∧ y.2.2.2.length ≤ 128
end Am
/-! AmY22 -/
set_option linter.unusedVariables false
set_option linter.unusedSimpArgs false
set_option maxHeartbeats 4000000
set_option maxRecDepth 4000
namespace Am
open Go

theorem EntO.vr {h : Heap} {r : Row} (e : EntO h r) : Vr h shPanel (.agg #[I r.1.2.1, I r.1.2.2.1, rowS r]) r.1.2 := by
  obtain ⟨lo, hi, vo, _⟩ := e.vo
  exact Vr.of_panel e.w e.h vo.vr
/-- Rows that are of a list, or of the first of another. -/
def FromTwo (L L0 LB : List Row) (k : Nat) : Prop := ∀ q ∈ L, q ∈ L0 ∨ ∃ j, j < k ∧ ∃ hj : j < LB.length, q = LB[j]
/-- The rows that are put in are there. -/
def RowsThere (h : Heap) (bw : Nat) (LB : List Row) : Prop := (LB = [] ∨ h[bw]? = some ⟨rowsC LB, true⟩) ∧ ∀ r ∈ LB, EntO h r
theorem RowsThere.grow {h h' : Heap} {bw : Nat} {LB : List Row} (x : RowsThere h bw LB) (g : Grows h h') : RowsThere h' bw LB :=
  ⟨x.1.imp id fun q => g.at q, fun r hr => (x.2 r hr).frame fun c hc => g.look ((x.2 r hr).lt c hc)⟩
/-- A list's own block lies outside a range. -/
def Outside (v : Value) (lo hi : Nat) : Prop := ∀ c m, v = sl c 0 m 4 → c = 0 ∨ c < lo ∨ hi ≤ c
end Am
/-! AmY23 -/
set_option linter.unusedVariables false
set_option linter.unusedSimpArgs false
set_option maxHeartbeats 4000000
set_option maxRecDepth 4000
namespace Am
open Go

end Am
/-! AmY24 -/
set_option linter.unusedVariables false
set_option linter.unusedSimpArgs false
set_option maxHeartbeats 4000000
set_option maxRecDepth 4000
namespace Am
open Go

def spRes (s : List UInt8) : Pan × Bool := if (spW s).length = 2 ∧ (spV s).length = 2 then (spP s, spOk s) else ((0, 0, []), false)
end Am
/-! AmY25 -/
set_option linter.unusedVariables false
set_option linter.unusedSimpArgs false
set_option maxHeartbeats 4000000
set_option maxRecDepth 4000
namespace Am
open Go

end Am
/-! AmY26 -/
set_option linter.unusedVariables false
set_option linter.unusedSimpArgs false
set_option maxHeartbeats 4000000
set_option maxRecDepth 4000
namespace Am
open Go

/-- Rows in own memory, one behind the other. -/
structure KR (h0 h : Heap) (L : List Row) : Prop where
  el : ∀ r ∈ L, EntO h r
  nd : (L.map rowB).flatten.Nodup
  rg : ∀ r ∈ L, ∀ c ∈ rowB r, h0.length ≤ c
theorem KR.nil {h0 h : Heap} : KR h0 h [] := ⟨by simp, by simp, by simp⟩
theorem KR.grow {h0 h h' : Heap} {L : List Row} (k : KR h0 h L) (g : Grows h h') : KR h0 h' L :=
  ⟨fun r hr => (k.el r hr).frame fun c hc => g.look ((k.el r hr).lt c hc), k.nd, k.rg⟩
def stdX : List (List UInt8 × Pan) := [([98, 114, 105, 99, 107], (2, 1, [0])), ([99, 97, 114, 112, 101, 116], (3, 3, [0, 0, 0, 0, 0, 0, 0, 0, 0, 0, 0, 0])), ([99, 104, 97, 105, 110], (4, 1, [0, 0, 0])), ([100, 105, 97, 109, 111, 110, 100], (1, 1, [])), ([114, 105, 110, 103, 115], (2, 2, [0, 0, 0, 0])), ([116, 119, 111], (2, 1, [1]))]
noncomputable def stdK : Lib := stdX.map fun k => (k.1, canonP k.2)
end Am
/-! AmY27 -/
set_option linter.unusedVariables false
set_option linter.unusedSimpArgs false
set_option maxHeartbeats 4000000
set_option maxRecDepth 4000
namespace Am
open Go

end Am
/-! AmY28 -/
set_option linter.unusedVariables false
set_option linter.unusedSimpArgs false
set_option maxHeartbeats 4000000
set_option maxRecDepth 4000
namespace Am
open Go

theorem c459 (h : Heap) (x y dx dy : Int) (bx : -100 ≤ x ∧ x ≤ 100) (bY : -100 ≤ y ∧ y ≤ 100) (bd : -100 ≤ dx ∧ dx ≤ 100) (be : -100 ≤ dy ∧ dy ≤ 100) : ACall Gam 459 [.agg #[I x, I y, I dx, I dy]] h fun r h' => r = .agg #[I (x + dx), I (y + dy)] ∧ h' = h := by
  refine ACall_intro g459 rfl ?_
  unfold fn459
  simp (disch := omega) [wrap64, resOf_box, aField]
theorem c58 (h : Heap) (x y dx dy : Int) (bx : -100 ≤ x ∧ x ≤ 100) (bY : -100 ≤ y ∧ y ≤ 100) (bd : -100 ≤ dx ∧ dx ≤ 100) (be : -100 ≤ dy ∧ dy ≤ 100) : ACall Gam 58 [.agg #[I x, I y, I dx, I dy]] h fun r h' => r = .agg #[I (x + dx), I (y + dy)] ∧ h' = h := by
  refine ACall_intro g58 rfl ?_
  unfold fn58
  simp (disch := omega) [wrap64, resOf_box, aField]
theorem c458 (h : Heap) (x y dx dy : Int) (bx : -100 ≤ x ∧ x ≤ 100) (bY : -100 ≤ y ∧ y ≤ 100) (bd : -100 ≤ dx ∧ dx ≤ 100) (be : -100 ≤ dy ∧ dy ≤ 100) : ACall Gam 458 [.agg #[I x, I y, I dx, I dy]] h fun r h' => r = .tuple #[.agg #[I (if dx = 1 then x else x + dx), I (if dx = 1 then y else y + dy)], I (if dx = 1 then y + dy else y)] ∧ h' = h := by
  refine ACall_intro g458 rfl ?_
  unfold fn458
  simp (disch := omega)
  refine callW_of (c459 h x y dx dy bx bY bd be) ?_
  rintro _ h' ⟨rfl, rfl⟩
  simp (disch := omega)
  refine fork_dec (fun e => ?_) (fun e => ?_)
  · simp (disch := omega) [e, resOf_box, aField, resOf, resAll, resOne]
  · simp (disch := omega) [e, resOf_box, aField, resOf, resAll, resOne]
theorem c446 (h : Heap) (v : Value) (X : Pan) (x y : Int) (hv : PtP h v X) (ok : OkP X) : ACall Gam 446 [v, .agg #[I x, I y]] h fun r h' => r = B (decide (edgeW X.1.toNat X.2.1.toNat x y)) ∧ h' = h := by
  obtain ⟨b, o, s, rfl, h1, h2, _⟩ := hv
  obtain ⟨w, hh, _, _⟩ := ok
  refine ACall_intro g446 rfl ?_
  unfold fn446
  have w1 : (X.1.toNat : Int) = X.1 := by omega
  have w2 : (X.2.1.toNat : Int) = X.2.1 := by omega
  have n1 : ¬ 2 * X.1 = 0 := by omega
  have n2 : ¬ 2 * X.2.1 = 0 := by omega
  have n3 : ¬ X.1 = 0 := by omega
  have n4 : ¬ X.2.1 = 0 := by omega
  by_cases e1 : x = 0
  · simp (disch := omega) [h1, h2, e1, wrap64, edgeW, w1, w2, n1, n2, n3, n4]
  by_cases e2 : y = 0
  · simp (disch := omega) [h1, h2, e1, e2, wrap64, edgeW, w1, w2, n1, n2, n3, n4]
  by_cases e3 : x = 2 * X.1
  · simp (disch := omega) [h1, h2, e1, e2, e3, wrap64, edgeW, w1, w2, n1, n2, n3, n4]
  by_cases e4 : y = 2 * X.2.1
  · simp (disch := omega) [h1, h2, e1, e2, e3, e4, wrap64, edgeW, w1, w2, n1, n2, n3, n4]
  simp (disch := omega) [h1, h2, e1, e2, e3, e4, wrap64, edgeW, w1, w2, n1, n2, n3, n4]
theorem c34 (h : Heap) (W H x y : Int) (s : Value) (w : 1 ≤ W ∧ W ≤ 8) (hh : 1 ≤ H ∧ H ≤ 8) : ACall Gam 34 [.agg #[I W, I H, s], .agg #[I x, I y]] h fun r h' => r = B (decide (edgeW W.toNat H.toNat x y)) ∧ h' = h := by
  refine ACall_intro g34 rfl ?_
  unfold fn34
  have w1 : (W.toNat : Int) = W := by omega
  have w2 : (H.toNat : Int) = H := by omega
  have n1 : ¬ 2 * W = 0 := by omega
  have n2 : ¬ 2 * H = 0 := by omega
  have n3 : ¬ W = 0 := by omega
  have n4 : ¬ H = 0 := by omega
  by_cases e1 : x = 0
  · simp (disch := omega) [e1, wrap64, edgeW, w1, w2, n1, n2, n3, n4]
  by_cases e2 : x = 2 * W
  · simp (disch := omega) [e1, e2, wrap64, edgeW, w1, w2, n1, n2, n3, n4]
  by_cases e3 : y = 0
  · simp (disch := omega) [e1, e2, e3, wrap64, edgeW, w1, w2, n1, n2, n3, n4]
  by_cases e4 : y = 2 * H
  · simp (disch := omega) [e1, e2, e3, e4, wrap64, edgeW, w1, w2, n1, n2, n3, n4]
  simp (disch := omega) [e1, e2, e3, e4, wrap64, edgeW, w1, w2, n1, n2, n3, n4]
theorem c460 (h : Heap) (v : Value) (X : Pan) (x y dx dy : Int) (hv : PtP h v X) (ok : OkP X) (hw : OkW X.1.toNat X.2.1.toNat (x, y, dx, dy)) : ACall Gam 460 [v, .agg #[I x, I y, I dx, I dy]] h fun r h' => r = I (segW X.2.1.toNat (x, y, dx, dy)) ∧ h' = h := by
  obtain ⟨b, o, s, rfl, h1, h2, _⟩ := hv
  obtain ⟨w, hh, _, _⟩ := ok
  have hc := seg_cast hw
  obtain ⟨⟨s1, s2⟩, s3, s4⟩ := seg_bd hw
  obtain ⟨d1, d2, p1, p2, p3, p4, p5⟩ := hw
  simp only at *
  have w2 : (X.2.1.toNat : Int) = X.2.1 := by omega
  have w1 : (X.1.toNat : Int) = X.1 := by omega
  rw [w2] at hc
  rw [hc]
  have m1 := minI_one (x := x) d1
  have m2 := minI_one (x := y) d2
  rw [m1, m2]
  obtain ⟨H, eH⟩ : ∃ H, H = X.2.1 := ⟨_, rfl⟩
  rw [← eH] at h2 hh p2 p4 ⊢
  have bm : ∀ a : Int, 0 ≤ a → a ≤ 17 → 0 ≤ a * (2 * H) ∧ a * (2 * H) ≤ 17 * (2 * 8) := fun a h1 h2 => ⟨Int.mul_nonneg (by omega) (by omega), Int.mul_le_mul (by omega) (by omega) (by omega) (by omega)⟩
  refine ACall_intro g460 rfl ?_
  unfold fn460
  simp (disch := omega)
  refine callW_of (c458 h x y dx dy (by omega) (by omega) (by omega) (by omega)) ?_
  rintro _ h' ⟨rfl, rfl⟩
  rcases d1 with e | e <;> subst e
  · have b1 := bm x (by omega) (by omega)
    rcases d2 with e' | e' <;> subst e' <;> simp (disch := omega) [h2, wrap64, Int.mul_assoc] <;> refine fork_dec (fun e => ?_) (fun e => ?_) <;> first | (exfalso; omega) | (simp (disch := omega) [wrap64] <;> omega)
  · have b1 := bm (x + -1) (by omega) (by omega)
    have ex : x + -1 = x - 1 := by omega
    rw [ex] at b1
    rcases d2 with e' | e' <;> subst e' <;> simp (disch := omega) [h2, wrap64, Int.mul_assoc, ex] <;> refine fork_dec (fun e => ?_) (fun e => ?_) <;> first | (exfalso; omega) | (simp (disch := omega) [wrap64, Int.mul_assoc] <;> omega)
/-- A walker. -/
def wv (w : Wk) : Value := .agg #[I w.1, I w.2.1, I w.2.2.1, I w.2.2.2]
theorem c461 (h : Heap) (v : Value) (X : Pan) (x y dx dy : Int) (hv : PtP h v X) (ok : OkP X) (hw : OkW X.1.toNat X.2.1.toNat (x, y, dx, dy)) : ACall Gam 461 [v, .agg #[I x, I y, I dx, I dy]] h fun r h' => r = wv (stepW X.1.toNat X.2.1.toNat X.2.2 (x, y, dx, dy)) ∧ h' = h := by
  have hv0 := hv
  have ok0 := ok
  obtain ⟨b, o, s, rfl, h1, h2, h3, hr, _⟩ := hv
  obtain ⟨b2, o2, z2, rfl, _, hm, _, hc⟩ := hr.ints
  obtain ⟨w, hh, hn, _⟩ := ok
  obtain ⟨d1, d2, p1, p2, p3, p4, p5⟩ := hw
  simp only at *
  have n1 : ¬ 2 * X.1 = 0 := by omega
  have n2 : ¬ 2 * X.2.1 = 0 := by omega
  have n3 : ¬ X.1 = 0 := by omega
  have n4 : ¬ X.2.1 = 0 := by omega
  have w2 : (X.2.1.toNat : Int) = X.2.1 := by omega
  have w1 : (X.1.toNat : Int) = X.1 := by omega
  have w3 : max X.1 0 = X.1 := by omega
  have w4 : max X.2.1 0 = X.2.1 := by omega
  refine ACall_intro g461 rfl ?_
  unfold fn461
  rw [awp_seq, awp_reg]
  generalize hK : seqQ Gam _ _ 0 = K
  simp (disch := omega)
  subst hK
  simp only [seqQ_zero]
  rw [awp_seq, awp_reg]
  generalize hK : seqQ Gam _ _ 0 = K
  simp (disch := omega)
  refine callW_of (c459 h x y dx dy (by omega) (by omega) (by omega) (by omega)) ?_
  rintro _ h' ⟨rfl, rfl⟩
  simp (disch := omega)
  subst hK
  simp only [seqQ_zero]
  rw [awp_seq, awp_reg]
  generalize hK : seqQ Gam _ _ 0 = K
  simp (disch := omega)
  obtain ⟨nx, enx⟩ : ∃ nx, nx = x + dx := ⟨_, rfl⟩
  obtain ⟨ny, eny⟩ : ∃ ny, ny = y + dy := ⟨_, rfl⟩
  have es : wv (stepW X.1.toNat X.2.1.toNat X.2.2 (x, y, dx, dy)) = .agg #[I nx, I ny, I (if nx = 0 ∨ nx = 2 * X.1 ∨ kindW X.1.toNat X.2.1.toNat X.2.2 nx ny = 1 then -dx else dx), I (if ny = 0 ∨ ny = 2 * X.2.1 ∨ kindW X.1.toNat X.2.1.toNat X.2.2 nx ny = 2 then -dy else dy)] := by
    simp only [stepW, wv, enx, eny, w1, w2]
  rw [es] at hK
  rw [← enx] at p3 ⊢
  rw [← eny] at p4 ⊢
  have c4 := c446 h' (pt b o) X nx ny hv0 ok0
  obtain ⟨k, ek⟩ : ∃ k, k = kindW X.1.toNat X.2.1.toNat X.2.2 nx ny := ⟨_, rfl⟩
  rw [← ek] at hK
  subst hK
  simp only [seqQ_zero]
  rw [awp_seq]
  generalize hK : seqQ Gam _ _ = K
  have key : ∀ σ' : Nat → Value, σ' 0 = pt b o → σ' 4 = .agg #[I 0, I 0, I 0, I 0] → σ' 5 = .agg #[I nx, I ny] → σ' 6 = .agg #[I nx, I ny, I (if nx = 0 ∨ nx = 2 * X.1 then -dx else dx), I dy] → K 0 σ' h' := by
    intro σ q0 q4 q5 q6
    subst hK
    simp only [seqQ_zero]
    rw [awp_seq]
    generalize hK : seqQ Gam _ _ = K
    have key2 : ∀ σ' : Nat → Value, σ' 0 = pt b o → σ' 4 = .agg #[I 0, I 0, I 0, I 0] → σ' 5 = .agg #[I nx, I ny] → σ' 6 = .agg #[I nx, I ny, I (if nx = 0 ∨ nx = 2 * X.1 then -dx else dx), I (if ny = 0 ∨ ny = 2 * X.2.1 then -dy else dy)] → K 0 σ' h' := by
      intro σ q0 q4 q5 q6
      subst hK
      simp only [seqQ_zero]
      by_cases E : edgeW X.1.toNat X.2.1.toNat nx ny
      · have k0 : k = 0 := by rw [ek]; exact kindW_edge E
        rw [decide_eq_true E] at c4
        simp (disch := omega) [q0, q5]
        refine callW_of c4 ?_
        rintro _ h'' ⟨rfl, rfl⟩
        simp (disch := omega) [q4, q6, k0, resOf_box, aField]
      · have E' : ¬ (nx = 0 ∨ nx = 2 * X.1 ∨ ny = 0 ∨ ny = 2 * X.2.1) := by
          intro e; apply E; unfold edgeW; rw [w1, w2]; exact e
        have e1 : ¬ (nx = 0 ∨ nx = 2 * X.1) := fun e => E' (by rcases e with e | e; exact .inl e; exact .inr (.inl e))
        have e2 : ¬ (ny = 0 ∨ ny = 2 * X.2.1) := fun e => E' (by rcases e with e | e; exact .inr (.inr (.inl e)); exact .inr (.inr (.inr e)))
        rw [decide_eq_false E] at c4
        rw [if_neg e1, if_neg e2] at q6
        have ek' : k = at0 X.2.2 (numP X.1.toNat nx.toNat ny.toNat) := by rw [ek]; exact if_neg E
        have e3 : ¬ nx = 0 := fun e => e1 (.inl e)
        have e4 : ¬ nx = 2 * X.1 := fun e => e1 (.inr e)
        have e5 : ¬ ny = 0 := fun e => e2 (.inl e)
        have e6 : ¬ ny = 2 * X.2.1 := fun e => e2 (.inr e)
        have b1 : (nx.toNat : Int) = nx := by omega
        have b2' : (ny.toNat : Int) = ny := by omega
        have hnum := numP_lt (W := X.1.toNat) (H := X.2.1.toNat) (x := nx.toNat) (y := ny.toNat) (by omega) (by omega) (by omega)
        have hl : rowN X.1.toNat (2 * X.2.1.toNat) = X.2.2.length := by
          have := rowN_end (W := X.1.toNat) (by omega) (H := X.2.1.toNat) (by omega) (by omega) (by omega)
          rw [w1, w2] at this
          have h3 : inner X.1 X.2.1 = X.1 * (X.2.1 - 1) + X.2.1 * (X.1 - 1) := rfl
          omega
        rw [hl] at hnum
        have hcell := ints_cell hc hnum
        rw [← at0_of hnum, ← ek'] at hcell
        have c5 := c451 h' (pt b o) X X.1.toNat nx.toNat ny.toNat hv0 w1.symm (by omega) (by omega) (by omega) (by omega)
        rw [b1, b2'] at c5
        simp (disch := omega) [q0, q5]
        refine callW_of c4 ?_
        rintro _ h'' ⟨rfl, rfl⟩
        simp (disch := omega) [q0, q5, h3]
        refine callW_of c5 ?_
        rintro _ h'' ⟨rfl, rfl⟩
        simp (disch := omega) [hnum, hcell]
        refine ⟨Grows.refl _, ?_⟩
        refine fork_dec (fun f1 => ?_) (fun f1 => ?_)
        · simp (disch := omega) [q4, q6, f1, e3, e4, e5, e6, wrap64, resOf_box, aField]
        · simp (disch := omega)
          refine fork_dec (fun f2 => ?_) (fun f2 => ?_)
          · simp (disch := omega) [q4, q6, f1, f2, e3, e4, e5, e6, wrap64, resOf_box, aField]
          · simp (disch := omega) [q4, q6, f1, f2, e3, e4, e5, e6, wrap64, resOf_box, aField]
    by_cases e1 : ny = 0
    · simp (disch := omega) [q0, q5, q6, h2, wrap64, e1]
      exact key2 _ (by simp [q0]) (by simp [q4]) (by simp [q5, e1]) (by simp [e1])
    by_cases e2 : ny = 2 * X.2.1
    · simp (disch := omega) [q0, q5, q6, h2, wrap64, e1, e2, n2, n4]
      exact key2 _ (by simp [q0]) (by simp [q4]) (by simp [q5, e2]) (by simp [e2])
    simp (disch := omega) [q0, q5, q6, h2, wrap64, e1, e2]
    exact key2 _ (by simp [q0]) (by simp [q4]) (by simp [q5]) (by simp [q6, e1, e2])
  by_cases e1 : nx = 0
  · simp (disch := omega) [h1, wrap64, e1]
    exact key _ (by simp) (by simp) (by simp [e1]) (by simp [e1])
  by_cases e2 : nx = 2 * X.1
  · simp (disch := omega) [h1, wrap64, e1, e2, n1, n3]
    exact key _ (by simp) (by simp) (by simp [e2]) (by simp [e2])
  simp (disch := omega) [h1, wrap64, e1, e2]
  exact key _ (by simp) (by simp) (by simp) (by simp [e1, e2])
end Am
/-! AmY29 -/
set_option linter.unusedVariables false
set_option linter.unusedSimpArgs false
set_option maxHeartbeats 4000000
set_option maxRecDepth 4000
namespace Am
open Go

theorem c51 (h : Heap) (W H : Int) (s : Value) (w : 1 ≤ W ∧ W ≤ 8) (hh : 1 ≤ H ∧ H ≤ 8) : ACall Gam 51 [.agg #[I W, I H, s]] h fun r h' => r = I (4 * W.toNat * H.toNat : Nat) ∧ h' = h := by
  have b : 0 ≤ W * H ∧ W * H ≤ 8 * 8 := ⟨Int.mul_nonneg (by omega) (by omega), Int.mul_le_mul (by omega) (by omega) (by omega) (by omega)⟩
  have w1 : (W.toNat : Int) = W := by omega
  have w2 : (H.toNat : Int) = H := by omega
  have w3 : max W 0 = W := by omega
  have w4 : max H 0 = H := by omega
  refine ACall_intro g51 rfl ?_
  unfold fn51
  simp (disch := omega) [wrap64, Int.mul_assoc, w1, w2, w3, w4]
theorem c50 (h : Heap) (W H : Int) (s : Value) (x y dx dy : Int) (w : 1 ≤ W ∧ W ≤ 8) (hh : 1 ≤ H ∧ H ≤ 8) (hw : OkW W.toNat H.toNat (x, y, dx, dy)) : ACall Gam 50 [.agg #[I W, I H, s], .agg #[I x, I y, I dx, I dy]] h fun r h' => r = I (segW H.toNat (x, y, dx, dy)) ∧ h' = h := by
  have hc := seg_cast hw
  obtain ⟨⟨s1, s2⟩, s3, s4⟩ := seg_bd hw
  obtain ⟨d1, d2, p1, p2, p3, p4, p5⟩ := hw
  simp only at *
  have w2 : (H.toNat : Int) = H := by omega
  have w1 : (W.toNat : Int) = W := by omega
  rw [w2] at hc
  rw [hc]
  have bm : ∀ a : Int, 0 ≤ a → a ≤ 17 → 0 ≤ a * (2 * H) ∧ a * (2 * H) ≤ 17 * (2 * 8) := fun a h1 h2 => ⟨Int.mul_nonneg (by omega) (by omega), Int.mul_le_mul (by omega) (by omega) (by omega) (by omega)⟩
  have e1 : aMin [I x, I (x + dx)] = some (I (minI x (x + dx))) := by
    show some (I (if x + dx < x then x + dx else x)) = _
    congr 2; unfold minI; split <;> split <;> omega
  have e2 : aMin [I y, I (y + dy)] = some (I (minI y (y + dy))) := by
    show some (I (if y + dy < y then y + dy else y)) = _
    congr 2; unfold minI; split <;> split <;> omega
  have b1 := bm (minI x (x + dx)) (by omega) (by omega)
  refine ACall_intro g50 rfl ?_
  unfold fn50
  simp (disch := omega)
  refine callW_of (c58 h x y dx dy (by omega) (by omega) (by omega) (by omega)) ?_
  rintro _ h' ⟨rfl, rfl⟩
  simp (disch := omega) [wrap64, Int.mul_assoc, e1, e2]
theorem c56 (h : Heap) (W H : Int) (s : Value) (k : Nat) (w : 1 ≤ W ∧ W ≤ 8) (hh : 1 ≤ H ∧ H ≤ 8) (hk : k < 4 * W.toNat * H.toNat) : ACall Gam 56 [.agg #[I W, I H, s], I k] h fun r h' => r = wv (wkW H.toNat k) ∧ h' = h := by
  have w2 : (H.toNat : Int) = H := by omega
  have b : k < 256 := by
    have : 4 * W.toNat * H.toNat ≤ 4 * 8 * 8 := Nat.mul_le_mul (by omega) (by omega)
    omega
  have t1 : (k : Int).tdiv (2 * H) = ((k / (2 * H.toNat) : Nat) : Int) := by
    rw [show (2 * H : Int) = ((2 * H.toNat : Nat) : Int) by omega]; rfl
  have t2 : (k : Int).tmod (2 * H) = ((k % (2 * H.toNat) : Nat) : Int) := by
    rw [show (2 * H : Int) = ((2 * H.toNat : Nat) : Int) by omega]; rfl
  have q1 : k / (2 * H.toNat) ≤ 256 := by have := Nat.div_le_self k (2 * H.toNat); omega
  have q2 : k % (2 * H.toNat) < 2 * H.toNat := Nat.mod_lt _ (by omega)
  have h0 : ¬ 2 * H = 0 := by omega
  have h0' : ¬ H = 0 := by omega
  unfold wkW
  obtain ⟨q, eq⟩ : ∃ q, q = k / (2 * H.toNat) := ⟨_, rfl⟩
  obtain ⟨r, er⟩ : ∃ r, r = k % (2 * H.toNat) := ⟨_, rfl⟩
  rw [← eq] at t1 q1 ⊢
  rw [← er] at t2 q2 ⊢
  have t3 : ((q : Int) + r).tmod 2 = (((q + r) % 2 : Nat) : Int) := rfl
  refine ACall_intro g56 rfl ?_
  unfold fn56
  simp (disch := omega) [wrap64, t1, t2, h0, h0']
  by_cases e : (q + r) % 2 = 1
  · rw [if_pos e]
    have t3 : ((q : Int) + r).tmod 2 = 1 := by rw [t3, e]; rfl
    simp (disch := omega) [t3, wrap64, resOf_box, aField, wv]
  · rw [if_neg e]
    have t3 : ¬ ((q : Int) + r).tmod 2 = 1 := by rw [t3]; omega
    simp (disch := omega) [t3, wrap64, resOf_box, aField, wv]
theorem c54 (h : Heap) (W H : Int) (br : List Int) (s : Value) (x y dx dy : Int) (ok : OkP (W, H, br)) (hr : Vr h shInts s br) (hw : OkW W.toNat H.toNat (x, y, dx, dy)) : ACall Gam 54 [.agg #[I W, I H, s], .agg #[I x, I y, I dx, I dy]] h fun r h' => (∃ t, r = .tuple #[wv (stepW W.toNat H.toNat br (x, y, dx, dy)), B t]) ∧ h' = h := by
  obtain ⟨b2, o2, z2, rfl, _, hm, _, hc⟩ := hr.ints
  obtain ⟨w, hh, hn, _⟩ := ok
  obtain ⟨d1, d2, p1, p2, p3, p4, p5⟩ := hw
  simp only at *
  have n1 : ¬ 2 * W = 0 := by omega
  have n2 : ¬ 2 * H = 0 := by omega
  have n3 : ¬ W = 0 := by omega
  have n4 : ¬ H = 0 := by omega
  have w2 : (H.toNat : Int) = H := by omega
  have w1 : (W.toNat : Int) = W := by omega
  refine ACall_intro g54 rfl ?_
  unfold fn54
  rw [awp_seq, awp_reg]
  generalize hK : seqQ Gam _ _ 0 = K
  simp (disch := omega)
  subst hK
  simp only [seqQ_zero]
  rw [awp_seq, awp_reg]
  generalize hK : seqQ Gam _ _ 0 = K
  simp (disch := omega)
  refine callW_of (c58 h x y dx dy (by omega) (by omega) (by omega) (by omega)) ?_
  rintro _ h' ⟨rfl, rfl⟩
  simp (disch := omega)
  subst hK
  simp only [seqQ_zero]
  rw [awp_seq, awp_reg]
  generalize hK : seqQ Gam _ _ 0 = K
  simp (disch := omega)
  subst hK
  simp only [seqQ_zero]
  rw [awp_seq, awp_reg]
  generalize hK : seqQ Gam _ _ 0 = K
  simp (disch := omega)
  obtain ⟨nx, enx⟩ : ∃ nx, nx = x + dx := ⟨_, rfl⟩
  obtain ⟨ny, eny⟩ : ∃ ny, ny = y + dy := ⟨_, rfl⟩
  have es : wv (stepW W.toNat H.toNat br (x, y, dx, dy)) = .agg #[I nx, I ny, I (if nx = 0 ∨ nx = 2 * W ∨ kindW W.toNat H.toNat br nx ny = 1 then -dx else dx), I (if ny = 0 ∨ ny = 2 * H ∨ kindW W.toNat H.toNat br nx ny = 2 then -dy else dy)] := by
    simp only [stepW, wv, enx, eny, w1, w2]
  rw [es] at hK
  rw [← enx] at p3 ⊢
  rw [← eny] at p4 ⊢
  have c4 := c34 h' W H nx ny (sl b2 o2 br.length z2) w hh
  obtain ⟨k, ek⟩ : ∃ k, k = kindW W.toNat H.toNat br nx ny := ⟨_, rfl⟩
  rw [← ek] at hK
  subst hK
  simp only [seqQ_zero]
  rw [awp_seq]
  generalize hK : seqQ Gam _ _ = K
  have key : ∀ σ' : Nat → Value, σ' 2 = .agg #[I W, I H, sl b2 o2 br.length z2] → σ' 3 = .agg #[I x, I y, I dx, I dy] → σ' 4 = .agg #[I 0, I 0, I 0, I 0] → σ' 6 = .agg #[I nx, I ny] → σ' 7 = .agg #[I nx, I ny, I dx, I dy] → σ' 8 = I k → K 0 σ' h' := by
    intro σ q2 q3 q4 q6 q7 q8
    subst hK
    simp only [seqQ_zero]
    rw [awp_seq]
    generalize hK : seqQ Gam _ _ = K
    have key2 : ∀ σ' : Nat → Value, σ' 2 = .agg #[I W, I H, sl b2 o2 br.length z2] → σ' 3 = .agg #[I x, I y, I dx, I dy] → σ' 4 = .agg #[I 0, I 0, I 0, I 0] → σ' 6 = .agg #[I nx, I ny] → σ' 7 = .agg #[I nx, I ny, I (if nx = 0 ∨ nx = 2 * W ∨ k = 1 then -dx else dx), I dy] → σ' 8 = I k → K 0 σ' h' := by
      intro σ q2 q3 q4 q6 q7 q8
      subst hK
      simp only [seqQ_zero]
      rw [awp_seq]
      generalize hK : seqQ Gam _ _ = K
      have key3 : ∀ σ' : Nat → Value, σ' 3 = .agg #[I x, I y, I dx, I dy] → σ' 4 = .agg #[I 0, I 0, I 0, I 0] → σ' 7 = .agg #[I nx, I ny, I (if nx = 0 ∨ nx = 2 * W ∨ k = 1 then -dx else dx), I (if ny = 0 ∨ ny = 2 * H ∨ k = 2 then -dy else dy)] → K 0 σ' h' := by
        intro σ q3 q4 q7
        subst hK
        simp only [seqQ_zero]
        generalize (if nx = 0 ∨ nx = 2 * W ∨ k = 1 then -dx else dx) = D at *
        generalize (if ny = 0 ∨ ny = 2 * H ∨ k = 2 then -dy else dy) = E at *
        by_cases e1 : D = dx
        · by_cases e2 : E = dy
          · simp (disch := omega) [q3, q4, q7, e1, e2, resOf, resAll, resOne, aField]
          · simp (disch := omega) [q3, q4, q7, e1, e2, resOf, resAll, resOne, aField]
        · simp (disch := omega) [q3, q4, q7, e1, resOf, resAll, resOne, aField]
      by_cases e1 : ny = 0
      · simp (disch := omega) [q2, q3, q4, q6, q7, q8, wrap64, e1]
        exact key3 _ (by simp [q3]) (by simp [q4]) (by simp [e1])
      by_cases e2 : ny = 2 * H
      · simp (disch := omega) [q2, q3, q4, q6, q7, q8, wrap64, e1, e2, n2, n4]
        exact key3 _ (by simp [q3]) (by simp [q4]) (by simp [e2])
      by_cases e3 : k = 2
      · simp (disch := omega) [q2, q3, q4, q6, q7, q8, wrap64, e1, e2, e3, n2, n4]
        exact key3 _ (by simp [q3]) (by simp [q4]) (by simp [e3])
      simp (disch := omega) [q2, q3, q4, q6, q7, q8, wrap64, e1, e2, e3, n2, n4]
      exact key3 _ (by simp [q3]) (by simp [q4]) (by simp [q7, e1, e2, e3])
    by_cases e1 : nx = 0
    · simp (disch := omega) [q2, q3, q4, q6, q7, q8, wrap64, e1]
      exact key2 _ (by simp [q2]) (by simp [q3]) (by simp [q4]) (by simp [q6, e1]) (by simp [e1]) (by simp [q8])
    by_cases e2 : nx = 2 * W
    · simp (disch := omega) [q2, q3, q4, q6, q7, q8, wrap64, e1, e2, n1, n3]
      exact key2 _ (by simp [q2]) (by simp [q3]) (by simp [q4]) (by simp [q6, e2]) (by simp [e2]) (by simp [q8])
    by_cases e3 : k = 1
    · simp (disch := omega) [q2, q3, q4, q6, q7, q8, wrap64, e1, e2, e3, n1, n3]
      exact key2 _ (by simp [q2]) (by simp [q3]) (by simp [q4]) (by simp [q6]) (by simp [e3]) (by simp [q8, e3])
    simp (disch := omega) [q2, q3, q4, q6, q7, q8, wrap64, e1, e2, e3, n1, n3]
    exact key2 _ (by simp [q2]) (by simp [q3]) (by simp [q4]) (by simp [q6]) (by simp [q7, e1, e2, e3]) (by simp [q8])
  by_cases E : edgeW W.toNat H.toNat nx ny
  · have k0 : k = 0 := by rw [ek]; exact kindW_edge E
    rw [decide_eq_true E] at c4
    simp (disch := omega)
    refine callW_of c4 ?_
    rintro _ h'' ⟨rfl, rfl⟩
    simp (disch := omega)
    exact key _ (by simp) (by simp) (by simp) (by simp) (by simp) (by simp [k0])
  · have ek' : k = at0 br (numP W.toNat nx.toNat ny.toNat) := by rw [ek]; exact if_neg E
    have E' : ¬ (nx = 0 ∨ nx = 2 * W ∨ ny = 0 ∨ ny = 2 * H) := by
      intro e; apply E; unfold edgeW; rw [w1, w2]; exact e
    rw [decide_eq_false E] at c4
    have b1 : (nx.toNat : Int) = nx := by omega
    have b2' : (ny.toNat : Int) = ny := by omega
    have hnum := numP_lt (W := W.toNat) (H := H.toNat) (x := nx.toNat) (y := ny.toNat) (by omega) (by omega) (by omega)
    have hl : rowN W.toNat (2 * H.toNat) = br.length := by
      have := rowN_end (W := W.toNat) (by omega) (H := H.toNat) (by omega) (by omega) (by omega)
      rw [w1, w2] at this
      have h3 : inner W H = W * (H - 1) + H * (W - 1) := rfl
      omega
    rw [hl] at hnum
    have hcell := ints_cell hc hnum
    rw [← at0_of hnum, ← ek'] at hcell
    have c5 := c40 h' W.toNat H.toNat nx.toNat ny.toNat (sl b2 o2 br.length z2) (by omega) (by omega) (by omega) (by omega) (by omega)
    rw [b1, b2', w1, w2] at c5
    simp (disch := omega)
    refine callW_of c4 ?_
    rintro _ h'' ⟨rfl, rfl⟩
    simp (disch := omega)
    refine callW_of c5 ?_
    rintro _ h'' ⟨rfl, rfl⟩
    simp (disch := omega) [hnum, hcell]
    exact key _ (by simp) (by simp) (by simp) (by simp) (by simp) (by simp)
end Am

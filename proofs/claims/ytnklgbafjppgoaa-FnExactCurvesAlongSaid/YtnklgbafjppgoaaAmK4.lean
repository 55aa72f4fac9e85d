/- Contracts: AmY28, AmY29, AmY30, AmY31, AmY32. -/
import Derived.Test.YtnklgbafjppgoaaAmK3
set_option linter.unusedVariables false
set_option linter.unusedSimpArgs false
set_option maxHeartbeats 4000000
set_option maxRecDepth 40000
namespace Am
open Go
theorem c459 (h : Heap) (x y dx dy : Int) (bx : -100 ≤ x ∧ x ≤ 100) (bY : -100 ≤ y ∧ y ≤ 100) (bd : -100 ≤ dx ∧ dx ≤ 100) (be : -100 ≤ dy ∧ dy ≤ 100) : ACall Gam 459 [.agg #[I x, I y, I dx, I dy]] h fun r h' => r = .agg #[I (x + dx), I (y + dy)] ∧ h' = h := by
 refine ACall_intro g459 rfl ?_
 unfold fn459
 simp (disch := omega) [wrap64, resOf_box, aField]
theorem c58 (h : Heap) (x y dx dy : Int) (bx : -100 ≤ x ∧ x ≤ 100) (bY : -100 ≤ y ∧ y ≤ 100) (bd : -100 ≤ dx ∧ dx ≤ 100) (be : -100 ≤ dy ∧ dy ≤ 100) : ACall Gam 58 [.agg #[I x, I y, I dx, I dy]] h fun r h' => r = .agg #[I (x + dx), I (y + dy)] ∧ h' = h := by
 refine ACall_intro g58 rfl ?_
 unfold fn58
 simp (disch := omega) [wrap64, resOf_box, aField]
theorem c458 (h : Heap) (x y dx dy : Int) (bx : -100 ≤ x ∧ x ≤ 100) (bY : -100 ≤ y ∧ y ≤ 100) (bd : -100 ≤ dx ∧ dx ≤ 100) (be : -100 ≤ dy ∧ dy ≤ 100) : ACall Gam 458 [.agg #[I x, I y, I dx, I dy]] h fun r h' => r = .tuple #[.agg #[I (if dx = 1 then x else x + dx), I (if dx = 1 then y else y + dy)], I (if dx = 1 then y + dy else y)] ∧ h' = h := by
 refine ACall_intro g458 rfl ?_
 unfold fn458
 simp (disch := omega)
 refine callW_of (c459 h x y dx dy bx bY bd be) ?_
 rintro _ h' ⟨rfl, rfl⟩
 simp (disch := omega)
 refine fork_dec (fun e => ?_) (fun e => ?_)
 ·simp (disch := omega) [e, resOf_box, aField, resOf, resAll, resOne]
 ·simp (disch := omega) [e, resOf_box, aField, resOf, resAll, resOne]
theorem c446 (h : Heap) (v : Value) (X : Pan) (x y : Int) (hv : PtP h v X) (ok : OkP X) : ACall Gam 446 [v, .agg #[I x, I y]] h fun r h' => r = B (decide (edgeW X.1.toNat X.2.1.toNat x y)) ∧ h' = h := by
 obtain ⟨b, o, s, rfl, h1, h2, _⟩ := hv
 obtain ⟨w, hh, _, _⟩ := ok
 refine ACall_intro g446 rfl ?_
 unfold fn446
 have w1 : (X.1.toNat : Int) = X.1 := by omega
 have w2 : (X.2.1.toNat : Int) = X.2.1 := by omega
 have n1 : ¬ 2 * X.1 = 0 := by omega
 have n2 : ¬ 2 * X.2.1 = 0 := by omega
 have n3 : ¬ X.1 = 0 := by omega
 have n4 : ¬ X.2.1 = 0 := by omega
 by_cases e1 : x = 0
 ·simp (disch := omega) [h1, h2, e1, wrap64, edgeW, w1, w2, n1, n2, n3, n4]
 by_cases e2 : y = 0
 ·simp (disch := omega) [h1, h2, e1, e2, wrap64, edgeW, w1, w2, n1, n2, n3, n4]
 by_cases e3 : x = 2 * X.1
 ·simp (disch := omega) [h1, h2, e1, e2, e3, wrap64, edgeW, w1, w2, n1, n2, n3, n4]
 by_cases e4 : y = 2 * X.2.1
 ·simp (disch := omega) [h1, h2, e1, e2, e3, e4, wrap64, edgeW, w1, w2, n1, n2, n3, n4]
 simp (disch := omega) [h1, h2, e1, e2, e3, e4, wrap64, edgeW, w1, w2, n1, n2, n3, n4]
theorem c34 (h : Heap) (W H x y : Int) (s : Value) (w : 1 ≤ W ∧ W ≤ 8) (hh : 1 ≤ H ∧ H ≤ 8) : ACall Gam 34 [.agg #[I W, I H, s], .agg #[I x, I y]] h fun r h' => r = B (decide (edgeW W.toNat H.toNat x y)) ∧ h' = h := by
 refine ACall_intro g34 rfl ?_
 unfold fn34
 have w1 : (W.toNat : Int) = W := by omega
 have w2 : (H.toNat : Int) = H := by omega
 have n1 : ¬ 2 * W = 0 := by omega
 have n2 : ¬ 2 * H = 0 := by omega
 have n3 : ¬ W = 0 := by omega
 have n4 : ¬ H = 0 := by omega
 by_cases e1 : x = 0
 ·simp (disch := omega) [e1, wrap64, edgeW, w1, w2, n1, n2, n3, n4]
 by_cases e2 : x = 2 * W
 ·simp (disch := omega) [e1, e2, wrap64, edgeW, w1, w2, n1, n2, n3, n4]
 by_cases e3 : y = 0
 ·simp (disch := omega) [e1, e2, e3, wrap64, edgeW, w1, w2, n1, n2, n3, n4]
 by_cases e4 : y = 2 * H
 ·simp (disch := omega) [e1, e2, e3, e4, wrap64, edgeW, w1, w2, n1, n2, n3, n4]
 simp (disch := omega) [e1, e2, e3, e4, wrap64, edgeW, w1, w2, n1, n2, n3, n4]
theorem c460 (h : Heap) (v : Value) (X : Pan) (x y dx dy : Int) (hv : PtP h v X) (ok : OkP X) (hw : OkW X.1.toNat X.2.1.toNat (x, y, dx, dy)) : ACall Gam 460 [v, .agg #[I x, I y, I dx, I dy]] h fun r h' => r = I (segW X.2.1.toNat (x, y, dx, dy)) ∧ h' = h := by
 obtain ⟨b, o, s, rfl, h1, h2, _⟩ := hv
 obtain ⟨w, hh, _, _⟩ := ok
 have hc := seg_cast hw
 obtain ⟨⟨s1, s2⟩, s3, s4⟩ := seg_bd hw
 obtain ⟨d1, d2, p1, p2, p3, p4, p5⟩ := hw
 simp only at *
 have w2 : (X.2.1.toNat : Int) = X.2.1 := by omega
 have w1 : (X.1.toNat : Int) = X.1 := by omega
 rw [w2] at hc
 rw [hc]
 have m1 := minI_one (x := x) d1
 have m2 := minI_one (x := y) d2
 rw [m1, m2]
 obtain ⟨H, eH⟩ : ∃ H, H = X.2.1 := ⟨_, rfl⟩
 rw [← eH] at h2 hh p2 p4 ⊢
 have bm : ∀ a : Int, 0 ≤ a → a ≤ 17 → 0 ≤ a * (2 * H) ∧ a * (2 * H) ≤ 17 * (2 * 8) := fun a h1 h2 => ⟨Int.mul_nonneg (by omega) (by omega), Int.mul_le_mul (by omega) (by omega) (by omega) (by omega)⟩
 refine ACall_intro g460 rfl ?_
 unfold fn460
 simp (disch := omega)
 refine callW_of (c458 h x y dx dy (by omega) (by omega) (by omega) (by omega)) ?_
 rintro _ h' ⟨rfl, rfl⟩
 rcases d1 with e | e <;> subst e
 ·have b1 := bm x (by omega) (by omega)
  rcases d2 with e' | e' <;> subst e' <;> simp (disch := omega) [h2, wrap64, Int.mul_assoc] <;> refine fork_dec (fun e => ?_) (fun e => ?_) <;> first | (exfalso; omega) | (simp (disch := omega) [wrap64] <;> omega)
 ·have b1 := bm (x + -1) (by omega) (by omega)
  have ex : x + -1 = x - 1 := by omega
  rw [ex] at b1
  rcases d2 with e' | e' <;> subst e' <;> simp (disch := omega) [h2, wrap64, Int.mul_assoc, ex] <;> refine fork_dec (fun e => ?_) (fun e => ?_) <;> first | (exfalso; omega) | (simp (disch := omega) [wrap64, Int.mul_assoc] <;> omega)
/-- A walker. -/
def wv (w : Wk) : Value := .agg #[I w.1, I w.2.1, I w.2.2.1, I w.2.2.2]
theorem c461 (h : Heap) (v : Value) (X : Pan) (x y dx dy : Int) (hv : PtP h v X) (ok : OkP X) (hw : OkW X.1.toNat X.2.1.toNat (x, y, dx, dy)) : ACall Gam 461 [v, .agg #[I x, I y, I dx, I dy]] h fun r h' => r = wv (stepW X.1.toNat X.2.1.toNat X.2.2 (x, y, dx, dy)) ∧ h' = h := by
 have hv0 := hv
 have ok0 := ok
 obtain ⟨b, o, s, rfl, h1, h2, h3, hr, _⟩ := hv
 obtain ⟨b2, o2, z2, rfl, _, hm, _, hc⟩ := hr.ints
 obtain ⟨w, hh, hn, _⟩ := ok
 obtain ⟨d1, d2, p1, p2, p3, p4, p5⟩ := hw
 simp only at *
 have n1 : ¬ 2 * X.1 = 0 := by omega
 have n2 : ¬ 2 * X.2.1 = 0 := by omega
 have n3 : ¬ X.1 = 0 := by omega
 have n4 : ¬ X.2.1 = 0 := by omega
 have w2 : (X.2.1.toNat : Int) = X.2.1 := by omega
 have w1 : (X.1.toNat : Int) = X.1 := by omega
 have w3 : max X.1 0 = X.1 := by omega
 have w4 : max X.2.1 0 = X.2.1 := by omega
 refine ACall_intro g461 rfl ?_
 unfold fn461
 rw [awp_seq, awp_reg]
 generalize hK : seqQ Gam _ _ 0 = K
 simp (disch := omega)
 subst hK
 simp only [seqQ_zero]
 rw [awp_seq, awp_reg]
 generalize hK : seqQ Gam _ _ 0 = K
 simp (disch := omega)
 refine callW_of (c459 h x y dx dy (by omega) (by omega) (by omega) (by omega)) ?_
 rintro _ h' ⟨rfl, rfl⟩
 simp (disch := omega)
 subst hK
 simp only [seqQ_zero]
 rw [awp_seq, awp_reg]
 generalize hK : seqQ Gam _ _ 0 = K
 simp (disch := omega)
 obtain ⟨nx, enx⟩ : ∃ nx, nx = x + dx := ⟨_, rfl⟩
 obtain ⟨ny, eny⟩ : ∃ ny, ny = y + dy := ⟨_, rfl⟩
 have es : wv (stepW X.1.toNat X.2.1.toNat X.2.2 (x, y, dx, dy)) = .agg #[I nx, I ny, I (if nx = 0 ∨ nx = 2 * X.1 ∨ kindW X.1.toNat X.2.1.toNat X.2.2 nx ny = 1 then -dx else dx), I (if ny = 0 ∨ ny = 2 * X.2.1 ∨ kindW X.1.toNat X.2.1.toNat X.2.2 nx ny = 2 then -dy else dy)] := by
  simp only [stepW, wv, enx, eny, w1, w2]
 rw [es] at hK
 rw [← enx] at p3 ⊢
 rw [← eny] at p4 ⊢
 have c4 := c446 h' (pt b o) X nx ny hv0 ok0
 obtain ⟨k, ek⟩ : ∃ k, k = kindW X.1.toNat X.2.1.toNat X.2.2 nx ny := ⟨_, rfl⟩
 rw [← ek] at hK
 subst hK
 simp only [seqQ_zero]
 rw [awp_seq]
 generalize hK : seqQ Gam _ _ = K
 have key : ∀ σ' : Nat → Value, σ' 0 = pt b o → σ' 4 = .agg #[I 0, I 0, I 0, I 0] → σ' 5 = .agg #[I nx, I ny] → σ' 6 = .agg #[I nx, I ny, I (if nx = 0 ∨ nx = 2 * X.1 then -dx else dx), I dy] → K 0 σ' h' := by
  intro σ q0 q4 q5 q6
  subst hK
  simp only [seqQ_zero]
  rw [awp_seq]
  generalize hK : seqQ Gam _ _ = K
  have key2 : ∀ σ' : Nat → Value, σ' 0 = pt b o → σ' 4 = .agg #[I 0, I 0, I 0, I 0] → σ' 5 = .agg #[I nx, I ny] → σ' 6 = .agg #[I nx, I ny, I (if nx = 0 ∨ nx = 2 * X.1 then -dx else dx), I (if ny = 0 ∨ ny = 2 * X.2.1 then -dy else dy)] → K 0 σ' h' := by
   intro σ q0 q4 q5 q6
   subst hK
   simp only [seqQ_zero]
   by_cases E : edgeW X.1.toNat X.2.1.toNat nx ny
   ·have k0 : k = 0 := by rw [ek]; exact kindW_edge E
    rw [decide_eq_true E] at c4
    simp (disch := omega) [q0, q5]
    refine callW_of c4 ?_
    rintro _ h'' ⟨rfl, rfl⟩
    simp (disch := omega) [q4, q6, k0, resOf_box, aField]
   ·have E' : ¬ (nx = 0 ∨ nx = 2 * X.1 ∨ ny = 0 ∨ ny = 2 * X.2.1) := by
     intro e; apply E; unfold edgeW; rw [w1, w2]; exact e
    have e1 : ¬ (nx = 0 ∨ nx = 2 * X.1) := fun e => E' (by rcases e with e | e; exact .inl e; exact .inr (.inl e))
    have e2 : ¬ (ny = 0 ∨ ny = 2 * X.2.1) := fun e => E' (by rcases e with e | e; exact .inr (.inr (.inl e)); exact .inr (.inr (.inr e)))
    rw [decide_eq_false E] at c4
    rw [if_neg e1, if_neg e2] at q6
    have ek' : k = at0 X.2.2 (numP X.1.toNat nx.toNat ny.toNat) := by rw [ek]; exact if_neg E
    have e3 : ¬ nx = 0 := fun e => e1 (.inl e)
    have e4 : ¬ nx = 2 * X.1 := fun e => e1 (.inr e)
    have e5 : ¬ ny = 0 := fun e => e2 (.inl e)
    have e6 : ¬ ny = 2 * X.2.1 := fun e => e2 (.inr e)
    have b1 : (nx.toNat : Int) = nx := by omega
    have b2' : (ny.toNat : Int) = ny := by omega
    have hnum := numP_lt (W := X.1.toNat) (H := X.2.1.toNat) (x := nx.toNat) (y := ny.toNat) (by omega) (by omega) (by omega)
    have hl : rowN X.1.toNat (2 * X.2.1.toNat) = X.2.2.length := by
     have := rowN_end (W := X.1.toNat) (by omega) (H := X.2.1.toNat) (by omega) (by omega) (by omega)
     rw [w1, w2] at this
     have h3 : inner X.1 X.2.1 = X.1 * (X.2.1 - 1) + X.2.1 * (X.1 - 1) := rfl
     omega
    rw [hl] at hnum
    have hcell := ints_cell hc hnum
    rw [← at0_of hnum, ← ek'] at hcell
    have c5 := c451 h' (pt b o) X X.1.toNat nx.toNat ny.toNat hv0 w1.symm (by omega) (by omega) (by omega) (by omega)
    rw [b1, b2'] at c5
    simp (disch := omega) [q0, q5]
    refine callW_of c4 ?_
    rintro _ h'' ⟨rfl, rfl⟩
    simp (disch := omega) [q0, q5, h3]
    refine callW_of c5 ?_
    rintro _ h'' ⟨rfl, rfl⟩
    simp (disch := omega) [hnum, hcell]
    refine ⟨Grows.refl _, ?_⟩
    refine fork_dec (fun f1 => ?_) (fun f1 => ?_)
    ·simp (disch := omega) [q4, q6, f1, e3, e4, e5, e6, wrap64, resOf_box, aField]
    ·simp (disch := omega)
     refine fork_dec (fun f2 => ?_) (fun f2 => ?_)
     ·simp (disch := omega) [q4, q6, f1, f2, e3, e4, e5, e6, wrap64, resOf_box, aField]
     ·simp (disch := omega) [q4, q6, f1, f2, e3, e4, e5, e6, wrap64, resOf_box, aField]
  by_cases e1 : ny = 0
  ·simp (disch := omega) [q0, q5, q6, h2, wrap64, e1]
   exact key2 _ (by simp [q0]) (by simp [q4]) (by simp [q5, e1]) (by simp [e1])
  by_cases e2 : ny = 2 * X.2.1
  ·simp (disch := omega) [q0, q5, q6, h2, wrap64, e1, e2, n2, n4]
   exact key2 _ (by simp [q0]) (by simp [q4]) (by simp [q5, e2]) (by simp [e2])
  simp (disch := omega) [q0, q5, q6, h2, wrap64, e1, e2]
  exact key2 _ (by simp [q0]) (by simp [q4]) (by simp [q5]) (by simp [q6, e1, e2])
 by_cases e1 : nx = 0
 ·simp (disch := omega) [h1, wrap64, e1]
  exact key _ (by simp) (by simp) (by simp [e1]) (by simp [e1])
 by_cases e2 : nx = 2 * X.1
 ·simp (disch := omega) [h1, wrap64, e1, e2, n1, n3]
  exact key _ (by simp) (by simp) (by simp [e2]) (by simp [e2])
 simp (disch := omega) [h1, wrap64, e1, e2]
 exact key _ (by simp) (by simp) (by simp) (by simp [e1, e2])
theorem c51 (h : Heap) (W H : Int) (s : Value) (w : 1 ≤ W ∧ W ≤ 8) (hh : 1 ≤ H ∧ H ≤ 8) : ACall Gam 51 [.agg #[I W, I H, s]] h fun r h' => r = I (4 * W.toNat * H.toNat : Nat) ∧ h' = h := by
 have b : 0 ≤ W * H ∧ W * H ≤ 8 * 8 := ⟨Int.mul_nonneg (by omega) (by omega), Int.mul_le_mul (by omega) (by omega) (by omega) (by omega)⟩
 have w1 : (W.toNat : Int) = W := by omega
 have w2 : (H.toNat : Int) = H := by omega
 have w3 : max W 0 = W := by omega
 have w4 : max H 0 = H := by omega
 refine ACall_intro g51 rfl ?_
 unfold fn51
 simp (disch := omega) [wrap64, Int.mul_assoc, w1, w2, w3, w4]
theorem c50 (h : Heap) (W H : Int) (s : Value) (x y dx dy : Int) (w : 1 ≤ W ∧ W ≤ 8) (hh : 1 ≤ H ∧ H ≤ 8) (hw : OkW W.toNat H.toNat (x, y, dx, dy)) : ACall Gam 50 [.agg #[I W, I H, s], .agg #[I x, I y, I dx, I dy]] h fun r h' => r = I (segW H.toNat (x, y, dx, dy)) ∧ h' = h := by
 have hc := seg_cast hw
 obtain ⟨⟨s1, s2⟩, s3, s4⟩ := seg_bd hw
 obtain ⟨d1, d2, p1, p2, p3, p4, p5⟩ := hw
 simp only at *
 have w2 : (H.toNat : Int) = H := by omega
 have w1 : (W.toNat : Int) = W := by omega
 rw [w2] at hc
 rw [hc]
 have bm : ∀ a : Int, 0 ≤ a → a ≤ 17 → 0 ≤ a * (2 * H) ∧ a * (2 * H) ≤ 17 * (2 * 8) := fun a h1 h2 => ⟨Int.mul_nonneg (by omega) (by omega), Int.mul_le_mul (by omega) (by omega) (by omega) (by omega)⟩
 have e1 : aMin [I x, I (x + dx)] = some (I (minI x (x + dx))) := by
  show some (I (if x + dx < x then x + dx else x)) = _
  congr 2; unfold minI; split <;> split <;> omega
 have e2 : aMin [I y, I (y + dy)] = some (I (minI y (y + dy))) := by
  show some (I (if y + dy < y then y + dy else y)) = _
  congr 2; unfold minI; split <;> split <;> omega
 have b1 := bm (minI x (x + dx)) (by omega) (by omega)
 refine ACall_intro g50 rfl ?_
 unfold fn50
 simp (disch := omega)
 refine callW_of (c58 h x y dx dy (by omega) (by omega) (by omega) (by omega)) ?_
 rintro _ h' ⟨rfl, rfl⟩
 simp (disch := omega) [wrap64, Int.mul_assoc, e1, e2]
theorem c56 (h : Heap) (W H : Int) (s : Value) (k : Nat) (w : 1 ≤ W ∧ W ≤ 8) (hh : 1 ≤ H ∧ H ≤ 8) (hk : k < 4 * W.toNat * H.toNat) : ACall Gam 56 [.agg #[I W, I H, s], I k] h fun r h' => r = wv (wkW H.toNat k) ∧ h' = h := by
 have w2 : (H.toNat : Int) = H := by omega
 have b : k < 256 := by
  have : 4 * W.toNat * H.toNat ≤ 4 * 8 * 8 := Nat.mul_le_mul (by omega) (by omega)
  omega
 have t1 : (k : Int).tdiv (2 * H) = ((k / (2 * H.toNat) : Nat) : Int) := by
  rw [show (2 * H : Int) = ((2 * H.toNat : Nat) : Int) by omega]; rfl
 have t2 : (k : Int).tmod (2 * H) = ((k % (2 * H.toNat) : Nat) : Int) := by
  rw [show (2 * H : Int) = ((2 * H.toNat : Nat) : Int) by omega]; rfl
 have q1 : k / (2 * H.toNat) ≤ 256 := by have := Nat.div_le_self k (2 * H.toNat); omega
 have q2 : k % (2 * H.toNat) < 2 * H.toNat := Nat.mod_lt _ (by omega)
 have h0 : ¬ 2 * H = 0 := by omega
 have h0' : ¬ H = 0 := by omega
 unfold wkW
 obtain ⟨q, eq⟩ : ∃ q, q = k / (2 * H.toNat) := ⟨_, rfl⟩
 obtain ⟨r, er⟩ : ∃ r, r = k % (2 * H.toNat) := ⟨_, rfl⟩
 rw [← eq] at t1 q1 ⊢
 rw [← er] at t2 q2 ⊢
 have t3 : ((q : Int) + r).tmod 2 = (((q + r) % 2 : Nat) : Int) := rfl
 refine ACall_intro g56 rfl ?_
 unfold fn56
 simp (disch := omega) [wrap64, t1, t2, h0, h0']
 by_cases e : (q + r) % 2 = 1
 ·rw [if_pos e]
  have t3 : ((q : Int) + r).tmod 2 = 1 := by rw [t3, e]; rfl
  simp (disch := omega) [t3, wrap64, resOf_box, aField, wv]
 ·rw [if_neg e]
  have t3 : ¬ ((q : Int) + r).tmod 2 = 1 := by rw [t3]; omega
  simp (disch := omega) [t3, wrap64, resOf_box, aField, wv]
theorem c54 (h : Heap) (W H : Int) (br : List Int) (s : Value) (x y dx dy : Int) (ok : OkP (W, H, br)) (hr : Vr h shInts s br) (hw : OkW W.toNat H.toNat (x, y, dx, dy)) : ACall Gam 54 [.agg #[I W, I H, s], .agg #[I x, I y, I dx, I dy]] h fun r h' => (∃ t, r = .tuple #[wv (stepW W.toNat H.toNat br (x, y, dx, dy)), B t]) ∧ h' = h := by
 obtain ⟨b2, o2, z2, rfl, _, hm, _, hc⟩ := hr.ints
 obtain ⟨w, hh, hn, _⟩ := ok
 obtain ⟨d1, d2, p1, p2, p3, p4, p5⟩ := hw
 simp only at *
 have n1 : ¬ 2 * W = 0 := by omega
 have n2 : ¬ 2 * H = 0 := by omega
 have n3 : ¬ W = 0 := by omega
 have n4 : ¬ H = 0 := by omega
 have w2 : (H.toNat : Int) = H := by omega
 have w1 : (W.toNat : Int) = W := by omega
 refine ACall_intro g54 rfl ?_
 unfold fn54
 rw [awp_seq, awp_reg]
 generalize hK : seqQ Gam _ _ 0 = K
 simp (disch := omega)
 subst hK
 simp only [seqQ_zero]
 rw [awp_seq, awp_reg]
 generalize hK : seqQ Gam _ _ 0 = K
 simp (disch := omega)
 refine callW_of (c58 h x y dx dy (by omega) (by omega) (by omega) (by omega)) ?_
 rintro _ h' ⟨rfl, rfl⟩
 simp (disch := omega)
 subst hK
 simp only [seqQ_zero]
 rw [awp_seq, awp_reg]
 generalize hK : seqQ Gam _ _ 0 = K
 simp (disch := omega)
 subst hK
 simp only [seqQ_zero]
 rw [awp_seq, awp_reg]
 generalize hK : seqQ Gam _ _ 0 = K
 simp (disch := omega)
 obtain ⟨nx, enx⟩ : ∃ nx, nx = x + dx := ⟨_, rfl⟩
 obtain ⟨ny, eny⟩ : ∃ ny, ny = y + dy := ⟨_, rfl⟩
 have es : wv (stepW W.toNat H.toNat br (x, y, dx, dy)) = .agg #[I nx, I ny, I (if nx = 0 ∨ nx = 2 * W ∨ kindW W.toNat H.toNat br nx ny = 1 then -dx else dx), I (if ny = 0 ∨ ny = 2 * H ∨ kindW W.toNat H.toNat br nx ny = 2 then -dy else dy)] := by
  simp only [stepW, wv, enx, eny, w1, w2]
 rw [es] at hK
 rw [← enx] at p3 ⊢
 rw [← eny] at p4 ⊢
 have c4 := c34 h' W H nx ny (sl b2 o2 br.length z2) w hh
 obtain ⟨k, ek⟩ : ∃ k, k = kindW W.toNat H.toNat br nx ny := ⟨_, rfl⟩
 rw [← ek] at hK
 subst hK
 simp only [seqQ_zero]
 rw [awp_seq]
 generalize hK : seqQ Gam _ _ = K
 have key : ∀ σ' : Nat → Value, σ' 2 = .agg #[I W, I H, sl b2 o2 br.length z2] → σ' 3 = .agg #[I x, I y, I dx, I dy] → σ' 4 = .agg #[I 0, I 0, I 0, I 0] → σ' 6 = .agg #[I nx, I ny] → σ' 7 = .agg #[I nx, I ny, I dx, I dy] → σ' 8 = I k → K 0 σ' h' := by
  intro σ q2 q3 q4 q6 q7 q8
  subst hK
  simp only [seqQ_zero]
  rw [awp_seq]
  generalize hK : seqQ Gam _ _ = K
  have key2 : ∀ σ' : Nat → Value, σ' 2 = .agg #[I W, I H, sl b2 o2 br.length z2] → σ' 3 = .agg #[I x, I y, I dx, I dy] → σ' 4 = .agg #[I 0, I 0, I 0, I 0] → σ' 6 = .agg #[I nx, I ny] → σ' 7 = .agg #[I nx, I ny, I (if nx = 0 ∨ nx = 2 * W ∨ k = 1 then -dx else dx), I dy] → σ' 8 = I k → K 0 σ' h' := by
   intro σ q2 q3 q4 q6 q7 q8
   subst hK
   simp only [seqQ_zero]
   rw [awp_seq]
   generalize hK : seqQ Gam _ _ = K
   have key3 : ∀ σ' : Nat → Value, σ' 3 = .agg #[I x, I y, I dx, I dy] → σ' 4 = .agg #[I 0, I 0, I 0, I 0] → σ' 7 = .agg #[I nx, I ny, I (if nx = 0 ∨ nx = 2 * W ∨ k = 1 then -dx else dx), I (if ny = 0 ∨ ny = 2 * H ∨ k = 2 then -dy else dy)] → K 0 σ' h' := by
    intro σ q3 q4 q7
    subst hK
    simp only [seqQ_zero]
    generalize (if nx = 0 ∨ nx = 2 * W ∨ k = 1 then -dx else dx) = D at *
    generalize (if ny = 0 ∨ ny = 2 * H ∨ k = 2 then -dy else dy) = E at *
    by_cases e1 : D = dx
    ·by_cases e2 : E = dy
     ·simp (disch := omega) [q3, q4, q7, e1, e2, resOf, resAll, resOne, aField]
     ·simp (disch := omega) [q3, q4, q7, e1, e2, resOf, resAll, resOne, aField]
    ·simp (disch := omega) [q3, q4, q7, e1, resOf, resAll, resOne, aField]
   by_cases e1 : ny = 0
   ·simp (disch := omega) [q2, q3, q4, q6, q7, q8, wrap64, e1]
    exact key3 _ (by simp [q3]) (by simp [q4]) (by simp [e1])
   by_cases e2 : ny = 2 * H
   ·simp (disch := omega) [q2, q3, q4, q6, q7, q8, wrap64, e1, e2, n2, n4]
    exact key3 _ (by simp [q3]) (by simp [q4]) (by simp [e2])
   by_cases e3 : k = 2
   ·simp (disch := omega) [q2, q3, q4, q6, q7, q8, wrap64, e1, e2, e3, n2, n4]
    exact key3 _ (by simp [q3]) (by simp [q4]) (by simp [e3])
   simp (disch := omega) [q2, q3, q4, q6, q7, q8, wrap64, e1, e2, e3, n2, n4]
   exact key3 _ (by simp [q3]) (by simp [q4]) (by simp [q7, e1, e2, e3])
  by_cases e1 : nx = 0
  ·simp (disch := omega) [q2, q3, q4, q6, q7, q8, wrap64, e1]
   exact key2 _ (by simp [q2]) (by simp [q3]) (by simp [q4]) (by simp [q6, e1]) (by simp [e1]) (by simp [q8])
  by_cases e2 : nx = 2 * W
  ·simp (disch := omega) [q2, q3, q4, q6, q7, q8, wrap64, e1, e2, n1, n3]
   exact key2 _ (by simp [q2]) (by simp [q3]) (by simp [q4]) (by simp [q6, e2]) (by simp [e2]) (by simp [q8])
  by_cases e3 : k = 1
  ·simp (disch := omega) [q2, q3, q4, q6, q7, q8, wrap64, e1, e2, e3, n1, n3]
   exact key2 _ (by simp [q2]) (by simp [q3]) (by simp [q4]) (by simp [q6]) (by simp [e3]) (by simp [q8, e3])
  simp (disch := omega) [q2, q3, q4, q6, q7, q8, wrap64, e1, e2, e3, n1, n3]
  exact key2 _ (by simp [q2]) (by simp [q3]) (by simp [q4]) (by simp [q6]) (by simp [q7, e1, e2, e3]) (by simp [q8])
 by_cases E : edgeW W.toNat H.toNat nx ny
 ·have k0 : k = 0 := by rw [ek]; exact kindW_edge E
  rw [decide_eq_true E] at c4
  simp (disch := omega)
  refine callW_of c4 ?_
  rintro _ h'' ⟨rfl, rfl⟩
  simp (disch := omega)
  exact key _ (by simp) (by simp) (by simp) (by simp) (by simp) (by simp [k0])
 ·have ek' : k = at0 br (numP W.toNat nx.toNat ny.toNat) := by rw [ek]; exact if_neg E
  have E' : ¬ (nx = 0 ∨ nx = 2 * W ∨ ny = 0 ∨ ny = 2 * H) := by
   intro e; apply E; unfold edgeW; rw [w1, w2]; exact e
  rw [decide_eq_false E] at c4
  have b1 : (nx.toNat : Int) = nx := by omega
  have b2' : (ny.toNat : Int) = ny := by omega
  have hnum := numP_lt (W := W.toNat) (H := H.toNat) (x := nx.toNat) (y := ny.toNat) (by omega) (by omega) (by omega)
  have hl : rowN W.toNat (2 * H.toNat) = br.length := by
   have := rowN_end (W := W.toNat) (by omega) (H := H.toNat) (by omega) (by omega) (by omega)
   rw [w1, w2] at this
   have h3 : inner W H = W * (H - 1) + H * (W - 1) := rfl
   omega
  rw [hl] at hnum
  have hcell := ints_cell hc hnum
  rw [← at0_of hnum, ← ek'] at hcell
  have c5 := c40 h' W.toNat H.toNat nx.toNat ny.toNat (sl b2 o2 br.length z2) (by omega) (by omega) (by omega) (by omega) (by omega)
  rw [b1, b2', w1, w2] at c5
  simp (disch := omega)
  refine callW_of c4 ?_
  rintro _ h'' ⟨rfl, rfl⟩
  simp (disch := omega)
  refine callW_of c5 ?_
  rintro _ h'' ⟨rfl, rfl⟩
  simp (disch := omega) [hnum, hcell]
  exact key _ (by simp) (by simp) (by simp) (by simp) (by simp) (by simp)
/-- Two slices have no block in common. -/
def Apart (v w : Value) : Prop := ∀ b c n m z y, v = sl b 0 n z → w = sl c 0 m y → b = c → b = 0
theorem Apart.symm {v w : Value} (a : Apart v w) : Apart w v := fun b c n m z y h1 h2 e => by
 have := a c b m n y z h2 h1 e.symm; omega
/-- Appending to an own slice: what it becomes, and what stays. -/
theorem append_own {H0 B0 h : Heap} {v x : Value} {z : Nat} {cs new : List Value} {k : Value → Heap → Prop} (hp : 0 < B0.length) (g : Grows H0 h) (hB : H0.length ≤ B0.length) (hBh : B0.length ≤ h.length) (hv : Buf B0 h v z cs) (hn : newCells z h x = some new) (hz : 0 < z) (hne : new ≠ []) (hm : new.length / z * z = new.length)
  (hmax : cs.length + new.length ≤ maxSize) (hk : ∀ n' h', Grows H0 h' → h.length < h'.length → n' * z = (cs ++ new).length → h'[h.length]? = some ⟨cs ++ new, true⟩ → (∀ c kk, h[c]? = some kk → (∀ n, v ≠ sl c 0 n z) → h'[c]? = some kk) → k (sl h.length 0 n' z) h') : bindW (aAppend z h x v) k := by
 rcases hv with ⟨rfl, rfl⟩ | ⟨b, n, rfl, h2, h3, h4⟩
 ·have e : aAppend z h x (sl 0 0 0 z) = some (sl h.length 0 (new.length / z) z, h ++ [⟨new, true⟩]) := by
   simp only [aAppend, hn]
   rw [if_neg (by omega), if_neg hne, if_neg (by simp at hmax; omega), if_pos trivial]
  rw [e]
  exact hk _ _ (g.push _) (by simp) hm (by simp) fun c kk hc _ => push_at hc
 ·have hnz : n ≤ cs.length := by rw [← h2]; exact Nat.le_mul_of_pos_right n hz
  have e : aAppend z h x (sl b 0 n z) = some (sl h.length 0 (n + new.length / z) z, h.set b ⟨[], false⟩ ++ [⟨cs ++ new, true⟩]) := by
   simp only [aAppend, hn]
   rw [if_neg (by omega), if_neg hne, if_neg (by omega), if_neg (by omega)]
   simp only [h4]
   rw [if_pos ⟨trivial, trivial⟩, cellsAt_all h4 h2]
  rw [e]
  have hb := at_lt h4
  refine hk _ _ ((g.put (by omega) _).push _) (by simp) (by rw [Nat.add_mul, hm, h2]; simp) (by simp) fun c kk hc hne' => ?_
  exact push_at (put_at hc fun e => hne' n (by rw [e]))
/-- A second own slice beside it. -/
theorem Buf.keep {B0 h h' : Heap} {v w : Value} {z y : Nat} {cs : List Value} (hp : 0 < B0.length) (hw : Buf B0 h w y cs) (a : Apart v w) (fr : ∀ c kk, h[c]? = some kk → (∀ n, v ≠ sl c 0 n z) → h'[c]? = some kk) : Buf B0 h' w y cs := by
 rcases hw with ⟨rfl, rfl⟩ | ⟨b, n, rfl, h2, h3, h4⟩
 ·exact .inl ⟨rfl, rfl⟩
 ·refine .inr ⟨b, n, rfl, h2, h3, fr b _ h4 fun m e => ?_⟩
  have := a b b m n z y e rfl rfl
  omega
theorem buf_new {B0 h h' : Heap} {n z : Nat} {cs : List Value} (hBh : B0.length ≤ h.length) (hn : n * z = cs.length) (hk : h'[h.length]? = some ⟨cs, true⟩) : Buf B0 h' (sl h.length 0 n z) z cs := .inr ⟨h.length, n, rfl, hn, hBh, hk⟩
theorem c462 (h : Heap) (v : Value) (X : Pan) (k : Nat) (hv : PtP h v X) (ok : OkP X) (hk : k < 4 * X.1.toNat * X.2.1.toNat) : ACall Gam 462 [v, I k] h fun r h' => r = wv (wkW X.2.1.toNat k) ∧ h' = h := by
 obtain ⟨b, o, s, rfl, h1, h2, h3, hr, _⟩ := hv
 obtain ⟨w, hh, hn, _⟩ := ok
 obtain ⟨H, eH⟩ : ∃ H, H = X.2.1 := ⟨_, rfl⟩
 rw [← eH] at h2 hh hk ⊢
 have w2 : (H.toNat : Int) = H := by omega
 have b0 : k < 256 := by
  have : 4 * X.1.toNat * H.toNat ≤ 4 * 8 * 8 := Nat.mul_le_mul (by omega) (by omega)
  omega
 have e0 : H * 2 = ((2 * H.toNat : Nat) : Int) := by omega
 have t1 : (k : Int).tdiv (H * 2) = ((k / (2 * H.toNat) : Nat) : Int) := by rw [e0]; rfl
 have t2 : (k : Int).tmod (H * 2) = ((k % (2 * H.toNat) : Nat) : Int) := by rw [e0]; rfl
 have f1 : (k : Int) / (2 * H) = ((k / (2 * H.toNat) : Nat) : Int) := by rw [Int.mul_comm, e0]; rfl
 have f2 : (k : Int) % (2 * H) = ((k % (2 * H.toNat) : Nat) : Int) := by rw [Int.mul_comm, e0]; rfl
 have q1 : k / (2 * H.toNat) ≤ 256 := by have := Nat.div_le_self k (2 * H.toNat); omega
 have q2 : k % (2 * H.toNat) < 2 * H.toNat := Nat.mod_lt _ (by omega)
 have h0 : ¬ H * 2 = 0 := by omega
 have h0' : ¬ H = 0 := by omega
 unfold wkW
 obtain ⟨q, eq⟩ : ∃ q, q = k / (2 * H.toNat) := ⟨_, rfl⟩
 obtain ⟨r, er⟩ : ∃ r, r = k % (2 * H.toNat) := ⟨_, rfl⟩
 rw [← eq] at t1 f1 q1 ⊢
 rw [← er] at t2 f2 q2 ⊢
 refine ACall_intro g462 rfl ?_
 unfold fn462
 rw [awp_seq, awp_reg]
 generalize hK : seqQ Gam _ _ 0 = K
 simp (disch := omega)
 subst hK
 simp only [seqQ_zero]
 rw [awp_seq, awp_reg]
 generalize hK : seqQ Gam _ _ 0 = K
 simp (disch := omega) [h2, wrap64, t1, f1, h0, h0']
 subst hK
 simp only [seqQ_zero]
 rw [awp_seq, awp_reg]
 generalize hK : seqQ Gam _ _ 0 = K
 simp (disch := omega) [h2, wrap64, t2, f2, h0, h0']
 have key : ∀ σ : Nat → Value, σ 4 = .agg #[I 0, I 0, I 0, I 0] → σ 5 = I q → σ 6 = I r → K σ h := by
  clear eq er t1 t2 f1 f2
  intro σ q4 q5 q6
  subst hK
  simp only [seqQ_zero]
  have t3 : (q : Int).tmod 2 = ((q % 2 : Nat) : Int) := rfl
  have t4 : (r : Int).tmod 2 = ((r % 2 : Nat) : Int) := rfl
  have t5 : (r : Int).tdiv 2 = ((r / 2 : Nat) : Int) := rfl
  have t6 : ((r : Int) + 1).tdiv 2 = (((r + 1) / 2 : Nat) : Int) := rfl
  by_cases e : q % 2 = 0
  ·have t3 : (q : Int).tmod 2 = 0 := by rw [t3, e]; rfl
   by_cases e' : r % 2 = 0
   ·have t4 : (r : Int).tmod 2 = 0 := by rw [t4, e']; rfl
    rw [if_neg (by omega)]
    have a1 : (r : Int).tdiv 2 * 2 + 1 = r + 1 := by rw [t5]; omega
    have a2 : 0 ≤ (r : Int).tdiv 2 ∧ (r : Int).tdiv 2 ≤ 100 := by rw [t5]; omega
    simp (disch := omega) [q4, q5, q6, wrap64, t3, t4, a1, resOf_box, aField, wv]
    try omega
   ·have t4 : (r : Int).tmod 2 = 1 := by rw [t4]; omega
    rw [if_pos (by omega)]
    have a1 : (r : Int).tdiv 2 * 2 + 1 = r := by rw [t5]; omega
    have a2 : 0 ≤ (r : Int).tdiv 2 ∧ (r : Int).tdiv 2 ≤ 100 := by rw [t5]; omega
    simp (disch := omega) [q4, q5, q6, wrap64, t3, t4, a1, resOf_box, aField, wv]
    try omega
  ·have t3 : ¬ (q : Int).tmod 2 = 0 := by rw [t3]; omega
   have a2 : 0 ≤ ((r : Int) + 1).tdiv 2 ∧ ((r : Int) + 1).tdiv 2 ≤ 100 := by rw [t6]; omega
   by_cases e' : r % 2 = 0
   ·have t4 : ¬ (r : Int).tmod 2 = 1 := by rw [t4]; omega
    have a1 : ((r : Int) + 1).tdiv 2 * 2 = r := by rw [t6]; omega
    rw [if_pos (by omega)]
    simp (disch := omega) [q4, q5, q6, wrap64, t3, t4, a1, resOf_box, aField, wv]
    try omega
   ·have t4 : (r : Int).tmod 2 = 1 := by rw [t4]; omega
    have a1 : ((r : Int) + 1).tdiv 2 * 2 = r + 1 := by rw [t6]; omega
    rw [if_neg (by omega)]
    simp (disch := omega) [q4, q5, q6, wrap64, t3, t4, a1, resOf_box, aField, wv]
    try omega
 refine key _ (by simp) (by simp) ?_
 simp
 rw [Int.mul_comm]; exact t2
/-- Appending one element to an own slice. -/
theorem app1 {H0 B0 h : Heap} {v : Value} {z : Nat} {cs new : List Value} {k : Value → Heap → Prop} (hp : 0 < B0.length) (g : Grows H0 h) (hB : H0.length ≤ B0.length) (hBh : B0.length ≤ h.length) (hv : Buf B0 h v z cs) (hl : new.length = z) (hz : 0 < z) (hmax : cs.length + z ≤ maxSize)
  (hk : ∀ v' h', Grows H0 h' → h.length ≤ h'.length → Buf B0 h' v' z (cs ++ new) → (∀ b n y, v' = sl b 0 n y → h.length < b) → (∀ c kk, h[c]? = some kk → (∀ n, v ≠ sl c 0 n z) → h'[c]? = some kk) → k v' h') : bindW (aAppend z (h ++ [⟨new, true⟩]) (sl h.length 0 1 z) v) k := by
 have gp : Grows h (h ++ [⟨new, true⟩]) := ⟨_, rfl⟩
 have hne : new ≠ [] := by intro e; rw [e] at hl; simp at hl; omega
 have hn : newCells z (h ++ [⟨new, true⟩]) (sl h.length 0 1 z) = some new := by
  simp [newCells]
  rw [cellsAt_of (k := ⟨new, true⟩) (by simp) (by simp; omega)]
  simp [← hl]
 refine append_own hp (g.trans gp) hB (by simp; omega) (hv.grow gp) hn hz hne (by rw [hl, Nat.div_self hz]; omega) (by omega) ?_
 intro n' h' g' hlt hn' hc fr
 refine hk _ h' g' (by simp at hlt; omega) (buf_new (by simp; omega) hn' hc) ?_ ?_
 ·intro b n y e
  simp [sl] at e
  omega
 ·intro c kk hck hne'
  exact fr c kk (push_at hck) hne'
theorem apart_of {B0 h : Heap} {v w : Value} {y : Nat} {cs : List Value} (hp : 0 < B0.length) (hw : Buf B0 h w y cs) (hv : ∀ b n y, v = sl b 0 n y → h.length < b) : Apart v w := by
 intro b c n1 m z1 y1 h1 h2 e
 have := hv b n1 z1 h1
 rcases hw with ⟨rfl, rfl⟩ | ⟨b2, n2, rfl, _, _, h4⟩
 ·simp [sl] at h2 <;> omega
 ·have := at_lt h4
  simp [sl] at h2 <;> omega
/-- The segments that a walk passes. -/
def segsW (f : Wk → Wk) (H : Nat) (w : Wk) (k : Nat) : List Int := (List.range k).map fun j => (segW H (itW f j w) : Int)
theorem c466 (h : Heap) (hp : 0 < h.length) (v : Value) (X : Pan) (w : Wk) (hv : PtP h v X) (ok : OkP X) (hw : OkW X.1.toNat X.2.1.toNat w) : ACall Gam 466 [v, wv w] h fun r h' => Grows h h' ∧ ∃ r0 r1, r = .tuple #[r0, r1] ∧ Buf h h' r1 1 (ints (segsW (stepW X.1.toNat X.2.1.toNat X.2.2) X.2.1.toNat w (perW (stepW X.1.toNat X.2.1.toNat X.2.2) w))) ∧ ∃ b n, r0 = sl b 0 n 2 := by
 have A := walks (W := X.1.toNat) (H := X.2.1.toNat) (br := X.2.2) (by have := ok.w; omega) (by have := ok.h; omega)
 obtain ⟨P1, P2, P3, P4⟩ := A.per hw
 obtain ⟨f, ef⟩ : ∃ f, f = stepW X.1.toNat X.2.1.toNat X.2.2 := ⟨_, rfl⟩
 rw [← ef] at A P1 P2 P3 P4 ⊢
 have hN : 4 * X.1.toNat * X.2.1.toNat ≤ 4 * 8 * 8 := Nat.mul_le_mul (by have := ok.w; omega) (by have := ok.h; omega)
 obtain ⟨n, en⟩ : ∃ n, n = perW f w := ⟨_, rfl⟩
 rw [← en] at P1 P2 P3 P4 ⊢
 refine ACall_intro g466 rfl ?_
 unfold fn466
 simp (disch := omega) [wv]
 refine awp_loop (fun (k : Nat) σ h' => k ≤ n ∧ Grows h h' ∧ σ 0 = v ∧ σ 3 = wv w ∧ σ 8 = wv (itW f k w) ∧ Buf h h' (σ 7) 1 (ints (segsW f X.2.1.toNat w k)) ∧ Apart (σ 6) (σ 7) ∧ ∃ P, Buf h h' (σ 6) 2 P ∧ P.length = 2 * k) (fun k => n - k) 0 ?_ ?_
 ·refine ⟨by omega, Grows.refl _, by simp, by simp [wv], by simp [wv, itW], by simpa [segsW, ints] using Buf.nil, ?_, [], by simpa using Buf.nil, rfl⟩
  intro b c n m z y h1 h2 e
  simp [sl] at h1; omega
 ·rintro k σ h' ⟨hk, g, q0, q3, q8, bs, ap, P, bp, hP⟩
  have hwk := A.vi hw k
  have okk := hwk
  obtain ⟨b1, n1, rfl1⟩ : ∃ b n, σ 6 = sl b 0 n 2 ∧ n * 2 = P.length := by
   rcases bp with ⟨e1, e2⟩ | ⟨b, n, e1, e2, _⟩
   ·exact ⟨0, 0, e2, by rw [e1]; rfl⟩
   ·exact ⟨b, n, e1, e2⟩
  obtain ⟨rfl1, en1⟩ := rfl1
  have en1 : n1 = k := by omega
  subst en1
  have inj : ∀ a b : Wk, wv a = wv b → a = b := by
   rintro ⟨_, _, _, _⟩ ⟨_, _, _, _⟩ e
   simp [wv] at e
   obtain ⟨rfl, rfl, rfl, rfl⟩ := e; rfl
  obtain ⟨u, eu⟩ : ∃ u, u = itW f n1 w := ⟨_, rfl⟩
  rw [← eu] at q8 hwk okk
  rw [awp_seq]
  generalize hK : seqQ Gam _ _ = K
  have key : n1 < n → ∀ σ' : Nat → Value, σ' 0 = v → σ' 3 = wv w → σ' 8 = wv u → σ' 6 = sl b1 0 n1 2 → σ' 7 = σ 7 → K 0 σ' h' := by
   intro hkn σ' p0 p3 p8 p6 p7
   subst hK
   simp only [seqQ_zero]
   obtain ⟨ux, uy, udx, udy⟩ := u
   simp only [wv] at p8 q8
   have ok1 := okk
   obtain ⟨d1, d2, d3, d4, d5, d6, d7⟩ := ok1
   simp only at d1 d2 d3 d4 d5 d6 d7
   simp (disch := omega) [p0, p8, p6]
   rw [rfl1] at ap
   have bp' := bp
   rw [rfl1] at bp'
   have eb : aBuildSlice 2 1 h' [(0, .agg #[I 0, I 0]), (2, .agg #[I ux, I uy])] = some (sl h'.length 0 1 2, h' ++ [⟨[I ux, I uy], true⟩]) := by simp [aBuildSlice]
   rw [eb]
   simp only [bindW_some]
   have hle := g.le
   refine app1 hp g (Nat.le_refl _) hle bp' (by simp) (by omega) (by simp [maxSize]; omega) fun v2 h2 g2 l2 b2 n2 fr2 => ?_
   have bs2 := bs.keep hp ap fr2
   have ap2 := apart_of hp bs n2
   refine callW_of (c460 h2 v X ux uy udx udy (hv.grow g2) ok okk) ?_
   rintro _ h3 ⟨rfl, rfl⟩
   refine ⟨fun e => (by cases e), ?_⟩
   have eb : aBuildSlice 1 1 h3 [(0, .agg #[I 0]), (1, I (segW X.2.1.toNat (ux, uy, udx, udy)))] = some (sl h3.length 0 1 1, h3 ++ [⟨[I (segW X.2.1.toNat (ux, uy, udx, udy))], true⟩]) := by simp [aBuildSlice]
   rw [eb, p7]
   simp only [bindW_some]
   have hsl : (segsW f X.2.1.toNat w n1).length = n1 := by simp [segsW]
   refine app1 hp g2 (Nat.le_refl _) g2.le bs2 (by simp) (by omega) (by simp [hsl, ints, maxSize]; omega) fun v4 h4 g4 l4 b4 n4 fr4 => ?_
   have b24 := b2.keep hp ap2.symm fr4
   have ap4 := apart_of hp b2 n4
   refine callW_of (c461 h4 v X ux uy udx udy (hv.grow g4) ok okk) ?_
   rintro _ h5 ⟨rfl, rfl⟩
   refine ⟨fun e => (by cases e), ?_⟩
   obtain ⟨a, b, c, d, eabcd⟩ : ∃ a b c d, stepW X.1.toNat X.2.1.toNat X.2.2 (ux, uy, udx, udy) = (a, b, c, d) := ⟨_, _, _, _, rfl⟩
   rw [eabcd]
   simp (disch := omega) [wv]
   refine ⟨n1 + 1, ⟨by omega, g4, p3, ?_, ?_, ap4.symm, _, b24, ?_⟩, by omega⟩
   ·have e9 : itW f (n1 + 1) w = (a, b, c, d) := by show f (itW f n1 w) = _; rw [← eu, ef]; exact eabcd
    simp [e9]
   ·have : segsW f X.2.1.toNat w (n1 + 1) = segsW f X.2.1.toNat w n1 ++ [(segW X.2.1.toNat (ux, uy, udx, udy) : Int)] := by
     simp [segsW, List.range_succ, ← eu]
    rw [this]
    simpa [ints] using b4
   ·simp; omega
  by_cases e0 : n1 = 0
  ·simp (disch := omega) [q3, q8, rfl1, e0]
   exact key (by omega) _ (by simp [q0]) (by simp [q3]) (by simp [q8]) (by simp [rfl1]) (by simp)
  ·by_cases e1 : n1 < n
   ·have ne : u ≠ w := by rw [eu]; exact P4 n1 (by omega) e1
    obtain ⟨ux, uy, udx, udy⟩ := u
    obtain ⟨wx, wy, wdx, wdy⟩ := w
    simp only [wv] at q8 q3
    have en : aAgg .neq 4 [I ux, I uy, I udx, I udy] [I wx, I wy, I wdx, I wdy] = some (.bool true) := by
     by_cases h1 : ux = wx <;> by_cases h2 : uy = wy <;> by_cases h3 : udx = wdx <;> by_cases h4 : udy = wdy <;> simp [aAgg, eqCells, h1, h2, h3, h4]
     subst h1; subst h2; subst h3; subst h4; exact absurd rfl ne
    simp (disch := omega) [q3, q8, rfl1, e0, en]
    exact key (by omega) _ (by simp [q0]) (by simp [q3, wv]) (by simp [q8, wv]) (by simp [rfl1]) (by simp)
   ·have e : n1 = n := by omega
    have eq : u = w := by rw [eu, e]; exact P3
    subst eq
    obtain ⟨wx, wy, wdx, wdy⟩ := u
    simp only [wv] at q8 q3
    have en : aAgg .neq 4 [I wx, I wy, I wdx, I wdy] [I wx, I wy, I wdx, I wdy] = some (.bool false) := by simp [aAgg, eqCells]
    obtain ⟨b3, n3, rfl3⟩ : ∃ b n, σ 7 = sl b 0 n 1 := by
     rcases bs with ⟨e1, e2⟩ | ⟨b, n, e1, _⟩
     ·exact ⟨0, 0, e2⟩
     ·exact ⟨b, n, e1⟩
    rw [rfl3] at bs
    simp (disch := omega) [q3, q8, rfl1, e0, en]
    subst hK
    simp (disch := omega) [rfl1, rfl3]
    rw [e] at bs
    exact ⟨g, _, _, ⟨rfl, rfl⟩, bs, _, _, rfl⟩
theorem Buf.ne {B0 h : Heap} {v : Value} {z y c : Nat} {cs : List Value} (x : Buf B0 h v z cs) (h0 : 0 < c) (hc : c < B0.length) : ∀ n, v ≠ sl c 0 n y := by
 intro n e
 rcases x with ⟨_, e2⟩ | ⟨b, m, e2, _, e3, _⟩
 ·rw [e2] at e; simp [sl] at e <;> omega
 ·rw [e2] at e; simp [sl] at e <;> omega
theorem Buf.put {B0 h : Heap} {v : Value} {z c : Nat} {cs : List Value} {k : Blk} (x : Buf B0 h v z cs) (hc : c < B0.length) : Buf B0 (h.set c k) v z cs := by
 rcases x with ⟨e1, e2⟩ | ⟨b, m, e2, e3, e4, e5⟩
 ·exact .inl ⟨e1, e2⟩
 ·exact .inr ⟨b, m, e2, e3, e4, put_at e5 (by omega)⟩
theorem Buf.sl1 {B0 h : Heap} {v : Value} {cs : List Value} (x : Buf B0 h v 1 cs) : ∃ b, v = sl b 0 cs.length 1 := by
 rcases x with ⟨e1, e2⟩ | ⟨b, m, e2, e3, e4, e5⟩
 ·exact ⟨0, by rw [e1]; exact e2⟩
 ·exact ⟨b, by rw [e2]; congr 1; omega⟩
theorem Buf.at1 {B0 h : Heap} {b n : Nat} {cs : List Value} (x : Buf B0 h (sl b 0 n 1) 1 cs) {i : Nat} (hi : i < cs.length) : cell h b i = some cs[i] := by
 rcases x with ⟨e1, e2⟩ | ⟨b', m, e2, e3, e4, e5⟩
 ·subst e1; simp at hi
 ·simp [sl] at e2
  obtain ⟨rfl, rfl⟩ := e2
  exact cell_of e5 (by simp [hi])
theorem c463 (h : Heap) (hp : 0 < h.length) (v : Value) (X : Pan) (hv : PtP h v X) (ok : OkP X) : ACall Gam 463 [v] h fun r h' => Grows h h' ∧ ∃ b1 b2, r = .tuple #[sl b1 0 (curveN X) 1, sl b2 0 (4 * X.1.toNat * X.2.1.toNat) 1] := by
 have hv0 := hv
 obtain ⟨b, o, s, rfl, h1, h2, h3, hr, _⟩ := hv
 have A := walks (W := X.1.toNat) (H := X.2.1.toNat) (br := X.2.2) (by have := ok.w; omega) (by have := ok.h; omega)
 obtain ⟨N, eN⟩ : ∃ N, N = 4 * X.1.toNat * X.2.1.toNat := ⟨_, rfl⟩
 have hN : N ≤ 256 := by
  rw [eN]; exact (Nat.mul_le_mul (by have := ok.w; omega) (by have := ok.h; omega) : 4 * X.1.toNat * X.2.1.toNat ≤ 4 * 8 * 8)
 have wkok : ∀ k, k < N → OkW X.1.toNat X.2.1.toNat (wkW X.2.1.toNat k) := fun k hk => wkW_ok (by have := ok.h; omega) (by rw [← eN]; exact hk)
 have wksg : ∀ k, k < N → segW X.2.1.toNat (wkW X.2.1.toNat k) = k := fun k hk => wkW_seg (by have := ok.h; omega) (by rw [← eN]; exact hk)
 have eC : curveN X = (curvesSt (stepW X.1.toNat X.2.1.toNat X.2.2) (segW X.2.1.toNat) (wkW X.2.1.toNat) N N).2 := by rw [eN]; rfl
 rw [← eN, eC]
 obtain ⟨f, ef⟩ : ∃ f, f = stepW X.1.toNat X.2.1.toNat X.2.2 := ⟨_, rfl⟩
 rw [← eN] at A
 rw [← ef] at A ⊢
 have eNi : (4 * X.1 * X.2.1 : Int) = N := by
  have w1 : (X.1.toNat : Int) = X.1 := by have := ok.w; omega
  have w2 : (X.2.1.toNat : Int) = X.2.1 := by have := ok.h; omega
  rw [eN]; simp only [Int.natCast_mul, w1, w2]; rfl
 obtain ⟨w8, hh8, _, _⟩ := ok
 have bd : 4 * X.1 ≤ 32 := by omega
 refine ACall_intro g463 rfl ?_
 unfold fn463
 obtain ⟨B, eB⟩ : ∃ B, B = h.length := ⟨_, rfl⟩
 have em : aMake 1 h (Value.int IntKind.i64 N) (Value.int IntKind.i64 N) (Value.agg #[I 0]) = some (sl B 0 N 1, h ++ [⟨ints (List.replicate N 0), true⟩]) := by
  simp (disch := omega) [aMake, maxSize, ints, eB]
  exact ⟨by omega, by simpa [ints] using reps_ints N⟩
 simp (disch := omega) [h1, h2, wrap64, eNi]
 rw [em]
 simp only [bindW_some]
 refine awp_loop (fun (k : Nat) σ h' => k ≤ N ∧ Grows h h' ∧ h'.length = B + 1 ∧ h'[B]? = some ⟨ints (List.replicate k (-1) ++ List.replicate (N - k) 0), true⟩ ∧ σ 0 = pt b o ∧ σ 4 = I N ∧ σ 5 = sl B 0 N 1 ∧ σ 6 = I k) (fun k => N - k) 0 ?_ ?_
 ·exact ⟨by omega, ⟨_, rfl⟩, by simp [eB], by simp [eB], by simp, by simp, by simp, by simp⟩
 rintro k σ h1' ⟨hk, g, hlen, hB, q0, q4, q5, q6⟩
 simp (disch := omega) [q4, q6]
 refine fork_dec (fun hlt => ?_) (fun hge => ?_)
 ·have k1 : k < N := by omega
  have st := store_one (v := I (-1)) (o := k) hB (by simp [ints]; omega)
  simp (disch := omega) [q4, q5, q6, k1, st, wrap64]
  refine ⟨k + 1, ⟨by omega, g.put (by omega) _, hlen, ?_, q0, by omega⟩, by omega⟩
  have hBl : B < h1'.length := by omega
  simp [hBl, ints]
  ·obtain ⟨m, hm⟩ : ∃ m, N - k = m + 1 := ⟨N - k - 1, by omega⟩
   rw [hm, show N - (k + 1) = m by omega, List.replicate_succ, List.set_cons_zero, List.replicate_succ']
   simp
 have hkN : N = k := by omega
 subst hkN
 simp (disch := omega) [q4, q6]
 have hB0 : h1'[B]? = some ⟨ints (curvesSt f (segW X.2.1.toNat) (wkW X.2.1.toNat) N 0).1, true⟩ := by
  rw [hB]; simp [curvesSt]
 clear hB
 obtain ⟨H1, eH1⟩ : ∃ H1, H1 = h1' := ⟨_, rfl⟩
 have lH1 : H1.length = B + 1 := by rw [eH1]; exact hlen
 obtain ⟨sg, esg⟩ : ∃ sg, sg = segW X.2.1.toNat := ⟨_, rfl⟩
 obtain ⟨wk, ewk⟩ : ∃ wk, wk = wkW X.2.1.toNat := ⟨_, rfl⟩
 rw [← esg] at A wksg hB0 ⊢
 rw [← ewk] at wkok wksg hB0 ⊢
 refine awp_loop (fun (k : Nat) σ h' => k ≤ N ∧ Grows h h' ∧ B + 1 ≤ h'.length ∧ h'[B]? = some ⟨ints (curvesSt f sg wk N k).1, true⟩ ∧ σ 0 = pt b o ∧ σ 4 = I N ∧ σ 5 = sl B 0 N 1 ∧ σ 8 = I k ∧ ∃ Z, Buf H1 h' (σ 7) 1 Z ∧ Z.length = (curvesSt f sg wk N k).2) (fun k => N - k) 0 ?_ ?_
 ·exact ⟨by omega, g, by omega, hB0, by simpa using q0, by simpa using q4, by simpa using q5, by simp, [], by simpa using Buf.nil, rfl⟩
 clear q0 q4 q5 q6 hB0 g eH1
 rintro k σ h2 ⟨hk, g, hlen, hB, q0, q4, q5, q8, Z, bz, hZ⟩
 obtain ⟨st1, st2, st3⟩ := A.st wkok k hk
 simp (disch := omega) [q4, q8]
 refine fork_dec (fun hlt => ?_) (fun hge => ?_)
 ·have k1 : k < N := by omega
  have hok := wkok k k1
  obtain ⟨oc, eoc⟩ : ∃ oc, oc = curvesSt f sg wk N k := ⟨_, rfl⟩
  have esucc : curvesSt f sg wk N (k + 1) = if 0 ≤ at0 oc.1 k then oc else (paint f sg (wk k) oc.2 oc.1 (perW f (wk k)), oc.2 + 1) := by rw [eoc]; rfl
  rw [← eoc] at hB hZ st1 st2 st3
  obtain ⟨O, c⟩ := oc
  simp only at hB hZ st1 st2 st3 esucc
  have hcell : cell h2 B k = some (I (at0 O k)) := cell_of hB (by simp [ints, at0, List.getD_eq_getElem?_getD, show k < O.length by omega])
  simp (disch := omega) [q4, q5, q8, k1, hcell]
  refine fork_dec (fun hpos => ?_) (fun hneg => ?_)
  ·simp (disch := omega) [q4, q8, wrap64]
   rw [if_pos hpos] at esucc
   refine ⟨k + 1, ⟨by omega, g, by omega, ?_, q0, q5, by omega, Z, bz, ?_⟩, by omega⟩
   ·have := (List.getElem?_eq_some_iff.1 hB).2
    simpa [esucc] using this
   ·rw [esucc]; exact hZ
  ·rw [if_neg hneg] at esucc
   have c2 := c462 h2 (pt b o) X k (hv0.grow g) ⟨w8, hh8, by assumption, by assumption⟩ (by omega)
   rw [← ewk] at c2
   have c6 := c466 h2 (by omega) (pt b o) X (wk k) (hv0.grow g) ⟨w8, hh8, by assumption, by assumption⟩ hok
   rw [← ef] at c6
   obtain ⟨u, eu⟩ : ∃ u, u = wk k := ⟨_, rfl⟩
   rw [← eu] at c2 c6 hok esucc
   obtain ⟨P1, P2, P3, P4⟩ := A.per hok
   simp (disch := omega) [q0, q8]
   refine callW_of c2 ?_
   rintro _ h3 ⟨rfl, rfl⟩
   obtain ⟨ux, uy, udx, udy⟩ := u
   simp only [wv] at c6
   refine ⟨fun _ => Grows.refl _, ?_⟩
   simp (disch := omega) [wv]
   refine callW_of c6 ?_
   rintro _ h4 ⟨g4, r0, r1, rfl, bs, b4, n4, rfl⟩
   refine ⟨fun e => (by cases e), ?_⟩
   obtain ⟨b5, rfl⟩ := bs.sl1
   have hsl : (ints (segsW f X.2.1.toNat (ux, uy, udx, udy) (perW f (ux, uy, udx, udy)))).length = perW f (ux, uy, udx, udy) := by simp [segsW, ints]
   rw [hsl] at bs ⊢
   simp (disch := omega)
   obtain ⟨n, en⟩ : ∃ n, n = perW f (ux, uy, udx, udy) := ⟨_, rfl⟩
   rw [← en] at bs hsl P1 P2 P3 P4 esucc ⊢
   obtain ⟨b7, e7⟩ := bz.sl1
   rw [hZ] at e7
   rw [e7] at bz
   have hg3 := g.le
   have bz4 := bz.grow g4
   have l4 := g4.le
   have hB4 := g4.at hB
   refine awp_loop (fun (j : Nat) σ' h' => j ≤ n ∧ Grows h h' ∧ h4.length ≤ h'.length ∧ h'[B]? = some ⟨ints (paint f sg (ux, uy, udx, udy) c O j), true⟩ ∧ σ' 0 = pt b o ∧ σ' 4 = I N ∧ σ' 5 = sl B 0 N 1 ∧ σ' 7 = sl b7 0 c 1 ∧ σ' 8 = I k ∧ σ' 9 = sl b4 0 n4 2 ∧ σ' 10 = sl b5 0 n 1 ∧ σ' 11 = I j ∧ Buf H1 h' (sl b7 0 c 1) 1 Z ∧ Buf h3 h' (sl b5 0 n 1) 1 (ints (segsW f X.2.1.toNat (ux, uy, udx, udy) n))) (fun j => n - j) 0 ?_ ?_
   ·exact ⟨by omega, g.trans g4, by omega, hB4, by simpa using q0, by simpa using q4, by simpa using q5, by simpa using e7, by simpa using q8, by simp, by simp, by simp, bz4, bs⟩
   rintro j τ h5 ⟨hj, g5, l5, hB5, r0, r4, r5, r7, r8, r9, r10, r11, bz5, bs5⟩
   simp (disch := omega) [r10, r11]
   refine fork_dec (fun jlt => ?_) (fun jge => ?_)
   ·have j1 : j < n := by omega
    have hsj : (ints (segsW f X.2.1.toNat (ux, uy, udx, udy) n))[j]'(by rw [hsl]; exact j1) = I (sg (itW f j (ux, uy, udx, udy))) := by simp [ints, segsW, esg]
    have hc5 := bs5.at1 (i := j) (by rw [hsl]; exact j1)
    rw [hsj] at hc5
    obtain ⟨w, ew⟩ : ∃ w, w = sg (itW f j (ux, uy, udx, udy)) := ⟨_, rfl⟩
    have hw : w < N := by rw [ew]; exact A.lt _ (A.vi hok j)
    rw [← ew] at hc5
    have st := store_one (v := I c) (o := w) hB5 (by simp [ints, paint_len, st1]; omega)
    simp (disch := omega) [r5, r7, r10, r11, j1, hc5, hw, st, wrap64]
    refine ⟨j + 1, ⟨by omega, g5.put (by omega) _, l5, ?_, r0, r4, r8, r9, by omega, bz5.put (by omega), bs5.put (by omega)⟩, by omega⟩
    have : B < h5.length := at_lt hB5
    simp [this, paint, ← ew, ints, List.map_set]
   ·have ej : j = n := by omega
    subst ej
    have eb : aBuildSlice 1 1 h5 [(0, .agg #[sl 0 0 0 0]), (1, sl b4 0 n4 2)] = some (sl h5.length 0 1 1, h5 ++ [⟨[sl b4 0 n4 2], true⟩]) := by simp [aBuildSlice]
    simp (disch := omega) [r0, r4, r5, r7, r8, r9]
    rw [eb]
    simp only [bindW_some]
    refine app1 (by omega) g5 (by omega) (by omega) bz5 (by simp) (by omega) (by simp [hZ, maxSize]; omega) fun v6 h6 g6 l6 b6 n6 fr6 => ?_
    have hB6 := fr6 B _ hB5 (bz5.ne (by omega) (by omega))
    simp (disch := omega) [r0, r4, r5, r8, wrap64]
    refine ⟨k + 1, ⟨by omega, g6, by omega, ?_, by omega, _, b6, ?_⟩, by omega⟩
    ·have := (List.getElem?_eq_some_iff.1 hB6).2
     simpa [esucc] using this
    ·rw [esucc]; simp [hZ]
 ·have e : k = N := by omega
  obtain ⟨b7, e7⟩ := bz.sl1
  rw [hZ] at e7
  simp (disch := omega) [e7, q5]
  exact ⟨g, by rw [e]⟩
theorem c465 (h : Heap) (hp : 0 < h.length) (v : Value) (X : Pan) (hv : PtP h v X) (ok : OkP X) : ACall Gam 465 [v] h fun r h' => Grows h h' ∧ r = I (curveN X) := by
 refine ACall_intro g465 rfl ?_
 unfold fn465
 simp (disch := omega)
 refine callW_of (c463 h hp v X hv ok) ?_
 rintro _ h' ⟨g, b1, b2, rfl⟩
 refine ⟨fun _ => g, ?_⟩
 simp (disch := omega)
 try exact g
end Am

/- The helpers of the laws for libraries. -/
import Derived.Test.YtpdhmojncndobaaAmT4
set_option linter.unusedVariables false
set_option linter.unusedSimpArgs false
set_option maxHeartbeats 4000000
namespace Am
open Go

abbrev Kpt := List UInt8 × Pan3
theorem Vr.kept {h : Heap} {v : Value} {n : List UInt8} {W H : Int} {br : List Int} (x : Vr h shKept v (n, W, H, br)) : ∃ s, v = .agg #[S n, I W, I H, s] ∧ n.length ≤ 9223372036854775807 ∧ I64 W ∧ I64 H ∧ Vr h shInts s br := by
  obtain ⟨cs, ⟨c1, c2, rfl, ⟨rfl, w0⟩, c3, c4, rfl, ⟨rfl, w1⟩, c5, c6, rfl, ⟨rfl, w2⟩, r⟩, rfl⟩ := x
  obtain ⟨s, rfl⟩ := Rd.one r
  exact ⟨s, rfl, by rw [← maxLen_eq]; exact w0, wf_i64.1 w1, wf_i64.1 w2, _, r, rfl⟩
theorem Vr.of_kept {h : Heap} {n : List UInt8} {W H : Int} {br : List Int} {s : Value} (h0 : n.length ≤ 9223372036854775807) (h1 : I64 W) (h2 : I64 H) (r : Vr h shInts s br) : Vr h shKept (.agg #[S n, I W, I H, s]) (n, W, H, br) := by
  obtain ⟨_, r, rfl⟩ := r
  obtain ⟨s, rfl⟩ := Rd.one r
  exact ⟨[S n, I W, I H, s], ⟨[S n], [I W, I H, s], rfl, ⟨rfl, by rw [maxLen_eq]; exact h0⟩, [I W], [I H, s], rfl, ⟨rfl, wf_i64.2 h1⟩, [I H], [s], rfl, ⟨rfl, wf_i64.2 h2⟩, r⟩, rfl⟩
theorem Vo.of_kept {h : Heap} {lo hi : Nat} {n : List UInt8} {W H : Int} {br : List Int} {s : Value} (h0 : n.length ≤ 9223372036854775807) (h1 : I64 W) (h2 : I64 H) (r : Vo h lo hi shInts s br) : Vo h lo hi shKept (.agg #[S n, I W, I H, s]) (n, W, H, br) := by
  obtain ⟨_, bs, r, rfl, nd, hb⟩ := r
  obtain ⟨s, rfl⟩ := Rd.one r.rd
  exact ⟨[S n, I W, I H, s], bs, ⟨[S n], [I W, I H, s], [], bs, rfl, rfl, ⟨rfl, by rw [maxLen_eq]; exact h0, rfl⟩, [I W], [I H, s], [], bs, rfl, rfl, ⟨rfl, wf_i64.2 h1, rfl⟩, [I H], [s], [], bs, rfl, rfl, ⟨rfl, wf_i64.2 h2, rfl⟩, r⟩, rfl, nd, hb⟩
/-- A library's entries, one by one. -/
theorem kepts_at {h : Heap} {v : Value} {X : List Kpt} (x : Vr h shKepts v X) : ∃ b o z, v = sl b o X.length z ∧ X.length ≤ maxLen ∧ ∀ i (hi : i < X.length), ∃ s, cellsAt h b (o + i * 4) 4 = some [S X[i].1, I X[i].2.1, I X[i].2.2.1, s] ∧ Vr h shInts s X[i].2.2.2 ∧ Vr h shKept (.agg #[S X[i].1, I X[i].2.1, I X[i].2.2.1, s]) X[i] := by
  obtain ⟨b, o, z, rfl, _, hm, hel⟩ := x.slice
  refine ⟨b, o, z, rfl, hm, fun i hi => ?_⟩
  obtain ⟨c, hc, r⟩ := hel i hi
  have hv : Vr h shKept (asVal shKept c) X[i] := ⟨c, r, rfl⟩
  obtain ⟨c1, c2, rfl, ⟨rfl, w0⟩, c3, c4, rfl, ⟨rfl, w1⟩, c5, c6, rfl, ⟨rfl, w2⟩, r⟩ := r
  obtain ⟨s, rfl⟩ := Rd.one r
  exact ⟨s, hc, ⟨_, r, rfl⟩, hv⟩
theorem siz_kept (n : List UInt8) (W H : Int) (br : List Int) : siz shKept (n, W, H, br) = n.length + br.length := by
  show n.length + siz shPanel (W, H, br) = _
  rw [siz_panel]

theorem c293 : SzOk 293 shKept := by
  rintro h v ⟨(n : List UInt8), (W : Int), (H : Int), (br : List Int)⟩ left hv hl
  obtain ⟨s, rfl, w0, w1, w2, r⟩ := hv.kept
  rw [siz_kept]
  refine ACall_intro g293 rfl ?_
  unfold fn293
  simp (disch := omega) [wrap64]
  refine fork_dec (fun h1 => ?_) (fun h1 => ?_)
  · rw [if_neg (by omega)]; simp
  · obtain ⟨l1, e1⟩ : ∃ k : Nat, k = left - n.length := ⟨_, rfl⟩
    have e2 : (left : Int) - n.length = l1 := by omega
    simp (disch := omega) [e2]
    refine callW_of (c295 _ _ (W, H, br) l1 (Vr.of_panel w1 w2 r) (by omega)) ?_
    rintro v h' ⟨rfl, rfl⟩
    rw [siz_panel]
    by_cases h2 : br.length ≤ l1
    · rw [if_pos h2, if_pos (by omega)]
      have e3 : l1 - br.length = left - (n.length + br.length) := by omega
      rw [e3]
      obtain ⟨l2, e4⟩ : ∃ k, k = left - (n.length + br.length) := ⟨_, rfl⟩
      rw [← e4]
      simp (disch := omega)
    · rw [if_neg h2, if_neg (by omega)]; simp
theorem c301 : ToOk 301 shKept := by
  rintro h v ⟨(n : List UInt8), (W : Int), (H : Int), (br : List Int)⟩ hp hv hs
  obtain ⟨s, rfl, w0, w1, w2, r⟩ := hv.kept
  rw [siz_kept] at hs
  refine ACall_intro g301 rfl ?_
  unfold fn301
  simp (disch := omega)
  refine callW_of (c303 _ _ (W, H, br) hp (Vr.of_panel w1 w2 r) (by rw [siz_panel]; omega)) ?_
  rintro v h1 ⟨hg1, o1⟩
  obtain ⟨s', rfl, _, _, o1⟩ := o1.panel
  obtain ⟨b, z, e, _⟩ := o1.ints
  subst e
  simp (disch := omega) [resOf_box, aField]
  exact ⟨hg1, Vo.of_kept w0 w1 w2 o1⟩
theorem c263 : EqTrue 263 shKept := by
  rintro h v w ⟨(n : List UInt8), (W : Int), (H : Int), (br : List Int)⟩ hv hw
  obtain ⟨s, rfl, w0, w1, w2, r⟩ := hv.kept
  obtain ⟨s', rfl, _, _, _, r'⟩ := hw.kept
  refine ACall_intro g263 rfl ?_
  unfold fn263
  simp (disch := omega)
  refine callW_of (c265 _ _ _ (W, H, br) (Vr.of_panel w1 w2 r) (Vr.of_panel w1 w2 r')) ?_
  rintro v h' ⟨rfl, rfl⟩
  simp (disch := omega)
theorem c302 : ToOk 302 shKepts := toS_ok (zero := #[S [], I 0, I 0, sl 0 0 0 0]) g302 rfl ⟨by decide, rfl⟩ rfl c301
theorem c264 : EqTrue 264 shKepts := eqS_ok g264 rfl ⟨by decide, rfl⟩ c263

def sizL (X : List Kpt) : Nat := (X.map fun y => siz shKept y).sum
theorem siz_kepts (X : List Kpt) : siz shKepts X = X.length + sizL X := rfl
theorem sizL_append (a b : List Kpt) : sizL (a ++ b) = sizL a + sizL b := by simp [sizL]
theorem sizL_take {X : List Kpt} {k : Nat} (hk : k < X.length) : sizL (X.take (k + 1)) = sizL (X.take k) + siz shKept X[k] := by
  rw [List.take_succ_eq_append_getElem hk, sizL_append]; simp [sizL]
theorem sizL_le (X : List Kpt) (k : Nat) : sizL (X.take k) ≤ sizL X := by
  have : sizL X = sizL (X.take k) + sizL (X.drop k) := by
    rw [← sizL_append, List.take_append_drop]
  omega
theorem c294 : SzOk 294 shKepts := by
  intro h v (X : List Kpt) left hv hl
  obtain ⟨b, o, z, rfl, hm, hel⟩ := kepts_at hv
  rw [maxLen_eq] at hm
  rw [siz_kepts]
  refine ACall_intro g294 rfl ?_
  unfold fn294
  simp (disch := omega) [wrap64]
  refine fork_dec (fun h1 => ?_) (fun h1 => ?_)
  · rw [if_neg (by omega)]; simp
  · have e0 : (left : Int) - X.length = ((left - X.length : Nat) : Int) := by omega
    simp (disch := omega) [e0]
    refine awp_loop (fun k σ h' => h' = h ∧ k ≤ X.length ∧ X.length + sizL (X.take k) ≤ left ∧ σ 0 = sl b o X.length z ∧ σ 1 = I ((left - X.length - sizL (X.take k) : Nat) : Int) ∧ σ 5 = I k) (fun k => X.length - k) 0 ?_ ?_
    · simp [sizL]; omega
    · rintro k σ h' ⟨rfl, hk, hle, q0, q1, q5⟩
      simp (disch := omega) [q0, q5]
      refine fork_dec (fun hlt => ?_) (fun hge => ?_)
      · have k1 : k < X.length := by omega
        obtain ⟨s, hc, _, hvk⟩ := hel k k1
        obtain ⟨l1, e1⟩ : ∃ j, j = left - X.length - sizL (X.take k) := ⟨_, rfl⟩
        rw [← e1] at q1
        simp (disch := omega) [q0, q1, q5, k1, hc]
        refine callW_of (c293 _ _ X[k] l1 hvk (by omega)) ?_
        rintro v h' ⟨rfl, rfl⟩
        have hst := sizL_take k1
        by_cases h2 : siz shKept X[k] ≤ l1
        · rw [if_pos h2]
          obtain ⟨l2, e2⟩ : ∃ j, j = l1 - siz shKept X[k] := ⟨_, rfl⟩
          rw [← e2]
          simp (disch := omega) [q0, q5, wrap64]
          exact ⟨k + 1, ⟨by omega, by omega, by omega, by omega⟩, by omega⟩
        · have := sizL_le X (k + 1)
          rw [if_neg h2, if_neg (by omega)]; simp
      · have : k = X.length := by omega
        subst this
        rw [List.take_length] at hle q1
        rw [if_pos (by omega)]
        have e3 : left - X.length - sizL X = left - (X.length + sizL X) := by omega
        rw [e3] at q1
        simp (disch := omega) [q0, q1, q5]
end Am

/- Contracts: AmY32, AmY33, AmY36, AmY37, AmG4, AmG1, AmG2, AmG3, AmG5. -/
import Derived.Test.YtaeaaogpdipjfaaAmK7
import Derived.Test.YtaeaaogpdipjfaaAmK5
import Derived.Test.YtaeaaogpdipjfaaAmK6
import Derived.Test.YtaeaaogpdipjfaaAmK4
/-! AmY32 -/
set_option linter.unusedVariables false
set_option linter.unusedSimpArgs false
set_option maxHeartbeats 4000000
set_option maxRecDepth 4000
namespace Am
open Go

theorem Buf.ne {B0 h : Heap} {v : Value} {z y c : Nat} {cs : List Value} (x : Buf B0 h v z cs) (h0 : 0 < c) (hc : c < B0.length) : ∀ n, v ≠ sl c 0 n y := by
  intro n e
  rcases x with ⟨_, e2⟩ | ⟨b, m, e2, _, e3, _⟩
  · rw [e2] at e; simp [sl] at e <;> omega
  · rw [e2] at e; simp [sl] at e <;> omega
theorem Buf.put {B0 h : Heap} {v : Value} {z c : Nat} {cs : List Value} {k : Blk} (x : Buf B0 h v z cs) (hc : c < B0.length) : Buf B0 (h.set c k) v z cs := by
  rcases x with ⟨e1, e2⟩ | ⟨b, m, e2, e3, e4, e5⟩
  · exact .inl ⟨e1, e2⟩
  · exact .inr ⟨b, m, e2, e3, e4, put_at e5 (by omega)⟩
theorem Buf.sl1 {B0 h : Heap} {v : Value} {cs : List Value} (x : Buf B0 h v 1 cs) : ∃ b, v = sl b 0 cs.length 1 := by
  rcases x with ⟨e1, e2⟩ | ⟨b, m, e2, e3, e4, e5⟩
  · exact ⟨0, by rw [e1]; exact e2⟩
  · exact ⟨b, by rw [e2]; congr 1; omega⟩
theorem Buf.at1 {B0 h : Heap} {b n : Nat} {cs : List Value} (x : Buf B0 h (sl b 0 n 1) 1 cs) {i : Nat} (hi : i < cs.length) : cell h b i = some cs[i] := by
  rcases x with ⟨e1, e2⟩ | ⟨b', m, e2, e3, e4, e5⟩
  · subst e1; simp at hi
  · simp [sl] at e2
    obtain ⟨rfl, rfl⟩ := e2
    exact cell_of e5 (by simp [hi])
theorem c463 (h : Heap) (hp : 0 < h.length) (v : Value) (X : Pan) (hv : PtP h v X) (ok : OkP X) : ACall Gam 463 [v] h fun r h' => Grows h h' ∧ ∃ b1 b2, r = .tuple #[sl b1 0 (curveN X) 1, sl b2 0 (4 * X.1.toNat * X.2.1.toNat) 1] := by
  have hv0 := hv
  obtain ⟨b, o, s, rfl, h1, h2, h3, hr, _⟩ := hv
  have A := walks (W := X.1.toNat) (H := X.2.1.toNat) (br := X.2.2) (by have := ok.w; omega) (by have := ok.h; omega)
  obtain ⟨N, eN⟩ : ∃ N, N = 4 * X.1.toNat * X.2.1.toNat := ⟨_, rfl⟩
  have hN : N ≤ 256 := by
    rw [eN]; exact (Nat.mul_le_mul (by have := ok.w; omega) (by have := ok.h; omega) : 4 * X.1.toNat * X.2.1.toNat ≤ 4 * 8 * 8)
  have wkok : ∀ k, k < N → OkW X.1.toNat X.2.1.toNat (wkW X.2.1.toNat k) := fun k hk => wkW_ok (by have := ok.h; omega) (by rw [← eN]; exact hk)
  have wksg : ∀ k, k < N → segW X.2.1.toNat (wkW X.2.1.toNat k) = k := fun k hk => wkW_seg (by have := ok.h; omega) (by rw [← eN]; exact hk)
  have eC : curveN X = (curvesSt (stepW X.1.toNat X.2.1.toNat X.2.2) (segW X.2.1.toNat) (wkW X.2.1.toNat) N N).2 := by rw [eN]; rfl
  rw [← eN, eC]
  obtain ⟨f, ef⟩ : ∃ f, f = stepW X.1.toNat X.2.1.toNat X.2.2 := ⟨_, rfl⟩
  rw [← eN] at A
  rw [← ef] at A ⊢
  have eNi : (4 * X.1 * X.2.1 : Int) = N := by
    have w1 : (X.1.toNat : Int) = X.1 := by have := ok.w; omega
    have w2 : (X.2.1.toNat : Int) = X.2.1 := by have := ok.h; omega
    rw [eN]; simp only [Int.natCast_mul, w1, w2]; rfl
  obtain ⟨w8, hh8, _, _⟩ := ok
  have bd : 4 * X.1 ≤ 32 := by omega
  refine ACall_intro g463 rfl ?_
  unfold fn463
  obtain ⟨B, eB⟩ : ∃ B, B = h.length := ⟨_, rfl⟩
  have em : aMake 1 h (Value.int IntKind.i64 N) (Value.int IntKind.i64 N) (Value.agg #[I 0]) = some (sl B 0 N 1, h ++ [⟨ints (List.replicate N 0), true⟩]) := by
    simp (disch := omega) [aMake, maxSize, ints, eB]
    exact ⟨by omega, by simpa [ints] using reps_ints N⟩
  simp (disch := omega) [h1, h2, wrap64, eNi]
  rw [em]
  simp only [bindW_some]
  refine awp_loop (fun (k : Nat) σ h' => k ≤ N ∧ Grows h h' ∧ h'.length = B + 1 ∧ h'[B]? = some ⟨ints (List.replicate k (-1) ++ List.replicate (N - k) 0), true⟩ ∧ σ 0 = pt b o ∧ σ 4 = I N ∧ σ 5 = sl B 0 N 1 ∧ σ 6 = I k) (fun k => N - k) 0 ?_ ?_
  · exact ⟨by omega, ⟨_, rfl⟩, by simp [eB], by simp [eB], by simp, by simp, by simp, by simp⟩
  rintro k σ h1' ⟨hk, g, hlen, hB, q0, q4, q5, q6⟩
  simp (disch := omega) [q4, q6]
  refine fork_dec (fun hlt => ?_) (fun hge => ?_)
  · have k1 : k < N := by omega
    have st := store_one (v := I (-1)) (o := k) hB (by simp [ints]; omega)
    simp (disch := omega) [q4, q5, q6, k1, st, wrap64]
    refine ⟨k + 1, ⟨by omega, g.put (by omega) _, hlen, ?_, q0, by omega⟩, by omega⟩
    have hBl : B < h1'.length := by omega
    simp [hBl, ints]
    · obtain ⟨m, hm⟩ : ∃ m, N - k = m + 1 := ⟨N - k - 1, by omega⟩
      rw [hm, show N - (k + 1) = m by omega, List.replicate_succ, List.set_cons_zero, List.replicate_succ']
      simp
  have hkN : N = k := by omega
  subst hkN
  simp (disch := omega) [q4, q6]
  have hB0 : h1'[B]? = some ⟨ints (curvesSt f (segW X.2.1.toNat) (wkW X.2.1.toNat) N 0).1, true⟩ := by
    rw [hB]; simp [curvesSt]
  clear hB
  obtain ⟨H1, eH1⟩ : ∃ H1, H1 = h1' := ⟨_, rfl⟩
  have lH1 : H1.length = B + 1 := by rw [eH1]; exact hlen
  obtain ⟨sg, esg⟩ : ∃ sg, sg = segW X.2.1.toNat := ⟨_, rfl⟩
  obtain ⟨wk, ewk⟩ : ∃ wk, wk = wkW X.2.1.toNat := ⟨_, rfl⟩
  rw [← esg] at A wksg hB0 ⊢
  rw [← ewk] at wkok wksg hB0 ⊢
  refine awp_loop (fun (k : Nat) σ h' => k ≤ N ∧ Grows h h' ∧ B + 1 ≤ h'.length ∧ h'[B]? = some ⟨ints (curvesSt f sg wk N k).1, true⟩ ∧ σ 0 = pt b o ∧ σ 4 = I N ∧ σ 5 = sl B 0 N 1 ∧ σ 8 = I k ∧ ∃ Z, Buf H1 h' (σ 7) 1 Z ∧ Z.length = (curvesSt f sg wk N k).2) (fun k => N - k) 0 ?_ ?_
  · exact ⟨by omega, g, by omega, hB0, by simpa using q0, by simpa using q4, by simpa using q5, by simp, [], by simpa using Buf.nil, rfl⟩
  clear q0 q4 q5 q6 hB0 g eH1
  rintro k σ h2 ⟨hk, g, hlen, hB, q0, q4, q5, q8, Z, bz, hZ⟩
  obtain ⟨st1, st2, st3⟩ := A.st wkok k hk
  simp (disch := omega) [q4, q8]
  refine fork_dec (fun hlt => ?_) (fun hge => ?_)
  · have k1 : k < N := by omega
    have hok := wkok k k1
    obtain ⟨oc, eoc⟩ : ∃ oc, oc = curvesSt f sg wk N k := ⟨_, rfl⟩
    have esucc : curvesSt f sg wk N (k + 1) = if 0 ≤ at0 oc.1 k then oc else (paint f sg (wk k) oc.2 oc.1 (perW f (wk k)), oc.2 + 1) := by rw [eoc]; rfl
    rw [← eoc] at hB hZ st1 st2 st3
    obtain ⟨O, c⟩ := oc
    simp only at hB hZ st1 st2 st3 esucc
    have hcell : cell h2 B k = some (I (at0 O k)) := cell_of hB (by simp [ints, at0, List.getD_eq_getElem?_getD, show k < O.length by omega])
    simp (disch := omega) [q4, q5, q8, k1, hcell]
    refine fork_dec (fun hpos => ?_) (fun hneg => ?_)
    · simp (disch := omega) [q4, q8, wrap64]
      rw [if_pos hpos] at esucc
      refine ⟨k + 1, ⟨by omega, g, by omega, ?_, q0, q5, by omega, Z, bz, ?_⟩, by omega⟩
      · have := (List.getElem?_eq_some_iff.1 hB).2
        simpa [esucc] using this
      · rw [esucc]; exact hZ
    · rw [if_neg hneg] at esucc
      have c2 := c462 h2 (pt b o) X k (hv0.grow g) ⟨w8, hh8, by assumption, by assumption⟩ (by omega)
      rw [← ewk] at c2
      have c6 := c466 h2 (by omega) (pt b o) X (wk k) (hv0.grow g) ⟨w8, hh8, by assumption, by assumption⟩ hok
      rw [← ef] at c6
      obtain ⟨u, eu⟩ : ∃ u, u = wk k := ⟨_, rfl⟩
      rw [← eu] at c2 c6 hok esucc
      obtain ⟨P1, P2, P3, P4⟩ := A.per hok
      simp (disch := omega) [q0, q8]
      refine callW_of c2 ?_
      rintro _ h3 ⟨rfl, rfl⟩
      obtain ⟨ux, uy, udx, udy⟩ := u
      simp only [wv] at c6
      refine ⟨fun _ => Grows.refl _, ?_⟩
      simp (disch := omega) [wv]
      refine callW_of c6 ?_
      rintro _ h4 ⟨g4, r0, r1, rfl, bs, b4, n4, rfl⟩
      refine ⟨fun e => (by cases e), ?_⟩
      obtain ⟨b5, rfl⟩ := bs.sl1
      have hsl : (ints (segsW f X.2.1.toNat (ux, uy, udx, udy) (perW f (ux, uy, udx, udy)))).length = perW f (ux, uy, udx, udy) := by simp [segsW, ints]
      rw [hsl] at bs ⊢
      simp (disch := omega)
      obtain ⟨n, en⟩ : ∃ n, n = perW f (ux, uy, udx, udy) := ⟨_, rfl⟩
      rw [← en] at bs hsl P1 P2 P3 P4 esucc ⊢
      obtain ⟨b7, e7⟩ := bz.sl1
      rw [hZ] at e7
      rw [e7] at bz
      have hg3 := g.le
      have bz4 := bz.grow g4
      have l4 := g4.le
      have hB4 := g4.at hB
      refine awp_loop (fun (j : Nat) σ' h' => j ≤ n ∧ Grows h h' ∧ h4.length ≤ h'.length ∧ h'[B]? = some ⟨ints (paint f sg (ux, uy, udx, udy) c O j), true⟩ ∧ σ' 0 = pt b o ∧ σ' 4 = I N ∧ σ' 5 = sl B 0 N 1 ∧ σ' 7 = sl b7 0 c 1 ∧ σ' 8 = I k ∧ σ' 9 = sl b4 0 n4 2 ∧ σ' 10 = sl b5 0 n 1 ∧ σ' 11 = I j ∧ Buf H1 h' (sl b7 0 c 1) 1 Z ∧ Buf h3 h' (sl b5 0 n 1) 1 (ints (segsW f X.2.1.toNat (ux, uy, udx, udy) n))) (fun j => n - j) 0 ?_ ?_
      · exact ⟨by omega, g.trans g4, by omega, hB4, by simpa using q0, by simpa using q4, by simpa using q5, by simpa using e7, by simpa using q8, by simp, by simp, by simp, bz4, bs⟩
      rintro j τ h5 ⟨hj, g5, l5, hB5, r0, r4, r5, r7, r8, r9, r10, r11, bz5, bs5⟩
      simp (disch := omega) [r10, r11]
      refine fork_dec (fun jlt => ?_) (fun jge => ?_)
      · have j1 : j < n := by omega
        have hsj : (ints (segsW f X.2.1.toNat (ux, uy, udx, udy) n))[j]'(by rw [hsl]; exact j1) = I (sg (itW f j (ux, uy, udx, udy))) := by simp [ints, segsW, esg]
        have hc5 := bs5.at1 (i := j) (by rw [hsl]; exact j1)
        rw [hsj] at hc5
        obtain ⟨w, ew⟩ : ∃ w, w = sg (itW f j (ux, uy, udx, udy)) := ⟨_, rfl⟩
        have hw : w < N := by rw [ew]; exact A.lt _ (A.vi hok j)
        rw [← ew] at hc5
        have st := store_one (v := I c) (o := w) hB5 (by simp [ints, paint_len, st1]; omega)
        simp (disch := omega) [r5, r7, r10, r11, j1, hc5, hw, st, wrap64]
        refine ⟨j + 1, ⟨by omega, g5.put (by omega) _, l5, ?_, r0, r4, r8, r9, by omega, bz5.put (by omega), bs5.put (by omega)⟩, by omega⟩
        have : B < h5.length := at_lt hB5
        simp [this, paint, ← ew, ints, List.map_set]
      · have ej : j = n := by omega
        subst ej
        have eb : aBuildSlice 1 1 h5 [(0, .agg #[sl 0 0 0 0]), (1, sl b4 0 n4 2)] = some (sl h5.length 0 1 1, h5 ++ [⟨[sl b4 0 n4 2], true⟩]) := by simp [aBuildSlice]
        simp (disch := omega) [r0, r4, r5, r7, r8, r9]
        rw [eb]
        simp only [bindW_some]
        refine app1 (by omega) g5 (by omega) (by omega) bz5 (by simp) (by omega) (by simp [hZ, maxSize]; omega) fun v6 h6 g6 l6 b6 n6 fr6 => ?_
        have hB6 := fr6 B _ hB5 (bz5.ne (by omega) (by omega))
        simp (disch := omega) [r0, r4, r5, r8, wrap64]
        refine ⟨k + 1, ⟨by omega, g6, by omega, ?_, by omega, _, b6, ?_⟩, by omega⟩
        · have := (List.getElem?_eq_some_iff.1 hB6).2
          simpa [esucc] using this
        · rw [esucc]; simp [hZ]
  · have e : k = N := by omega
    obtain ⟨b7, e7⟩ := bz.sl1
    rw [hZ] at e7
    simp (disch := omega) [e7, q5]
    exact ⟨g, by rw [e]⟩
theorem c465 (h : Heap) (hp : 0 < h.length) (v : Value) (X : Pan) (hv : PtP h v X) (ok : OkP X) : ACall Gam 465 [v] h fun r h' => Grows h h' ∧ r = I (curveN X) := by
  refine ACall_intro g465 rfl ?_
  unfold fn465
  simp (disch := omega)
  refine callW_of (c463 h hp v X hv ok) ?_
  rintro _ h' ⟨g, b1, b2, rfl⟩
  refine ⟨fun _ => g, ?_⟩
  simp (disch := omega)
  try exact g
end Am
/-! AmY33 -/
set_option linter.unusedVariables false
set_option linter.unusedSimpArgs false
set_option maxHeartbeats 4000000
set_option maxRecDepth 4000
namespace Am
open Go

theorem wv_eq (w : Wk) : wv w = .agg #[I w.1, I w.2.1, I w.2.2.1, I w.2.2.2] := rfl
theorem c55 (h : Heap) (hp : 0 < h.length) (W H : Int) (br : List Int) (s : Value) (ok : OkP (W, H, br)) (hr : Vr h shInts s br) : ACall Gam 55 [.agg #[I W, I H, s]] h fun r h' => Grows h h' ∧ ∃ b1 b2, r = .tuple #[sl b1 0 (curveN (W, H, br)) 1, sl b2 0 (4 * W.toNat * H.toNat) 1] := by
  have A := walks (W := W.toNat) (H := H.toNat) (br := br) (by have := ok.w; simp at this; omega) (by have := ok.h; simp at this; omega)
  have ok0 := ok
  obtain ⟨w8, hh8, _, _⟩ := ok
  simp only at w8 hh8
  obtain ⟨N, eN⟩ : ∃ N, N = 4 * W.toNat * H.toNat := ⟨_, rfl⟩
  have hN : N ≤ 256 := by
    rw [eN]; exact (Nat.mul_le_mul (by omega) (by omega) : 4 * W.toNat * H.toNat ≤ 4 * 8 * 8)
  have wkok : ∀ k, k < N → OkW W.toNat H.toNat (wkW H.toNat k) := fun k hk => wkW_ok (by omega) (by rw [← eN]; exact hk)
  have wksg : ∀ k, k < N → segW H.toNat (wkW H.toNat k) = k := fun k hk => wkW_seg (by omega) (by rw [← eN]; exact hk)
  have eC : curveN (W, H, br) = (curvesSt (stepW W.toNat H.toNat br) (segW H.toNat) (wkW H.toNat) N N).2 := by rw [eN]; rfl
  rw [← eN, eC]
  obtain ⟨f, ef⟩ : ∃ f, f = stepW W.toNat H.toNat br := ⟨_, rfl⟩
  rw [← eN] at A
  rw [← ef] at A ⊢
  obtain ⟨B, eB⟩ : ∃ B, B = h.length := ⟨_, rfl⟩
  have em : aMake 1 h (Value.int IntKind.i64 N) (Value.int IntKind.i64 N) (Value.agg #[I 0]) = some (sl B 0 N 1, h ++ [⟨ints (List.replicate N 0), true⟩]) := by
    simp (disch := omega) [aMake, maxSize, ints, eB]
    exact ⟨by omega, by simpa [ints] using reps_ints N⟩
  have c51' := fun hh => c51 hh W H s w8 hh8
  rw [← eN] at c51'
  refine ACall_intro g55 rfl ?_
  unfold fn55
  simp (disch := omega)
  refine callW_of (c51' h) ?_
  rintro _ h0 ⟨rfl, rfl⟩
  try refine ⟨fun _ => Grows.refl _, ?_⟩
  rw [em]
  simp only [bindW_some]
  simp (disch := omega)
  refine awp_loop (fun (k : Nat) σ h' => k ≤ N ∧ Grows h0 h' ∧ h'.length = B + 1 ∧ h'[B]? = some ⟨ints (List.replicate k (-1) ++ List.replicate (N - k) 0), true⟩ ∧ σ 1 = .agg #[I W, I H, s] ∧ σ 4 = sl 0 0 0 1 ∧ σ 5 = sl B 0 N 1 ∧ σ 15 = I N ∧ σ 16 = I k) (fun k => N - k) 0 ?_ ?_
  · exact ⟨by omega, ⟨_, rfl⟩, by simp [eB], by simp [eB], by simp, by simp, by simp, by simp, by simp⟩
  rintro k σ h1' ⟨hk, g, hlen, hB, q1, q4, q5, q15, q16⟩
  simp (disch := omega) [q15, q16]
  refine fork_dec (fun hlt => ?_) (fun hge => ?_)
  · have k1 : k < N := by omega
    have st := store_one (v := I (-1)) (o := k) hB (by simp [ints]; omega)
    simp (disch := omega) [q1, q4, q5, q15, q16, k1, st, wrap64]
    refine ⟨k + 1, ⟨by omega, g.put (by omega) _, hlen, ?_, by omega⟩, by omega⟩
    have hBl : B < h1'.length := by omega
    simp [hBl, ints]
    obtain ⟨m, hm⟩ : ∃ m, N - k = m + 1 := ⟨N - k - 1, by omega⟩
    rw [hm, show N - (k + 1) = m by omega, List.replicate_succ, List.set_cons_zero, List.replicate_succ']
    simp
  have hkN : N = k := by omega
  subst hkN
  simp (disch := omega) [q1]
  have hB0 : h1'[B]? = some ⟨ints (curvesSt f (segW H.toNat) (wkW H.toNat) N 0).1, true⟩ := by
    rw [hB]; simp [curvesSt]
  clear hB
  refine callW_of (c51' h1') ?_
  rintro _ h1' ⟨rfl, rfl⟩
  try refine ⟨fun _ => Grows.refl _, ?_⟩
  obtain ⟨H1, eH1⟩ : ∃ H1, H1 = h1' := ⟨_, rfl⟩
  have lH1 : H1.length = B + 1 := by rw [eH1]; exact hlen
  obtain ⟨sg, esg⟩ : ∃ sg, sg = segW H.toNat := ⟨_, rfl⟩
  obtain ⟨wk, ewk⟩ : ∃ wk, wk = wkW H.toNat := ⟨_, rfl⟩
  rw [← esg] at A wksg hB0 ⊢
  rw [← ewk] at wkok wksg hB0 ⊢
  refine awp_loop (fun (k : Nat) σ h' => k ≤ N ∧ Grows h0 h' ∧ B + 1 ≤ h'.length ∧ h'[B]? = some ⟨ints (curvesSt f sg wk N k).1, true⟩ ∧ σ 1 = .agg #[I W, I H, s] ∧ σ 5 = sl B 0 N 1 ∧ σ 24 = I N ∧ σ 25 = I k ∧ ∃ Z, Buf H1 h' (σ 4) 1 Z ∧ Z.length = (curvesSt f sg wk N k).2) (fun k => N - k) 0 ?_ ?_
  · exact ⟨by omega, g, by omega, hB0, by simpa using q1, by simpa using q5, by simp, by simp, [], by simpa [q4] using Buf.nil, rfl⟩
  clear q1 q4 q5 q15 q16 hB0 g eH1
  rintro k σ h2 ⟨hk, g, hlen, hB, q1, q5, q24, q25, Z, bz, hZ⟩
  obtain ⟨st1, st2, st3⟩ := A.st wkok k hk
  simp (disch := omega) [q24, q25]
  refine fork_dec (fun hlt => ?_) (fun hge => ?_)
  · have k1 : k < N := by omega
    have hok := wkok k k1
    have hsgk := wksg k k1
    obtain ⟨oc, eoc⟩ : ∃ oc, oc = curvesSt f sg wk N k := ⟨_, rfl⟩
    have esucc : curvesSt f sg wk N (k + 1) = if 0 ≤ at0 oc.1 k then oc else (paint f sg (wk k) oc.2 oc.1 (perW f (wk k)), oc.2 + 1) := by rw [eoc]; rfl
    rw [← eoc] at hB hZ st1 st2 st3
    obtain ⟨O, c⟩ := oc
    simp only at hB hZ st1 st2 st3 esucc
    have hcell : cell h2 B k = some (I (at0 O k)) := cell_of hB (by simp [ints, at0, List.getD_eq_getElem?_getD, show k < O.length by omega])
    simp (disch := omega) [q5, q24, q25, k1, hcell]
    refine fork_dec (fun hpos => ?_) (fun hneg => ?_)
    · simp (disch := omega) [q24, q25, wrap64]
      rw [if_pos hpos] at esucc
      refine ⟨k + 1, ⟨by omega, g, by omega, ?_, q1, q5, by omega, Z, bz, ?_⟩, by omega⟩
      · have := (List.getElem?_eq_some_iff.1 hB).2
        simpa [esucc] using this
      · rw [esucc]; exact hZ
    · rw [if_neg hneg] at esucc
      have c2 := c56 h2 W H s k w8 hh8 (by omega)
      rw [← ewk] at c2
      obtain ⟨u, eu⟩ : ∃ u, u = wk k := ⟨_, rfl⟩
      rw [← eu] at c2 hok esucc hsgk
      obtain ⟨P1, P2, P3, P4⟩ := A.per hok
      obtain ⟨R1, R2⟩ := A.run hok (c := (c : Int)) (by omega) st1 st2 (by rw [hsgk]; omega)
      obtain ⟨n, en⟩ : ∃ n, n = perW f u := ⟨_, rfl⟩
      rw [← en] at P1 P2 P3 P4 R1 R2 esucc
      simp (disch := omega) [q1]
      refine callW_of c2 ?_
      rintro _ h3 ⟨rfl, rfl⟩
      refine ⟨fun e => (by cases e), ?_⟩
      simp (disch := omega) [wv_eq]
      obtain ⟨b7, e7⟩ := bz.sl1
      rw [hZ] at e7
      rw [e7] at bz
      have hg3 := g.le
      refine awp_loop (fun (j : Nat) σ' h' => j ≤ n ∧ Grows h0 h' ∧ B + 1 ≤ h'.length ∧ h'[B]? = some ⟨ints (paint f sg u c O j), true⟩ ∧ σ' 1 = .agg #[I W, I H, s] ∧ σ' 4 = sl b7 0 c 1 ∧ σ' 5 = sl B 0 N 1 ∧ σ' 9 = wv (itW f j u) ∧ σ' 24 = I N ∧ σ' 25 = I k ∧ Buf H1 h' (sl b7 0 c 1) 1 Z ∧ ∃ Q, Buf H1 h' (σ' 8) 4 Q ∧ Q.length = 4 * j ∧ Apart (σ' 8) (sl b7 0 c 1)) (fun j => n - j) 0 ?_ ?_
      · refine ⟨by omega, g, by omega, hB, by simpa using q1, by simpa using e7, by simpa using q5, by simp [wv_eq, itW], by simpa using q24, by simpa using q25, bz, [], by simpa using Buf.nil, rfl, ?_⟩
        intro b c n m z y h1 h2 e
        simp [sl] at h1; omega
      rintro j τ h5 ⟨hj, g5, l5, hB5, r1, r4, r5, r9, r24, r25, bz5, Q, bq, hQ, ap⟩
      have hoj := A.vi hok j
      obtain ⟨v, ev⟩ : ∃ v, v = itW f j u := ⟨_, rfl⟩
      rw [← ev] at r9 hoj
      have hsv : sg v < N := A.lt _ hoj
      have hcell : cell h5 B (sg v) = some (I (at0 (paint f sg u c O j) (sg v))) := cell_of hB5 (by simp [ints, at0, List.getD_eq_getElem?_getD, paint_len, st1, hsv])
      obtain ⟨x, y, dx, dy⟩ := v
      simp only [wv] at r9
      have c5 := c50 h5 W H s x y dx dy w8 hh8 hoj
      rw [← esg] at c5
      simp (disch := omega) [r1, r5, r9]
      refine callW_of c5 ?_
      rintro _ h6 ⟨rfl, rfl⟩
      refine ⟨fun e => (by cases e), ?_⟩
      simp (disch := omega) [hsv, hcell]
      refine fork_dec (fun hlt => ?_) (fun hge => ?_)
      · have j1 : j < n := by
          rcases Nat.lt_or_ge j n with q | q
          · exact q
          · have : j = n := by omega
            subst this
            rw [← ev] at R2; omega
        have st := store_one (v := I c) (o := sg (x, y, dx, dy)) hB5 (by simp [ints, paint_len, st1]; omega)
        simp (disch := omega) [r1, r4, r5, r9]
        refine callW_of c5 ?_
        rintro _ h7 ⟨rfl, rfl⟩
        refine ⟨fun e => (by cases e), ?_⟩
        simp (disch := omega) [hsv, st]
        obtain ⟨h8, e8⟩ : ∃ h8, h8 = List.set h7 B { cells := (ints (paint f sg u (↑c) O j)).set (sg (x, y, dx, dy)) (I ↑c), rw := true } := ⟨_, rfl⟩
        rw [← e8]
        have g8 : Grows h0 h8 := by rw [e8]; exact g5.put (by omega) _
        have l8 : h8.length = h7.length := by rw [e8]; simp
        have hB8 : h8[B]? = some ⟨ints (paint f sg u c O (j + 1)), true⟩ := by
          have : B < h7.length := at_lt hB5
          rw [e8]
          simp [this, paint, ← ev, ints, List.map_set]
        have bz8 : Buf H1 h8 (sl b7 0 c 1) 1 Z := by rw [e8]; exact bz5.put (by omega)
        have bq8 : Buf H1 h8 (τ 8) 4 Q := by rw [e8]; exact bq.put (by omega)
        have eb : aBuildSlice 4 1 h8 [(0, .agg #[I 0, I 0, I 0, I 0]), (4, .agg #[I x, I y, I dx, I dy])] = some (sl h8.length 0 1 4, h8 ++ [⟨[I x, I y, I dx, I dy], true⟩]) := by simp [aBuildSlice]
        rw [eb]
        simp only [bindW_some]
        refine app1 (by omega) g8 (by omega) (by omega) bq8 (by simp) (by omega) (by simp [maxSize]; omega) fun v9 h9 g9 l9 b9 n9 fr9 => ?_
        have bz9 := bz8.keep (by omega) ap fr9
        have hB9 := fr9 B _ hB8 (bq8.ne (by omega) (by omega))
        have ap9 := apart_of (by omega) bz8 n9
        refine callW_of (c54 h9 W H br s x y dx dy ok0 (hr.grow g9) hoj) ?_
        rintro _ h10 ⟨⟨q, rfl⟩, rfl⟩
        refine ⟨fun e => (by cases e), ?_⟩
        obtain ⟨a1, a2, a3, a4, eabcd⟩ : ∃ a b c d, stepW W.toNat H.toNat br (x, y, dx, dy) = (a, b, c, d) := ⟨_, _, _, _, rfl⟩
        rw [eabcd]
        have e9 : itW f (j + 1) u = (a1, a2, a3, a4) := by show f (itW f j u) = _; rw [← ev, ef]; exact eabcd
        have hB9' := (List.getElem?_eq_some_iff.1 hB9).2
        simp (disch := omega) [wv_eq]
        exact ⟨j + 1, ⟨by omega, g9, by omega, by simpa using hB9', by simp [e9], r24, r25, bz9, _, b9, by simp; omega, ap9⟩, by omega⟩
      · have ej : j = n := by
          rcases Nat.lt_or_ge j n with q | q
          · have := R1 j q; rw [← ev] at this; omega
          · omega
        subst ej
        obtain ⟨b8, n8, e8⟩ : ∃ b n, τ 8 = sl b 0 n 4 := by
          rcases bq with ⟨e1, e2⟩ | ⟨b, n, e1, _⟩
          · exact ⟨0, 0, e2⟩
          · exact ⟨b, n, e1⟩
        have eb : aBuildSlice 1 1 h6 [(0, .agg #[sl 0 0 0 0]), (1, sl b8 0 n8 4)] = some (sl h6.length 0 1 1, h6 ++ [⟨[sl b8 0 n8 4], true⟩]) := by simp [aBuildSlice]
        simp (disch := omega) [r1, r4, r5, e8]
        rw [eb]
        simp only [bindW_some]
        refine app1 (by omega) g5 (by omega) (by omega) bz5 (by simp) (by omega) (by simp [hZ, maxSize]; omega) fun v6 h7 g6 l6 b6 n6 fr6 => ?_
        have hB6 := fr6 B _ hB5 (bz5.ne (by omega) (by omega))
        simp (disch := omega) [r1, r5, r24, r25, wrap64]
        refine ⟨k + 1, ⟨by omega, g6, by omega, ?_, by omega, _, b6, ?_⟩, by omega⟩
        · have := (List.getElem?_eq_some_iff.1 hB6).2
          simpa [esucc] using this
        · rw [esucc]; simp [hZ]
  · have e : k = N := by omega
    obtain ⟨b7, e7⟩ := bz.sl1
    rw [hZ] at e7
    simp (disch := omega) [e7, q5]
    exact ⟨g, by rw [e]⟩
theorem c154 (h : Heap) (hp : 0 < h.length) (v : Value) (X : Pan) (hv : Vr h shPanel v X) (ok : OkP X) : ACall Gam 154 [v] h fun r h' => Grows h h' ∧ r = I (curveN X) := by
  obtain ⟨W, H, br⟩ := X
  obtain ⟨s, rfl, w1, w2, r0⟩ := hv.panel
  refine ACall_intro g154 rfl ?_
  unfold fn154
  simp (disch := omega)
  refine callW_of (c55 h hp W H br s ok r0) ?_
  rintro _ h' ⟨g, b1, b2, rfl⟩
  refine ⟨fun _ => g, ?_⟩
  simp (disch := omega)
  try exact g
end Am
/-! AmY36 -/
set_option linter.unusedVariables false
set_option linter.unusedSimpArgs false
set_option maxHeartbeats 4000000
set_option maxRecDepth 4000
namespace Am
open Go

/-- The breaks after the first steps from the start. -/
def fwdB (p : List Trip) (c : List Int) (k : Nat) : List Int := (p.take k).foldl (fun b s => b.set s.1.toNat s.2.2) c
noncomputable def alongL (X : Jrn) (k : Nat) : List Int := (List.range k).map fun j => (curveN (X.1.1, X.1.2.1, fwdB X.2.1 (startB X) j) : Int)
noncomputable def alongA (X : Jrn) : List Int × Int := if okJ X then (alongL X (X.2.1.length + 1), 0) else ([], 1)
theorem curvesSt_le {f : Wk → Wk} {seg : Wk → Nat} {wk : Nat → Wk} {N : Nat} : ∀ k, (curvesSt f seg wk N k).2 ≤ k
  | 0 => by simp [curvesSt]
  | k + 1 => by
    have := curvesSt_le (f := f) (seg := seg) (wk := wk) (N := N) k
    simp only [curvesSt]; split
    · omega
    · simp only; omega
theorem curveN_le {X : Pan} (ok : OkP X) : curveN X ≤ 256 := by
  have h1 : curveN X ≤ 4 * X.1.toNat * X.2.1.toNat := curvesSt_le _
  have h2 : 4 * X.1.toNat * X.2.1.toNat ≤ 4 * 8 * 8 := Nat.mul_le_mul (by have := ok.w; omega) (by have := ok.h; omega)
  omega
structure AlongOk (W H : Int) (br : List Int) (p f : List Trip) : Prop where
  ok : ∀ k, k ≤ p.length → OkP (W, H, fwdB p (startB ((W, H, br), p, f)) k)
  st : ∀ k, (h : k < p.length) → (0 ≤ p[k].1 ∧ p[k].1 < (fwdB p (startB ((W, H, br), p, f)) k).length)
  len : ∀ k, k ≤ p.length → (fwdB p (startB ((W, H, br), p, f)) k).length = br.length
  le : p.length ≤ 50
end Am
/-! AmY37 -/
set_option linter.unusedVariables false
set_option linter.unusedSimpArgs false
set_option maxHeartbeats 4000000
set_option maxRecDepth 4000
namespace Am
open Go

end Am
/-! AmG4 -/
set_option linter.unusedVariables false
set_option linter.unusedSimpArgs false
set_option maxHeartbeats 4000000
set_option maxRecDepth 4000
namespace Am
open Go

/-! ### libraries -/
/-- One entry at the head of bytes, and what is behind it; more bytes than the entry needs must be there. -/
def oneP (more : Nat) (r : List UInt8) : Option (Kpt × List UInt8) :=
  if r.length < bn r 0 + 4 + more then none
  else if okSz (bn (r.drop (bn r 0 + 1)) 1) (bn (r.drop (bn r 0 + 1)) 2) = false ∨ ((r.drop (bn r 0 + 1)).length : Int) < packSize (bn (r.drop (bn r 0 + 1)) 1) (bn (r.drop (bn r 0 + 1)) 2) then none
  else if unOk ((r.drop (bn r 0 + 1)).take (packSize (bn (r.drop (bn r 0 + 1)) 1) (bn (r.drop (bn r 0 + 1)) 2)).toNat) then
    some ((((r.take (bn r 0 + 1)).drop 1), unP ((r.drop (bn r 0 + 1)).take (packSize (bn (r.drop (bn r 0 + 1)) 1) (bn (r.drop (bn r 0 + 1)) 2)).toNat)), (r.drop (bn r 0 + 1)).drop (packSize (bn (r.drop (bn r 0 + 1)) 1) (bn (r.drop (bn r 0 + 1)) 2)).toNat)
  else none
def parK (more : Nat) : Nat → List UInt8 → Option (Lib × List UInt8)
  | 0, r => some ([], r)
  | n + 1, r => match oneP more r with
    | none => none
    | some (k, t) => (parK more n t).map fun p => (k :: p.1, p.2)
open Classical in
/-- The library with a packed form. -/
noncomputable def unpackK (s : List UInt8) : Lib × Int := if h : ∃ X, keptOk X = true ∧ packK X = s then (Classical.choose h, 0) else ([], 8)
theorem KeptOk.pk {X : Lib} (ok : KeptOk X) : ∀ e ∈ X, OkP e.2 ∧ e.1.length ≤ 12 := by
  intro e he
  obtain ⟨i, hi, rfl⟩ := List.getElem_of_mem he
  exact ok.getOk hi
end Am
/-! AmG1 -/
set_option linter.unusedVariables false
set_option linter.unusedSimpArgs false
set_option maxHeartbeats 4000000
set_option maxRecDepth 4000
namespace Am
open Go

/-! ### counting -/
open Classical in
noncomputable def ind (p : Prop) : Nat := if p then 1 else 0
theorem ind_yes {p : Prop} (h : p) : ind p = 1 := by unfold ind; exact if_pos h
theorem ind_no {p : Prop} (h : ¬ p) : ind p = 0 := by unfold ind; exact if_neg h
noncomputable def cntP (P : Nat → Prop) : Nat → Nat
  | 0 => 0
  | n + 1 => cntP P n + ind (P n)
theorem cntP_congr {P Q : Nat → Prop} : ∀ {n}, (∀ k, k < n → (P k ↔ Q k)) → cntP P n = cntP Q n
  | 0, _ => rfl
  | n + 1, h => by
    simp only [cntP]
    rw [cntP_congr (n := n) fun k hk => h k (by omega), propext (h n (by omega))]
theorem cntP_add {P : Nat → Prop} {a : Nat} : ∀ {b}, cntP P (a + b) = cntP P a + cntP (fun k => P (a + k)) b
  | 0 => rfl
  | b + 1 => by
    rw [← Nat.add_assoc]
    simp only [cntP]
    rw [cntP_add (b := b)]
    omega

/-! ### classes -/
def leastE (E : Nat → Nat → Prop) (k : Nat) : Prop := ∀ j, j < k → ¬ E j k
noncomputable def cls (E : Nat → Nat → Prop) (n : Nat) : Nat := cntP (leastE E) n
structure EqN (E : Nat → Nat → Prop) (n : Nat) : Prop where
  rf : ∀ k, k < n → E k k
  sm : ∀ j k, j < n → k < n → E j k → E k j
  tr : ∀ i j k, i < n → j < n → k < n → E i j → E j k → E i k
/-! ### one-to-one steps -/
section
variable {α : Type} {f g : α → α} {V : α → Prop} {ix : Nat → α} {n : Nat}
structure Inj (f : α → α) (V : α → Prop) (ix : Nat → α) (n : Nat) : Prop where
  vf : ∀ w, V w → V (f w)
  inj : ∀ w v, V w → V v → f w = f v → w = v
  cov : ∀ w, V w → ∃ j, j < n ∧ ix j = w
  vx : ∀ j, j < n → V (ix j)
def Go1 (f : α → α) (w v : α) : Prop := ∃ i, itW f i w = v
theorem Go1.refl (w : α) : Go1 f w w := ⟨0, rfl⟩
theorem Go1.trans {u v w : α} (x : Go1 f u v) (y : Go1 f v w) : Go1 f u w := by
  obtain ⟨i, rfl⟩ := x
  obtain ⟨j, rfl⟩ := y
  exact ⟨i + j, itW_add i j u⟩
theorem Go1.step {u v : α} (x : Go1 f u v) : Go1 f u (f v) := by
  obtain ⟨i, rfl⟩ := x
  exact ⟨i + 1, rfl⟩
theorem Inj.vi (a : Inj f V ix n) {w : α} (h : V w) : ∀ k, V (itW f k w)
  | 0 => h
  | k + 1 => a.vf _ (a.vi h k)
theorem Inj.injI (a : Inj f V ix n) {u v : α} (h : V u) (h' : V v) : ∀ k, itW f k u = itW f k v → u = v
  | 0, e => e
  | k + 1, e => a.injI h h' k (a.inj _ _ (a.vi h k) (a.vi h' k) e)
theorem Inj.again (a : Inj f V ix n) {w : α} (h : V w) : ∃ p, 0 < p ∧ itW f p w = w := by
  have hc : ∀ i, ∃ j, j < n ∧ ix j = itW f i w := fun i => a.cov _ (a.vi h i)
  obtain ⟨i, j, h1, h2, h3⟩ := pigeon n (fun i => Classical.choose (hc i)) fun i _ => (Classical.choose_spec (hc i)).1
  have e1 := (Classical.choose_spec (hc i)).2
  have e2 := (Classical.choose_spec (hc j)).2
  have h3' : Classical.choose (hc i) = Classical.choose (hc j) := h3
  rw [h3', e2] at e1
  refine ⟨j - i, by omega, ?_⟩
  have : itW f i (itW f (j - i) w) = itW f i w := by
    rw [← itW_add, show j - i + i = j by omega, e1]
  exact a.injI (a.vi h (j - i)) h i this
theorem it_mul {w : α} {p : Nat} (hp : itW f p w = w) : ∀ m, itW f (p * m) w = w
  | 0 => rfl
  | m + 1 => by rw [Nat.mul_succ, itW_add, it_mul hp m, hp]
theorem it_mod {w : α} {p : Nat} (hp : itW f p w = w) (i : Nat) : itW f i w = itW f (i % p) w := by
  have := Nat.div_add_mod i p
  have e : itW f i w = itW f (p * (i / p) + i % p) w := by rw [this]
  rw [e, itW_add, it_mul hp]
theorem Inj.symm (a : Inj f V ix n) {u v : α} (h : V u) (x : Go1 f u v) : Go1 f v u := by
  obtain ⟨i, rfl⟩ := x
  obtain ⟨p, hp, e⟩ := a.again h
  refine ⟨p * i - i, ?_⟩
  have : i ≤ p * i := Nat.le_mul_of_pos_left i hp
  rw [← itW_add, show i + (p * i - i) = p * i by omega, it_mul e]
def relE (f : α → α) (ix : Nat → α) (j k : Nat) : Prop := Go1 f (ix j) (ix k)
end

/-! ### walkers -/
section
variable {α : Type} {f g R : α → α} {seg : α → Nat} {V : α → Prop} {N : Nat} {wk : Nat → α}
/-- What the walkers along the segments are. -/
structure Segs (seg : α → Nat) (V : α → Prop) (wk : Nat → α) (N : Nat) : Prop where
  ok : ∀ k, k < N → V (wk k)
  sg : ∀ k, k < N → seg (wk k) = k
def ixW (R : α → α) (wk : Nat → α) (j : Nat) : α := if j % 2 = 0 then wk (j / 2) else R (wk (j / 2))
theorem Walks.sgR (a : Walks f R seg V N) {w : α} (h : V w) : seg (R w) = seg w := (a.sg _ _ (a.vr w h) h).2 (.inr rfl)
theorem ix_seg (a : Walks f R seg V N) (s : Segs seg V wk N) {j : Nat} (hj : j < 2 * N) : seg (ixW R wk j) = j / 2 ∧ V (ixW R wk j) := by
  have h := s.ok (j / 2) (by omega)
  unfold ixW
  split
  · exact ⟨s.sg _ (by omega), h⟩
  · exact ⟨by rw [a.sgR h]; exact s.sg _ (by omega), a.vr _ h⟩
theorem Walks.inj' (a : Walks f R seg V N) (s : Segs seg V wk N) : Inj f V (ixW R wk) (2 * N) := by
  refine ⟨a.vf, fun w v h1 h2 e => a.inj h1 h2 e, fun w h => ?_, fun j hj => (ix_seg a s hj).2⟩
  have hl := a.lt w h
  have hk := s.ok _ hl
  rcases (a.sg _ _ h hk).1 (s.sg _ hl).symm with q | q
  · refine ⟨2 * seg w, by omega, ?_⟩
    unfold ixW
    rw [if_pos (by omega), show 2 * seg w / 2 = seg w by omega]; exact q.symm
  · refine ⟨2 * seg w + 1, by omega, ?_⟩
    unfold ixW
    rw [if_neg (by omega), show (2 * seg w + 1) / 2 = seg w by omega]; exact q.symm
/-- A segment is met from a segment. -/
def meets (f : α → α) (seg : α → Nat) (wk : Nat → α) (t s : Nat) : Prop := ∃ i, seg (itW f i (wk t)) = s
theorem Walks.mirror (a : Walks f R seg V N) (s : Segs seg V wk N) {w v : α} (h : V w) (x : Go1 f w v) : Go1 f (R w) (R v) := by
  obtain ⟨i, rfl⟩ := x
  exact (a.inj' s).symm (a.vr _ (a.vi h i)) ⟨i, a.back h i⟩
theorem Walks.meets_trans (a : Walks f R seg V N) (s : Segs seg V wk N) {t k u : Nat} (ht : t < N) (hk : k < N) (x : meets f seg wk t k) (y : meets f seg wk k u) : meets f seg wk t u := by
  obtain ⟨i, e⟩ := x
  obtain ⟨i', e'⟩ := y
  have vk := s.ok k hk
  have vt := s.ok t ht
  rw [← s.sg k hk] at e
  rcases (a.sg _ _ (a.vi vt i) vk).1 e with q | q
  · exact ⟨i + i', by rw [itW_add, q]; exact e'⟩
  · have := a.mirror s vk ⟨i', rfl⟩
    rw [← q] at this
    obtain ⟨i2, e2⟩ := this
    exact ⟨i + i2, by rw [itW_add, e2, a.sgR (a.vi vk i'), e']⟩
/-- The number of curves is the number of least segments. -/
theorem Walks.count (a : Walks f R seg V N) (s : Segs seg V wk N) : ∀ k, k ≤ N → (∀ u, u < N → (0 ≤ at0 (curvesSt f seg wk N k).1 u ↔ ∃ t, t < k ∧ meets f seg wk t u)) ∧ (curvesSt f seg wk N k).2 = cntP (leastE (meets f seg wk)) k
  | 0, _ => by
    refine ⟨fun u hu => ?_, rfl⟩
    simp [curvesSt, at0, List.getD_eq_getElem?_getD, List.getElem?_replicate, hu]
  | k + 1, hk => by
    obtain ⟨h1, h2⟩ := a.count s k (by omega)
    have hl := (a.st s.ok k (by omega)).1
    have own := h1 k (by omega)
    simp only [curvesSt, cntP]
    split
    · rename_i q
      obtain ⟨t, ht, m⟩ := own.1 q
      refine ⟨fun u hu => ?_, ?_⟩
      · rw [h1 u hu]
        constructor
        · rintro ⟨t', a1, a2⟩; exact ⟨t', by omega, a2⟩
        · rintro ⟨t', a1, a2⟩
          by_cases e : t' = k
          · subst e; exact ⟨t, ht, a.meets_trans s (by omega) (by omega) m a2⟩
          · exact ⟨t', by omega, a2⟩
      · rw [h2, ind_no (fun l => l t ht m)]; rfl
    · rename_i q
      have vk := s.ok k (by omega)
      obtain ⟨p1, p2, p3, p4⟩ := a.per vk
      refine ⟨fun u hu => ?_, ?_⟩
      · simp only
        rw [paint_at (by omega)]
        have e : (∃ j, j < perW f (wk k) ∧ seg (itW f j (wk k)) = u) ↔ meets f seg wk k u := by
          constructor
          · rintro ⟨j, _, e⟩; exact ⟨j, e⟩
          · rintro ⟨j, e⟩
            exact ⟨j % perW f (wk k), Nat.mod_lt _ p1, by rw [← it_mod p3]; exact e⟩
        by_cases m : ∃ j, j < perW f (wk k) ∧ seg (itW f j (wk k)) = u
        · rw [if_pos m]
          exact ⟨fun _ => ⟨k, by omega, e.1 m⟩, fun _ => by omega⟩
        · rw [if_neg m, h1 u hu]
          constructor
          · rintro ⟨t', a1, a2⟩; exact ⟨t', by omega, a2⟩
          · rintro ⟨t', a1, a2⟩
            by_cases e' : t' = k
            · subst e'; exact absurd (e.2 a2) m
            · exact ⟨t', by omega, a2⟩
      · simp only
        rw [h2, ind_yes]
        intro t ht m
        exact q (own.2 ⟨t, ht, m⟩)
end
end Am
/-! AmG2 -/
set_option linter.unusedVariables false
set_option linter.unusedSimpArgs false
set_option maxHeartbeats 4000000
set_option maxRecDepth 4000
namespace Am
open Go

theorem segs {W H : Nat} (h1 : 1 ≤ H) : Segs (segW H) (OkW W H) (wkW H) (4 * W * H) := ⟨fun k hk => wkW_ok h1 hk, fun k hk => wkW_seg (W := W) h1 hk⟩
theorem curveN_cnt {W H : Nat} {br : List Int} (w1 : 1 ≤ W) (h1 : 1 ≤ H) : curveN ((W : Int), (H : Int), br) = cntP (leastE (meets (stepW W H br) (segW H) (wkW H))) (4 * W * H) :=
  ((walks w1 h1).count (segs h1) _ (Nat.le_refl _)).2
/-- The walker that goes to a point in a direction. -/
def toW (x y dx dy : Int) : Wk := (x - dx, y - dy, dx, dy)
end Am
/-! AmG3 -/
set_option linter.unusedVariables false
set_option linter.unusedSimpArgs false
set_option maxHeartbeats 4000000
set_option maxRecDepth 4000
namespace Am
open Go

theorem ite_same {c d : Prop} [Decidable c] [Decidable d] {x y : Int} (h : c ↔ d) : (if c then x else y) = if d then x else y := by
  by_cases q : c
  · rw [if_pos q, if_pos (h.1 q)]
  · rw [if_neg q, if_neg fun e => q (h.2 e)]
section
variable {A B H : Nat} {a b j : List Int}
/-- The breaks of the joined panel. -/
def IsJoin (A B H : Nat) (a b j : List Int) : Prop := ∀ x y : Nat, (1 ≤ x ∧ x < 2 * (A + B)) → (1 ≤ y ∧ y < 2 * H) → (x + y) % 2 = 1 → at0 j (numP (A + B) x y) = if x = 2 * A then 1 else if x < 2 * A then at0 a (numP A x y) else at0 b (numP B (x - 2 * A) y)
theorem isJoin (h : j = (List.range (rowN (A + B) (2 * H))).map (joinF A B H a b)) : IsJoin A B H a b j := by
  intro x y hx hy hp
  have hl := numP_lt hx hy hp
  subst h
  have e : at0 ((List.range (rowN (A + B) (2 * H))).map (joinF A B H a b)) (numP (A + B) x y) = joinF A B H a b (numP (A + B) x y) := by
    unfold at0
    rw [List.getD_eq_getElem?_getD, List.getElem?_map, List.getElem?_range hl]
    rfl
  rw [e]
  unfold joinF
  rw [thePt_eq (numP_pt hx hy hp)]
def shW (A : Nat) (w : Wk) : Wk := (w.1 + 2 * A, w.2.1, w.2.2.1, w.2.2.2)
variable (w1 : 1 ≤ A) (w2 : 1 ≤ B) (hj : IsJoin A B H a b j)
include w1 w2 hj
theorem join_left {w : Wk} (hw : OkW A H w) : stepW (A + B) H j w = stepW A H a w := by
  obtain ⟨x, y, dx, dy⟩ := w
  obtain ⟨hdx, hdy, hx, hy, hnx, hny, hp⟩ := hw
  simp only at *
  obtain ⟨p, ep⟩ := Int.eq_ofNat_of_zero_le hnx.1
  obtain ⟨q, eq⟩ := Int.eq_ofNat_of_zero_le hny.1
  have hpq : (p + q) % 2 = 1 := by omega
  unfold stepW
  simp only [ep, eq, Prod.mk.injEq, true_and]
  rw [ep] at hnx
  rw [eq] at hny
  by_cases e0 : p = 0 ∨ q = 0 ∨ q = 2 * H
  · have k1 : kindW (A + B) H j p q = 0 := kindW_edge (by unfold edgeW; omega)
    have k2 : kindW A H a p q = 0 := kindW_edge (by unfold edgeW; omega)
    rw [k1, k2]
    refine ⟨ite_same ?_, ite_same ?_⟩ <;> omega
  · have kj := hj p q (by omega) (by omega) hpq
    have k1 : kindW (A + B) H j p q = at0 j (numP (A + B) p q) := by
      unfold kindW; rw [if_neg (by unfold edgeW; omega)]; simp
    by_cases e2 : p = 2 * A
    · have k2 : kindW A H a p q = 0 := kindW_edge (by unfold edgeW; omega)
      rw [if_pos e2] at kj
      rw [k1, k2, kj]
      refine ⟨ite_same ?_, ite_same ?_⟩ <;> omega
    · have k2 : kindW A H a p q = at0 a (numP A p q) := by
        unfold kindW; rw [if_neg (by unfold edgeW; omega)]; simp
      rw [if_neg e2, if_pos (by omega)] at kj
      rw [k1, k2, kj]
      refine ⟨ite_same ?_, ite_same ?_⟩ <;> omega
theorem join_right {w : Wk} (hw : OkW B H w) : stepW (A + B) H j (shW A w) = shW A (stepW B H b w) := by
  obtain ⟨x, y, dx, dy⟩ := w
  obtain ⟨hdx, hdy, hx, hy, hnx, hny, hp⟩ := hw
  simp only at *
  obtain ⟨p, ep⟩ := Int.eq_ofNat_of_zero_le hnx.1
  obtain ⟨q, eq⟩ := Int.eq_ofNat_of_zero_le hny.1
  have hpq : (p + q) % 2 = 1 := by omega
  obtain ⟨r, hr⟩ : ∃ r, r = p + 2 * A := ⟨_, rfl⟩
  have ep' : x + 2 * (A : Int) + dx = (r : Int) := by omega
  have ep2 : (p : Int) + 2 * (A : Int) = (r : Int) := by omega
  unfold stepW shW
  simp only [ep', ep, eq, Prod.mk.injEq, true_and, ep2]
  rw [ep] at hnx
  rw [eq] at hny
  by_cases e0 : p = 2 * B ∨ q = 0 ∨ q = 2 * H
  · have k1 : kindW (A + B) H j (r : Int) q = 0 := kindW_edge (by unfold edgeW; omega)
    have k2 : kindW B H b p q = 0 := kindW_edge (by unfold edgeW; omega)
    rw [k1, k2]
    refine ⟨ite_same ?_, ite_same ?_⟩ <;> omega
  · have kj := hj r q (by omega) (by omega) (by omega)
    have k1 : kindW (A + B) H j (r : Int) q = at0 j (numP (A + B) r q) := by
      unfold kindW; rw [if_neg (by unfold edgeW; omega)]; simp
    by_cases e2 : p = 0
    · have k2 : kindW B H b p q = 0 := kindW_edge (by unfold edgeW; omega)
      rw [if_pos (by omega)] at kj
      rw [k1, k2, kj]
      refine ⟨ite_same ?_, ite_same ?_⟩ <;> omega
    · have k2 : kindW B H b p q = at0 b (numP B p q) := by
        unfold kindW; rw [if_neg (by unfold edgeW; omega)]; simp
      rw [if_neg (by omega), if_neg (by omega), show r - 2 * A = p by omega] at kj
      rw [k1, k2, kj]
      refine ⟨ite_same ?_, ite_same ?_⟩ <;> omega
omit hj in
omit w1 w2 hj in
theorem sh_seg {w : Wk} (hw : OkW B H w) : segW H (shW A w) = 4 * A * H + segW H w := by
  have hs : OkW (A + B) H (shW A w) := by
    obtain ⟨hdx, hdy, hx, hy, hnx, hny, hp⟩ := hw
    exact ⟨hdx, hdy, by simp only [shW]; omega, hy, by simp only [shW]; omega, hny, by simp only [shW]; omega⟩
  have c1 := seg_cast hs
  have c2 := seg_cast hw
  have e : minI (w.1 + 2 * (A : Int)) (w.1 + 2 * A + w.2.2.1) = minI w.1 (w.1 + w.2.2.1) + 2 * A := by
    unfold minI; split <;> split <;> omega
  have e2 : (minI w.1 (w.1 + w.2.2.1) + 2 * (A : Int)) * (2 * H) = minI w.1 (w.1 + w.2.2.1) * (2 * H) + 4 * A * H := by
    rw [Int.add_mul]
    congr 1
    rw [show (2 : Int) * A * (2 * H) = (2 * 2) * (A * H) by ac_rfl, show (4 : Int) * A * H = 4 * (A * H) by ac_rfl]
    rfl
  have h3 : ((4 * A * H : Nat) : Int) = 4 * A * H := by simp
  simp only [shW] at c1
  rw [e, e2] at c1
  have : (segW H (shW A w) : Int) = ((4 * A * H + segW H w : Nat) : Int) := by
    simp only [shW]
    rw [c1]
    simp only [Int.natCast_add, h3, c2]
    omega
  omega
omit w1 w2 hj in
theorem sh_wk {k : Nat} (h1 : 1 ≤ H) : wkW H (4 * A * H + k) = shW A (wkW H k) := by
  have e : 4 * A * H = 2 * H * (2 * A) := by
    rw [show 2 * H * (2 * A) = (2 * 2) * (A * H) by ac_rfl, show 4 * A * H = 4 * (A * H) by ac_rfl]
  have d : (4 * A * H + k) / (2 * H) = k / (2 * H) + 2 * A := by
    rw [e, Nat.mul_add_div (by omega)]; omega
  have m : (4 * A * H + k) % (2 * H) = k % (2 * H) := by
    rw [e, Nat.mul_add_mod]
  unfold wkW
  rw [d, m]
  generalize k / (2 * H) = u
  generalize k % (2 * H) = v
  by_cases q : (u + v) % 2 = 1
  · rw [if_pos q, if_pos (by omega)]
    simp only [shW, Prod.mk.injEq, and_true]
    omega
  · rw [if_neg q, if_neg (by omega)]
    simp only [shW, Prod.mk.injEq, and_true]
    omega
theorem it_left (h1 : 1 ≤ H) {w : Wk} (hw : OkW A H w) : ∀ i, itW (stepW (A + B) H j) i w = itW (stepW A H a) i w
  | 0 => rfl
  | i + 1 => by
    simp only [itW]
    rw [it_left h1 hw i, join_left w1 w2 hj ((walks (br := a) w1 h1).vi hw i)]
theorem it_right (h1 : 1 ≤ H) {w : Wk} (hw : OkW B H w) : ∀ i, itW (stepW (A + B) H j) i (shW A w) = shW A (itW (stepW B H b) i w)
  | 0 => rfl
  | i + 1 => by
    simp only [itW]
    rw [it_right h1 hw i, join_right w1 w2 hj ((walks (br := b) w2 h1).vi hw i)]
theorem curve_join (h1 : 1 ≤ H) : curveN (((A + B : Nat) : Int), (H : Int), j) = curveN ((A : Int), (H : Int), a) + curveN ((B : Int), (H : Int), b) := by
  have hN : 4 * (A + B) * H = 4 * A * H + 4 * B * H := by rw [Nat.mul_add, Nat.add_mul]
  rw [curveN_cnt (by omega) h1, curveN_cnt w1 h1, curveN_cnt w2 h1, hN, cntP_add]
  have mA : ∀ t s, t < 4 * A * H → (meets (stepW (A + B) H j) (segW H) (wkW H) t s ↔ meets (stepW A H a) (segW H) (wkW H) t s) := by
    intro t s ht
    have e := it_left w1 w2 hj h1 (wkW_ok (W := A) h1 ht)
    constructor
    · rintro ⟨i, q⟩; exact ⟨i, by rw [← e]; exact q⟩
    · rintro ⟨i, q⟩; exact ⟨i, by rw [e]; exact q⟩
  have mB : ∀ t s, t < 4 * B * H → (meets (stepW (A + B) H j) (segW H) (wkW H) (4 * A * H + t) s ↔ ∃ s', s = 4 * A * H + s' ∧ meets (stepW B H b) (segW H) (wkW H) t s') := by
    intro t s ht
    have hw := wkW_ok (W := B) h1 ht
    have e := it_right w1 w2 hj h1 hw
    constructor
    · rintro ⟨i, q⟩
      rw [sh_wk h1, e, sh_seg ((walks (br := b) w2 h1).vi hw i)] at q
      exact ⟨_, q.symm, i, rfl⟩
    · rintro ⟨s', rfl, i, q⟩
      refine ⟨i, ?_⟩
      rw [sh_wk h1, e, sh_seg ((walks (br := b) w2 h1).vi hw i), q]
  congr 1
  · refine cntP_congr fun k hk => ?_
    constructor
    · intro l t ht m; exact l t ht ((mA t k (by omega)).2 m)
    · intro l t ht m; exact l t ht ((mA t k (by omega)).1 m)
  · refine cntP_congr fun k hk => ?_
    constructor
    · intro l t ht m
      exact l (4 * A * H + t) (by omega) ((mB t _ (by omega)).2 ⟨k, rfl, m⟩)
    · intro l t ht m
      by_cases q : t < 4 * A * H
      · obtain ⟨i, e⟩ := (mA t _ q).1 m
        have hv := (walks (br := a) w1 h1).vi (wkW_ok (W := A) h1 q) i
        have := seg_lt hv
        omega
      · obtain ⟨t', rfl⟩ : ∃ t', t = 4 * A * H + t' := ⟨t - 4 * A * H, by omega⟩
        obtain ⟨s', e, m'⟩ := (mB t' _ (by omega)).1 m
        have : s' = k := by omega
        subst this
        exact l t' (by omega) m'
end
theorem curve_joinP {X Y : Pan} (o1 : OkP X) (o2 : OkP Y) (h : X.2.1 = Y.2.1) : curveN (joinP X Y) = curveN X + curveN Y := by
  obtain ⟨A, H, a⟩ := X
  obtain ⟨B, H', b⟩ := Y
  have q1 := o1.w; have q2 := o1.h; have q3 := o2.w
  simp only at q1 q2 q3 h
  subst h
  obtain ⟨A, rfl⟩ := Int.eq_ofNat_of_zero_le (show 0 ≤ A by omega)
  obtain ⟨B, rfl⟩ := Int.eq_ofNat_of_zero_le (show 0 ≤ B by omega)
  obtain ⟨H, rfl⟩ := Int.eq_ofNat_of_zero_le (show 0 ≤ H by omega)
  exact curve_join (by omega) (by omega) (isJoin rfl) (by omega)
end Am
/-! AmG5 -/
set_option linter.unusedVariables false
set_option linter.unusedSimpArgs false
set_option maxHeartbeats 4000000
set_option maxRecDepth 4000
namespace Am
open Go

structure SqOk (W H : Int) (br : List Int) (p f : List Trip) : Prop where
  ok : okJ ((W, H, br), dpre (startB ((W, H, br), p, f)) br br.length, []) = true
  len : (dpre (startB ((W, H, br), p, f)) br br.length).length ≤ p.length
  st : startB ((W, H, br), dpre (startB ((W, H, br), p, f)) br br.length, []) = startB ((W, H, br), p, f)
  fin : fwdB p (startB ((W, H, br), p, f)) p.length = br
noncomputable def curveA (X : Pan) : Int × Int := if okP X then ((curveN X : Int), 0) else (0, 1)
theorem c340 (h : Heap) (hp : 0 < h.length) (v : Value) (X : Pan) (hv : Vr h shPanel v X) (hs : siz shPanel X ≤ 1048576) : ACall Gam 340 [v] h fun r h' => Grows h h' ∧ r = .tuple #[I (curveA X).1, I (curveA X).2] := by
  obtain ⟨W, H, br⟩ := X
  obtain ⟨s, rfl, w1, w2, r⟩ := hv.panel
  refine ACall_intro g340 rfl ?_
  unfold fn340
  simp (disch := omega)
  obtain ⟨h1, e1⟩ : ∃ h1, h1 = h ++ [⟨[I W, I H, s], true⟩] := ⟨_, rfl⟩
  have g1 : Grows h h1 := ⟨_, e1⟩
  have kb : h1[h.length]? = some ⟨[I W, I H, s], true⟩ := by rw [e1]; simp
  rw [← e1]
  have pp := PtP.at kb (r.grow g1) w1 w2
  have l1 := g1.le
  refine callW_of (c452 _ (W, H, br) h1 pp) ?_
  rintro _ h1 ⟨rfl, rfl⟩
  try refine ⟨fun e => (by cases e), ?_⟩
  cases q : okP (W, H, br)
  · have e : curveA (W, H, br) = (0, 1) := by unfold curveA; rw [q]; rfl
    rw [e]
    simp (disch := omega)
    exact g1
  · have e : curveA (W, H, br) = ((curveN (W, H, br) : Int), 0) := by unfold curveA; rw [q]; rfl
    rw [e]
    simp (disch := omega)
    refine callW_of (c465 h1 (by omega) _ _ pp (okP_iff.1 q)) ?_
    rintro _ h2 ⟨g2, rfl⟩
    try refine ⟨fun e => (by first | exact g2 | cases e), ?_⟩
    simp (disch := omega)
    exact g1.trans g2
end Am

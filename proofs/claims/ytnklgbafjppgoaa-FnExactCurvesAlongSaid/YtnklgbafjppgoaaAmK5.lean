/- Contracts: AmY33, AmY36, AmY37. -/
import Derived.Test.YtnklgbafjppgoaaAmK4
import Derived.Test.YtnklgbafjppgoaaAmK3
set_option linter.unusedVariables false
set_option linter.unusedSimpArgs false
set_option maxHeartbeats 4000000
set_option maxRecDepth 40000
namespace Am
open Go
theorem wv_eq (w : Wk) : wv w = .agg #[I w.1, I w.2.1, I w.2.2.1, I w.2.2.2] := rfl
theorem c55 (h : Heap) (hp : 0 < h.length) (W H : Int) (br : List Int) (s : Value) (ok : OkP (W, H, br)) (hr : Vr h shInts s br) : ACall Gam 55 [.agg #[I W, I H, s]] h fun r h' => Grows h h' ∧ ∃ b1 b2, r = .tuple #[sl b1 0 (curveN (W, H, br)) 1, sl b2 0 (4 * W.toNat * H.toNat) 1] := by
 have A := walks (W := W.toNat) (H := H.toNat) (br := br) (by have := ok.w; simp at this; omega) (by have := ok.h; simp at this; omega)
 have ok0 := ok
 obtain ⟨w8, hh8, _, _⟩ := ok
 simp only at w8 hh8
 obtain ⟨N, eN⟩ : ∃ N, N = 4 * W.toNat * H.toNat := ⟨_, rfl⟩
 have hN : N ≤ 256 := by
  rw [eN]; exact (Nat.mul_le_mul (by omega) (by omega) : 4 * W.toNat * H.toNat ≤ 4 * 8 * 8)
 have wkok : ∀ k, k < N → OkW W.toNat H.toNat (wkW H.toNat k) := fun k hk => wkW_ok (by omega) (by rw [← eN]; exact hk)
 have wksg : ∀ k, k < N → segW H.toNat (wkW H.toNat k) = k := fun k hk => wkW_seg (by omega) (by rw [← eN]; exact hk)
 have eC : curveN (W, H, br) = (curvesSt (stepW W.toNat H.toNat br) (segW H.toNat) (wkW H.toNat) N N).2 := by rw [eN]; rfl
 rw [← eN, eC]
 obtain ⟨f, ef⟩ : ∃ f, f = stepW W.toNat H.toNat br := ⟨_, rfl⟩
 rw [← eN] at A
 rw [← ef] at A ⊢
 obtain ⟨B, eB⟩ : ∃ B, B = h.length := ⟨_, rfl⟩
 have em : aMake 1 h (Value.int IntKind.i64 N) (Value.int IntKind.i64 N) (Value.agg #[I 0]) = some (sl B 0 N 1, h ++ [⟨ints (List.replicate N 0), true⟩]) := by
  simp (disch := omega) [aMake, maxSize, ints, eB]
  exact ⟨by omega, by simpa [ints] using reps_ints N⟩
 have c51' := fun hh => c51 hh W H s w8 hh8
 rw [← eN] at c51'
 refine ACall_intro g55 rfl ?_
 unfold fn55
 simp (disch := omega)
 refine callW_of (c51' h) ?_
 rintro _ h0 ⟨rfl, rfl⟩
 try refine ⟨fun _ => Grows.refl _, ?_⟩
 rw [em]
 simp only [bindW_some]
 simp (disch := omega)
 refine awp_loop (fun (k : Nat) σ h' => k ≤ N ∧ Grows h0 h' ∧ h'.length = B + 1 ∧ h'[B]? = some ⟨ints (List.replicate k (-1) ++ List.replicate (N - k) 0), true⟩ ∧ σ 1 = .agg #[I W, I H, s] ∧ σ 4 = sl 0 0 0 1 ∧ σ 5 = sl B 0 N 1 ∧ σ 15 = I N ∧ σ 16 = I k) (fun k => N - k) 0 ?_ ?_
 ·exact ⟨by omega, ⟨_, rfl⟩, by simp [eB], by simp [eB], by simp, by simp, by simp, by simp, by simp⟩
 rintro k σ h1' ⟨hk, g, hlen, hB, q1, q4, q5, q15, q16⟩
 simp (disch := omega) [q15, q16]
 refine fork_dec (fun hlt => ?_) (fun hge => ?_)
 ·have k1 : k < N := by omega
  have st := store_one (v := I (-1)) (o := k) hB (by simp [ints]; omega)
  simp (disch := omega) [q1, q4, q5, q15, q16, k1, st, wrap64]
  refine ⟨k + 1, ⟨by omega, g.put (by omega) _, hlen, ?_, by omega⟩, by omega⟩
  have hBl : B < h1'.length := by omega
  simp [hBl, ints]
  obtain ⟨m, hm⟩ : ∃ m, N - k = m + 1 := ⟨N - k - 1, by omega⟩
  rw [hm, show N - (k + 1) = m by omega, List.replicate_succ, List.set_cons_zero, List.replicate_succ']
  simp
 have hkN : N = k := by omega
 subst hkN
 simp (disch := omega) [q1]
 have hB0 : h1'[B]? = some ⟨ints (curvesSt f (segW H.toNat) (wkW H.toNat) N 0).1, true⟩ := by
  rw [hB]; simp [curvesSt]
 clear hB
 refine callW_of (c51' h1') ?_
 rintro _ h1' ⟨rfl, rfl⟩
 try refine ⟨fun _ => Grows.refl _, ?_⟩
 obtain ⟨H1, eH1⟩ : ∃ H1, H1 = h1' := ⟨_, rfl⟩
 have lH1 : H1.length = B + 1 := by rw [eH1]; exact hlen
 obtain ⟨sg, esg⟩ : ∃ sg, sg = segW H.toNat := ⟨_, rfl⟩
 obtain ⟨wk, ewk⟩ : ∃ wk, wk = wkW H.toNat := ⟨_, rfl⟩
 rw [← esg] at A wksg hB0 ⊢
 rw [← ewk] at wkok wksg hB0 ⊢
 refine awp_loop (fun (k : Nat) σ h' => k ≤ N ∧ Grows h0 h' ∧ B + 1 ≤ h'.length ∧ h'[B]? = some ⟨ints (curvesSt f sg wk N k).1, true⟩ ∧ σ 1 = .agg #[I W, I H, s] ∧ σ 5 = sl B 0 N 1 ∧ σ 24 = I N ∧ σ 25 = I k ∧ ∃ Z, Buf H1 h' (σ 4) 1 Z ∧ Z.length = (curvesSt f sg wk N k).2) (fun k => N - k) 0 ?_ ?_
 ·exact ⟨by omega, g, by omega, hB0, by simpa using q1, by simpa using q5, by simp, by simp, [], by simpa [q4] using Buf.nil, rfl⟩
 clear q1 q4 q5 q15 q16 hB0 g eH1
 rintro k σ h2 ⟨hk, g, hlen, hB, q1, q5, q24, q25, Z, bz, hZ⟩
 obtain ⟨st1, st2, st3⟩ := A.st wkok k hk
 simp (disch := omega) [q24, q25]
 refine fork_dec (fun hlt => ?_) (fun hge => ?_)
 ·have k1 : k < N := by omega
  have hok := wkok k k1
  have hsgk := wksg k k1
  obtain ⟨oc, eoc⟩ : ∃ oc, oc = curvesSt f sg wk N k := ⟨_, rfl⟩
  have esucc : curvesSt f sg wk N (k + 1) = if 0 ≤ at0 oc.1 k then oc else (paint f sg (wk k) oc.2 oc.1 (perW f (wk k)), oc.2 + 1) := by rw [eoc]; rfl
  rw [← eoc] at hB hZ st1 st2 st3
  obtain ⟨O, c⟩ := oc
  simp only at hB hZ st1 st2 st3 esucc
  have hcell : cell h2 B k = some (I (at0 O k)) := cell_of hB (by simp [ints, at0, List.getD_eq_getElem?_getD, show k < O.length by omega])
  simp (disch := omega) [q5, q24, q25, k1, hcell]
  refine fork_dec (fun hpos => ?_) (fun hneg => ?_)
  ·simp (disch := omega) [q24, q25, wrap64]
   rw [if_pos hpos] at esucc
   refine ⟨k + 1, ⟨by omega, g, by omega, ?_, q1, q5, by omega, Z, bz, ?_⟩, by omega⟩
   ·have := (List.getElem?_eq_some_iff.1 hB).2
    simpa [esucc] using this
   ·rw [esucc]; exact hZ
  ·rw [if_neg hneg] at esucc
   have c2 := c56 h2 W H s k w8 hh8 (by omega)
   rw [← ewk] at c2
   obtain ⟨u, eu⟩ : ∃ u, u = wk k := ⟨_, rfl⟩
   rw [← eu] at c2 hok esucc hsgk
   obtain ⟨P1, P2, P3, P4⟩ := A.per hok
   obtain ⟨R1, R2⟩ := A.run hok (c := (c : Int)) (by omega) st1 st2 (by rw [hsgk]; omega)
   obtain ⟨n, en⟩ : ∃ n, n = perW f u := ⟨_, rfl⟩
   rw [← en] at P1 P2 P3 P4 R1 R2 esucc
   simp (disch := omega) [q1]
   refine callW_of c2 ?_
   rintro _ h3 ⟨rfl, rfl⟩
   refine ⟨fun e => (by cases e), ?_⟩
   simp (disch := omega) [wv_eq]
   obtain ⟨b7, e7⟩ := bz.sl1
   rw [hZ] at e7
   rw [e7] at bz
   have hg3 := g.le
   refine awp_loop (fun (j : Nat) σ' h' => j ≤ n ∧ Grows h0 h' ∧ B + 1 ≤ h'.length ∧ h'[B]? = some ⟨ints (paint f sg u c O j), true⟩ ∧ σ' 1 = .agg #[I W, I H, s] ∧ σ' 4 = sl b7 0 c 1 ∧ σ' 5 = sl B 0 N 1 ∧ σ' 9 = wv (itW f j u) ∧ σ' 24 = I N ∧ σ' 25 = I k ∧ Buf H1 h' (sl b7 0 c 1) 1 Z ∧ ∃ Q, Buf H1 h' (σ' 8) 4 Q ∧ Q.length = 4 * j ∧ Apart (σ' 8) (sl b7 0 c 1)) (fun j => n - j) 0 ?_ ?_
   ·refine ⟨by omega, g, by omega, hB, by simpa using q1, by simpa using e7, by simpa using q5, by simp [wv_eq, itW], by simpa using q24, by simpa using q25, bz, [], by simpa using Buf.nil, rfl, ?_⟩
    intro b c n m z y h1 h2 e
    simp [sl] at h1; omega
   rintro j τ h5 ⟨hj, g5, l5, hB5, r1, r4, r5, r9, r24, r25, bz5, Q, bq, hQ, ap⟩
   have hoj := A.vi hok j
   obtain ⟨v, ev⟩ : ∃ v, v = itW f j u := ⟨_, rfl⟩
   rw [← ev] at r9 hoj
   have hsv : sg v < N := A.lt _ hoj
   have hcell : cell h5 B (sg v) = some (I (at0 (paint f sg u c O j) (sg v))) := cell_of hB5 (by simp [ints, at0, List.getD_eq_getElem?_getD, paint_len, st1, hsv])
   obtain ⟨x, y, dx, dy⟩ := v
   simp only [wv] at r9
   have c5 := c50 h5 W H s x y dx dy w8 hh8 hoj
   rw [← esg] at c5
   simp (disch := omega) [r1, r5, r9]
   refine callW_of c5 ?_
   rintro _ h6 ⟨rfl, rfl⟩
   refine ⟨fun e => (by cases e), ?_⟩
   simp (disch := omega) [hsv, hcell]
   refine fork_dec (fun hlt => ?_) (fun hge => ?_)
   ·have j1 : j < n := by
     rcases Nat.lt_or_ge j n with q | q
     ·exact q
     ·have : j = n := by omega
      subst this
      rw [← ev] at R2; omega
    have st := store_one (v := I c) (o := sg (x, y, dx, dy)) hB5 (by simp [ints, paint_len, st1]; omega)
    simp (disch := omega) [r1, r4, r5, r9]
    refine callW_of c5 ?_
    rintro _ h7 ⟨rfl, rfl⟩
    refine ⟨fun e => (by cases e), ?_⟩
    simp (disch := omega) [hsv, st]
    obtain ⟨h8, e8⟩ : ∃ h8, h8 = List.set h7 B { cells := (ints (paint f sg u (↑c) O j)).set (sg (x, y, dx, dy)) (I ↑c), rw := true } := ⟨_, rfl⟩
    rw [← e8]
    have g8 : Grows h0 h8 := by rw [e8]; exact g5.put (by omega) _
    have l8 : h8.length = h7.length := by rw [e8]; simp
    have hB8 : h8[B]? = some ⟨ints (paint f sg u c O (j + 1)), true⟩ := by
     have : B < h7.length := at_lt hB5
     rw [e8]
     simp [this, paint, ← ev, ints, List.map_set]
    have bz8 : Buf H1 h8 (sl b7 0 c 1) 1 Z := by rw [e8]; exact bz5.put (by omega)
    have bq8 : Buf H1 h8 (τ 8) 4 Q := by rw [e8]; exact bq.put (by omega)
    have eb : aBuildSlice 4 1 h8 [(0, .agg #[I 0, I 0, I 0, I 0]), (4, .agg #[I x, I y, I dx, I dy])] = some (sl h8.length 0 1 4, h8 ++ [⟨[I x, I y, I dx, I dy], true⟩]) := by simp [aBuildSlice]
    rw [eb]
    simp only [bindW_some]
    refine app1 (by omega) g8 (by omega) (by omega) bq8 (by simp) (by omega) (by simp [maxSize]; omega) fun v9 h9 g9 l9 b9 n9 fr9 => ?_
    have bz9 := bz8.keep (by omega) ap fr9
    have hB9 := fr9 B _ hB8 (bq8.ne (by omega) (by omega))
    have ap9 := apart_of (by omega) bz8 n9
    refine callW_of (c54 h9 W H br s x y dx dy ok0 (hr.grow g9) hoj) ?_
    rintro _ h10 ⟨⟨q, rfl⟩, rfl⟩
    refine ⟨fun e => (by cases e), ?_⟩
    obtain ⟨a1, a2, a3, a4, eabcd⟩ : ∃ a b c d, stepW W.toNat H.toNat br (x, y, dx, dy) = (a, b, c, d) := ⟨_, _, _, _, rfl⟩
    rw [eabcd]
    have e9 : itW f (j + 1) u = (a1, a2, a3, a4) := by show f (itW f j u) = _; rw [← ev, ef]; exact eabcd
    have hB9' := (List.getElem?_eq_some_iff.1 hB9).2
    simp (disch := omega) [wv_eq]
    exact ⟨j + 1, ⟨by omega, g9, by omega, by simpa using hB9', by simp [e9], r24, r25, bz9, _, b9, by simp; omega, ap9⟩, by omega⟩
   ·have ej : j = n := by
     rcases Nat.lt_or_ge j n with q | q
     ·have := R1 j q; rw [← ev] at this; omega
     ·omega
    subst ej
    obtain ⟨b8, n8, e8⟩ : ∃ b n, τ 8 = sl b 0 n 4 := by
     rcases bq with ⟨e1, e2⟩ | ⟨b, n, e1, _⟩
     ·exact ⟨0, 0, e2⟩
     ·exact ⟨b, n, e1⟩
    have eb : aBuildSlice 1 1 h6 [(0, .agg #[sl 0 0 0 0]), (1, sl b8 0 n8 4)] = some (sl h6.length 0 1 1, h6 ++ [⟨[sl b8 0 n8 4], true⟩]) := by simp [aBuildSlice]
    simp (disch := omega) [r1, r4, r5, e8]
    rw [eb]
    simp only [bindW_some]
    refine app1 (by omega) g5 (by omega) (by omega) bz5 (by simp) (by omega) (by simp [hZ, maxSize]; omega) fun v6 h7 g6 l6 b6 n6 fr6 => ?_
    have hB6 := fr6 B _ hB5 (bz5.ne (by omega) (by omega))
    simp (disch := omega) [r1, r5, r24, r25, wrap64]
    refine ⟨k + 1, ⟨by omega, g6, by omega, ?_, by omega, _, b6, ?_⟩, by omega⟩
    ·have := (List.getElem?_eq_some_iff.1 hB6).2
     simpa [esucc] using this
    ·rw [esucc]; simp [hZ]
 ·have e : k = N := by omega
  obtain ⟨b7, e7⟩ := bz.sl1
  rw [hZ] at e7
  simp (disch := omega) [e7, q5]
  exact ⟨g, by rw [e]⟩
theorem c154 (h : Heap) (hp : 0 < h.length) (v : Value) (X : Pan) (hv : Vr h shPanel v X) (ok : OkP X) : ACall Gam 154 [v] h fun r h' => Grows h h' ∧ r = I (curveN X) := by
 obtain ⟨W, H, br⟩ := X
 obtain ⟨s, rfl, w1, w2, r0⟩ := hv.panel
 refine ACall_intro g154 rfl ?_
 unfold fn154
 simp (disch := omega)
 refine callW_of (c55 h hp W H br s ok r0) ?_
 rintro _ h' ⟨g, b1, b2, rfl⟩
 refine ⟨fun _ => g, ?_⟩
 simp (disch := omega)
 try exact g
/-- The breaks after the first steps from the start. -/
def fwdB (p : List Trip) (c : List Int) (k : Nat) : List Int := (p.take k).foldl (fun b s => b.set s.1.toNat s.2.2) c
theorem fwdB_succ {p : List Trip} {c : List Int} {k : Nat} (h : k < p.length) : fwdB p c (k + 1) = (fwdB p c k).set p[k].1.toNat p[k].2.2 := by
 unfold fwdB
 rw [List.take_succ_eq_append_getElem h, List.foldl_append]
 rfl
theorem runB_all : ∀ {l : List Trip} {br c : List Int}, runB l br = some c → ∀ s ∈ l, okStep br.length s = true
 | [], _, _, _ => by simp
 | s :: l, br, c, h => by
  simp only [runB] at h
  split at h
  ·rename_i q
   simp only [Bool.and_eq_true] at q
   intro t ht
   rcases List.mem_cons.1 ht with rfl | ht
   ·exact q.1
   ·have := runB_all h t ht
    simpa using this
  ·cases h
theorem fwdB_ok {p : List Trip} {c : List Int} {n : Nat} (hc : c.length = n) (hc2 : ∀ x ∈ c, 0 ≤ x ∧ x ≤ 2) (hp : ∀ s ∈ p, okStep n s = true) : ∀ k, k ≤ p.length → (fwdB p c k).length = n ∧ ∀ x ∈ fwdB p c k, 0 ≤ x ∧ x ≤ 2
 | 0, _ => by simpa [fwdB] using ⟨hc, hc2⟩
 | k + 1, hk => by
  obtain ⟨h1, h2⟩ := fwdB_ok hc hc2 hp k (by omega)
  rw [fwdB_succ (by omega)]
  refine ⟨by simpa using h1, fun x hx => ?_⟩
  rcases List.mem_or_eq_of_mem_set hx with hx | rfl
  ·exact h2 x hx
  ·exact (okStep_iff.1 (hp _ (List.getElem_mem _))).2.2.1
noncomputable def alongL (X : Jrn) (k : Nat) : List Int := (List.range k).map fun j => (curveN (X.1.1, X.1.2.1, fwdB X.2.1 (startB X) j) : Int)
theorem alongL_succ (X : Jrn) (k : Nat) : alongL X (k + 1) = alongL X k ++ [(curveN (X.1.1, X.1.2.1, fwdB X.2.1 (startB X) k) : Int)] := by simp [alongL, List.range_succ]
theorem alongL_len (X : Jrn) (k : Nat) : (alongL X k).length = k := by simp [alongL]
noncomputable def alongA (X : Jrn) : List Int × Int := if okJ X then (alongL X (X.2.1.length + 1), 0) else ([], 1)
theorem curvesSt_le {f : Wk → Wk} {seg : Wk → Nat} {wk : Nat → Wk} {N : Nat} : ∀ k, (curvesSt f seg wk N k).2 ≤ k
 | 0 => by simp [curvesSt]
 | k + 1 => by
  have := curvesSt_le (f := f) (seg := seg) (wk := wk) (N := N) k
  simp only [curvesSt]; split
  ·omega
  ·simp only; omega
theorem curveN_le {X : Pan} (ok : OkP X) : curveN X ≤ 256 := by
 have h1 : curveN X ≤ 4 * X.1.toNat * X.2.1.toNat := curvesSt_le _
 have h2 : 4 * X.1.toNat * X.2.1.toNat ≤ 4 * 8 * 8 := Nat.mul_le_mul (by have := ok.w; omega) (by have := ok.h; omega)
 omega
structure AlongOk (W H : Int) (br : List Int) (p f : List Trip) : Prop where
 ok : ∀ k, k ≤ p.length → OkP (W, H, fwdB p (startB ((W, H, br), p, f)) k)
 st : ∀ k, (h : k < p.length) → (0 ≤ p[k].1 ∧ p[k].1 < (fwdB p (startB ((W, H, br), p, f)) k).length)
 len : ∀ k, k ≤ p.length → (fwdB p (startB ((W, H, br), p, f)) k).length = br.length
 le : p.length ≤ 50
theorem along_ok {W H : Int} {br : List Int} {p f : List Trip} (h : okJ ((W, H, br), p, f) = true) : AlongOk W H br p f := by
 obtain ⟨ok, hle, ⟨fin, hfin⟩, _⟩ := okJ_parts h
 obtain ⟨s1, s2⟩ := startB_ok h
 have hall : ∀ s ∈ p, okStep br.length s = true := fun s hs => runB_all hfin s (by simpa using hs)
 have key := fwdB_ok s1 s2 hall
 refine ⟨fun k hk => ⟨ok.w, ok.h, ?_, (key k hk).2⟩, fun k hk => ?_, fun k hk => (key k hk).1, by omega⟩
 ·have := ok.n
  simp only at this ⊢
  rw [(key k hk).1]; exact this
 ·rw [(key k (by omega)).1]
  exact (okStep_iff.1 (hall _ (List.getElem_mem hk))).1
theorem along_siz (X : Jrn) : siz shInts (alongA X).1 ≤ 16777216 ∧ ∀ x ∈ (alongA X).1, I64 x := by
 unfold alongA
 split
 ·rename_i q
  obtain ⟨⟨W, H, br⟩, p, f⟩ := X
  have A := along_ok q
  constructor
  ·rw [siz_ints, alongL_len]; have := A.le; simp only; omega
  ·intro x hx
   simp only [alongL, List.mem_map, List.mem_range] at hx
   obtain ⟨j, hj, rfl⟩ := hx
   have := curveN_le (A.ok j (by omega))
   unfold I64; omega
 ·constructor
  ·rw [siz_ints]; simp
  ·simp
theorem Buf.vo_ints {h0 h : Heap} {v : Value} {X : List Int} (x : Buf h0 h v 1 (Am.ints X)) (hm : X.length ≤ maxLen) (hx : ∀ x ∈ X, I64 x) : Vo h h0.length h.length shInts v X := by
 have hl : (Am.ints X).length = X.length := by simp [Am.ints]
 rcases x with ⟨e1, rfl⟩ | ⟨b, n, rfl, e2, e3, e4⟩
 ·rw [e1] at hl
  have : X = [] := List.length_eq_zero_iff.1 (by simpa using hl.symm)
  subst this
  exact Vo.of_ints (.inr ⟨rfl, rfl⟩) (by simp [maxLen_eq]) (by simp) (.inl rfl)
 ·have : n = X.length := by omega
  subst this
  exact Vo.of_ints (.inl rfl) hm hx (.inr ⟨e4, e3, at_lt e4⟩)
theorem c342 (h : Heap) (hp : 0 < h.length) (v0 : Value) (X0 : Jrn) (hv0 : Vr h shJournal v0 X0) (hs0 : siz shJournal X0 ≤ 1048576) :
  ACall Gam 342 [v0] h fun r h' => Grows h h' ∧ ∃ r0, r = .tuple #[r0, I (alongA X0).2] ∧ Vo h' h.length h'.length shInts r0 (alongA X0).1 ∧ siz shInts (alongA X0).1 ≤ 16777216 := by
 obtain ⟨hsz, h64⟩ := along_siz X0
 obtain ⟨⟨W, H, br⟩, p, f⟩ := X0
 obtain ⟨s, sp, sf, rfl, w1, w2, r1, r2, r3⟩ := hv0.journal
 have hcp := r2.trips
 obtain ⟨pb, po, pz, rfl, _, hpm, hpx, hpc⟩ := hcp
 refine ACall_intro g342 rfl ?_
 unfold fn342
 simp (disch := omega)
 obtain ⟨ha, eha⟩ : ∃ ha, ha = h ++ [⟨[I W, I H, s, sl pb po p.length pz, sf], true⟩] := ⟨_, rfl⟩
 rw [← eha]
 have ga : Grows h ha := ⟨_, eha⟩
 have ka : ha[h.length]? = some ⟨[I W, I H, s, sl pb po p.length pz, sf], true⟩ := by rw [eha]; simp
 have hj := PtJ.of ka (r1.grow ga) (r2.grow ga) (r3.grow ga) w1 w2
 refine callW_of (c558 ha (pos_of hp ga) _ _ hj hs0) ?_
 rintro _ h1 ⟨g1, rfl⟩
 have G1 := ga.trans g1
 cases q : okJ ((W, H, br), p, f)
 ·have e : alongA ((W, H, br), p, f) = ([], 1) := by simp [alongA, q]
  rw [e] at hsz ⊢
  simp (disch := omega)
  exact ⟨G1, Vo.no_ints, hsz⟩
 have e : alongA ((W, H, br), p, f) = (alongL ((W, H, br), p, f) (p.length + 1), 0) := by simp [alongA, q]
 rw [e] at hsz h64 ⊢
 have A := along_ok q
 have hle := A.le
 simp (disch := omega)
 refine callW_of (c561 h1 (pos_of hp G1) _ W H br p f (hj.grow g1) q) ?_
 rintro _ h2 ⟨g2, o2⟩
 have G2 := G1.trans g2
 obtain ⟨so, rfl, _, _, o2⟩ := o2.panel
 obtain ⟨bb, zz, rfl, hz, _, _, hb⟩ := o2.ints
 have l1 := G1.le
 have l2 := g2.le
 obtain ⟨c, ec⟩ : ∃ c, c = startB ((W, H, br), p, f) := ⟨_, rfl⟩
 rw [← ec] at hz hb ⊢
 have stb := store_box (h := h2) (cs := [I 0, I 0, sl 0 0 0 0]) (xs := [I W, I H, sl bb 0 c.length zz]) rfl
 try refine ⟨fun e => (by cases e), ?_⟩
 simp (disch := omega) [stb]
 obtain ⟨h3, e3⟩ : ∃ h3, h3 = h2 ++ [⟨[I W, I H, sl bb 0 c.length zz], true⟩] := ⟨_, rfl⟩
 have g3 : Grows h2 h3 := ⟨_, e3⟩
 have kb3 : h3[h2.length]? = some ⟨[I W, I H, sl bb 0 c.length zz], true⟩ := by rw [e3]; simp
 rw [← e3]
 obtain ⟨J, eJ⟩ : ∃ J, J = h.length := ⟨_, rfl⟩
 obtain ⟨P, eP⟩ : ∃ P, P = h2.length := ⟨_, rfl⟩
 rw [← eP] at kb3 ⊢
 rw [← eJ] at ka ⊢
 have lJ : J < ha.length := at_lt ka
 have l3 : h3.length = P + 1 := by rw [e3, eP]; simp
 obtain ⟨n, en⟩ : ∃ n, n = c.length := ⟨_, rfl⟩
 have en' : n = br.length := by rw [en, ec]; exact (startB_ok q).1
 rw [← en] at kb3
 have Aok := A.ok
 have Ast := A.st
 have Aln := A.len
 rw [← ec] at Aok Ast Aln
 rw [← en'] at Aln
 have hz' : ∀ Y : List Int, Y.length = n → (zz = 1 ∨ bb = 0 ∧ Y = []) := fun Y hY => hz.imp id fun e => ⟨e.1, List.length_eq_zero_iff.1 (by rw [hY, en, e.2]; rfl)⟩
 have pp : ∀ {h' : Heap} {k : Nat}, k ≤ p.length → h'[P]? = some ⟨[I W, I H, sl bb 0 n zz], true⟩ → (n = 0 ∨ h'[bb]? = some ⟨ints (fwdB p c k), true⟩) → PtP h' (pt P 0) (W, H, fwdB p c k) := by
  intro h' k hk hP hB
  have o := Aok k hk
  have hl := Aln k hk
  have vr := Vr.of_ints (h := h') (b := bb) (o := 0) (z := zz) (X := fwdB p c k) (hz' _ hl) (by rw [maxLen_eq, hl]; have := ok_len o; omega) (cur_64 o.b) (hB.imp (fun e => List.length_eq_zero_iff.1 (by omega)) fun e => cellsAt_all e (by simp [ints]))
  rw [hl] at vr
  exact PtP.at hP vr w1 w2
 have G3 : Grows ha h3 := g1.trans (g2.trans g3)
 have hb3 : n = 0 ∨ h3[bb]? = some ⟨ints (fwdB p c 0), true⟩ := hb.imp (fun e => by rw [en, e]; rfl) fun e => g3.at e.1
 have hbl : n = 0 ∨ ha.length ≤ bb ∧ bb < P := hb.imp (fun e => by rw [en, e]; rfl) fun e => ⟨by have := g1.le; omega, by omega⟩
 have g2l := g2.le
 have g1l := g1.le
 refine callW_of (c465 h3 (by omega) _ _ (pp (Nat.zero_le _) kb3 hb3) (Aok 0 (by omega))) ?_
 rintro _ h4 ⟨g4, rfl⟩
 try refine ⟨fun e => (by first | exact g4 | cases e), ?_⟩
 have l4 := g4.le
 have eb : aBuildSlice 1 1 h4 [(0, .agg #[I 0]), (1, I (curveN (W, H, fwdB p c 0)))] = some (sl h4.length 0 1 1, h4 ++ [⟨[I (curveN (W, H, fwdB p c 0))], true⟩]) := by simp [aBuildSlice]
 rw [eb]
 simp only [bindW_some]
 have g5 : Grows h4 (h4 ++ [⟨[I (curveN (W, H, fwdB p c 0))], true⟩]) := ⟨_, rfl⟩
 have l5 := g5.le
 refine awp_loop (fun (k : Nat) σ h' => k ≤ p.length ∧ Grows ha h' ∧ h3.length ≤ h'.length ∧ h'[P]? = some ⟨[I W, I H, sl bb 0 n zz], true⟩ ∧ (n = 0 ∨ h'[bb]? = some ⟨ints (fwdB p c k), true⟩) ∧ σ 1 = pt J 0 ∧ σ 4 = pt P 0 ∧ σ 6 = I k ∧ Buf h3 h' (σ 5) 1 (ints (alongL ((W, H, br), p, f) (k + 1)))) (fun k => p.length - k) 0 ?_ ?_
 ·refine ⟨by omega, G3.trans (g4.trans g5), by omega, (g4.trans g5).at kb3, hb3.imp id (g4.trans g5).at, by simp, by simp, by simp, .inr ⟨h4.length, 1, by simp, by simp [alongL, ints], l4, by simp [alongL, ints, ec]⟩⟩
 rintro k σ h' ⟨hk, g, hl, hP, hB, q1, q4, q6, bf⟩
 have c3 : cell h' J 3 = some (sl pb po p.length pz) := cell_of (g.at ka) rfl
 simp (disch := omega) [q1, q6, c3]
 refine fork_dec (fun hlt => ?_) (fun hge => ?_)
 ·have k1 : k < p.length := by omega
  obtain ⟨t1, t2⟩ := Ast k k1
  have hlk := Aln k hk
  obtain ⟨t, ht⟩ := Int.eq_ofNat_of_zero_le t1
  obtain ⟨ca, _, cb⟩ := trips_cell (hpc.imp id (grows_cellsAt (ga.trans g))) k1
  rw [ht] at t2 ca
  have htn : t < (fwdB p c k).length := by omega
  have htn' : t < n := by omega
  have hB1 := hB.resolve_left (by omega)
  obtain ⟨b1, b2⟩ := hbl.resolve_left (by omega)
  have hst := store_int (v := p[k].2.2) hB1 htn
  have hc2 : cell h' P 2 = some (sl bb 0 n zz) := cell_of hP rfl
  simp (disch := omega) [q1, q4, q6, k1, c3, hc2, ca, cb, hst, htn', wrap64]
  obtain ⟨h6, e6⟩ : ∃ h6, h6 = h'.set bb ⟨ints ((fwdB p c k).set t p[k].2.2), true⟩ := ⟨_, rfl⟩
  rw [← e6]
  have g6 : Grows ha h6 := by rw [e6]; exact g.put b1 _
  have l6 : h6.length = h'.length := by rw [e6]; simp
  have hP6 : h6[P]? = some ⟨[I W, I H, sl bb 0 n zz], true⟩ := by rw [e6]; exact put_at hP (by omega)
  have eset : fwdB p c (k + 1) = (fwdB p c k).set t p[k].2.2 := by rw [fwdB_succ k1, ht]; rfl
  have hB6 : h6[bb]? = some ⟨ints (fwdB p c (k + 1)), true⟩ := by rw [e6, eset]; simp [at_lt hB1]
  have bf6 : Buf h3 h6 (σ 5) 1 (ints (alongL ((W, H, br), p, f) (k + 1))) := by rw [e6]; exact bf.put (by omega)
  refine callW_of (c465 h6 (by omega) _ _ (pp (k := k + 1) (by omega) hP6 (.inr hB6)) (Aok (k + 1) (by omega))) ?_
  rintro _ h7 ⟨g7, rfl⟩
  try refine ⟨fun e => (by first | exact g7 | cases e), ?_⟩
  have l7 := g7.le
  have eb : aBuildSlice 1 1 h7 [(0, .agg #[I 0]), (1, I (curveN (W, H, fwdB p c (k + 1))))] = some (sl h7.length 0 1 1, h7 ++ [⟨[I (curveN (W, H, fwdB p c (k + 1)))], true⟩]) := by simp [aBuildSlice]
  rw [eb]
  simp only [bindW_some]
  have bf7 := bf6.grow g7
  have hln : (ints (alongL ((W, H, br), p, f) (k + 1))).length = k + 1 := by simp [ints, alongL_len]
  refine app1 (by omega) (g6.trans g7) (by have := G3.le; omega) (by omega) bf7 (by simp) (by omega) (by rw [hln]; simp [maxSize]; omega) fun v6 h8 g8 l8 b8 n8 fr8 => ?_
  have hP8 := fr8 P _ (g7.at hP6) (bf7.ne (by omega) (by omega))
  have hB8 := fr8 bb _ (g7.at hB6) (bf7.ne (by omega) (by omega))
  simp (disch := omega) [q1, q4, q6, wrap64]
  have hP8' := (List.getElem?_eq_some_iff.1 hP8).2
  have hB8' := (List.getElem?_eq_some_iff.1 hB8).2
  refine ⟨k + 1, ⟨by omega, g8, by omega, by first | exact hP8' | simpa using hP8' | exact hP8, .inr (by first | exact hB8 | exact hB8' | simpa using hB8'), by omega, ?_⟩, by omega⟩
  rw [alongL_succ]
  simpa [ints, ec] using b8
 ·have ek : k = p.length := by omega
  subst ek
  have vo := bf.vo_ints (by rw [maxLen_eq, alongL_len]; omega) h64
  obtain ⟨b9, e9⟩ := bf.sl1
  rw [e9] at vo
  simp (disch := omega) [q1, q6, c3, e9]
  exact ⟨ga.trans g, vo.wide (by have := ga.le; have := G3.le; omega) (Nat.le_refl _), hsz⟩
theorem trips_cells {h : Heap} {b o k : Nat} {X : List Trip} (hr : X = [] ∨ cellsAt h b o (X.length * 3) = some (trips X)) (hk : k < X.length) : cellsAt h b (o + k * 3) 3 = some [I X[k].1, I X[k].2.1, I X[k].2.2] := by
 rcases hr with h0 | hr
 ·subst h0; simp at hk
 ·rw [cellsAt_in hr (by omega)]
  congr 1
  have e : trips X = (X.map trip).flatten := rfl
  rw [e]
  exact flat_part (z := 3) (by intro c hc; obtain ⟨y, _, rfl⟩ := List.mem_map.1 hc; rfl) (by simp [hk]; rfl)
theorem c74 (h : Heap) (hp : 0 < h.length) (v0 : Value) (X0 : Jrn) (hv0 : Vr h shJournal v0 X0) (hs0 : siz shJournal X0 ≤ 1048576) :
  ACall Gam 74 [v0] h fun r h' => Grows h h' ∧ ∃ r0, r = .tuple #[r0, I (alongA X0).2] ∧ Vo h' h.length h'.length shInts r0 (alongA X0).1 ∧ siz shInts (alongA X0).1 ≤ 16777216 := by
 obtain ⟨hsz, h64⟩ := along_siz X0
 obtain ⟨⟨W, H, br⟩, p, f⟩ := X0
 have hv0' := hv0
 obtain ⟨s, sp, sf, rfl, w1, w2, r1, r2, r3⟩ := hv0.journal
 have hcp := r2.trips
 obtain ⟨pb, po, pz, rfl, _, hpm, hpx, hpc⟩ := hcp
 refine ACall_intro g74 rfl ?_
 unfold fn74
 simp (disch := omega)
 refine callW_of (c138 h hp _ _ hv0' hs0) ?_
 rintro _ h1 ⟨g1, rfl⟩
 try refine ⟨fun e => (by first | exact g1 | cases e), ?_⟩
 cases q : okJ ((W, H, br), p, f)
 ·have e : alongA ((W, H, br), p, f) = ([], 1) := by simp [alongA, q]
  rw [e] at hsz ⊢
  simp (disch := omega)
  exact ⟨g1, Vo.no_ints, hsz⟩
 have e : alongA ((W, H, br), p, f) = (alongL ((W, H, br), p, f) (p.length + 1), 0) := by simp [alongA, q]
 rw [e] at hsz h64 ⊢
 have A := along_ok q
 have hle := A.le
 simp (disch := omega)
 refine callW_of (c22 h1 (pos_of hp g1) _ W H br p f (hv0'.grow g1) q) ?_
 rintro _ h3 ⟨g3, o2⟩
 obtain ⟨so, rfl, _, _, o2⟩ := o2.panel
 obtain ⟨bb, zz, rfl, hz, _, _, hb⟩ := o2.ints
 have l1 := g1.le
 have l3 := g3.le
 obtain ⟨c, ec⟩ : ∃ c, c = startB ((W, H, br), p, f) := ⟨_, rfl⟩
 rw [← ec] at hz hb ⊢
 try refine ⟨fun e => (by cases e), ?_⟩
 obtain ⟨n, en⟩ : ∃ n, n = c.length := ⟨_, rfl⟩
 have en' : n = br.length := by rw [en, ec]; exact (startB_ok q).1
 rw [← en]
 have Aok := A.ok
 have Ast := A.st
 have Aln := A.len
 rw [← ec] at Aok Ast Aln
 rw [← en'] at Aln
 have hz' : ∀ Y : List Int, Y.length = n → (zz = 1 ∨ bb = 0 ∧ Y = []) := fun Y hY => hz.imp id fun e => ⟨e.1, List.length_eq_zero_iff.1 (by rw [hY, en, e.2]; rfl)⟩
 have pp : ∀ {h' : Heap} {k : Nat}, k ≤ p.length → (n = 0 ∨ h'[bb]? = some ⟨ints (fwdB p c k), true⟩) → Vr h' shPanel (.agg #[I W, I H, sl bb 0 n zz]) (W, H, fwdB p c k) := by
  intro h' k hk hB
  have o := Aok k hk
  have hl := Aln k hk
  have vr := Vr.of_ints (h := h') (b := bb) (o := 0) (z := zz) (X := fwdB p c k) (hz' _ hl) (by rw [maxLen_eq, hl]; have := ok_len o; omega) (cur_64 o.b) (hB.imp (fun e => List.length_eq_zero_iff.1 (by omega)) fun e => cellsAt_all e (by simp [ints]))
  rw [hl] at vr
  exact Vr.of_panel w1 w2 vr
 have hb3 : n = 0 ∨ h3[bb]? = some ⟨ints (fwdB p c 0), true⟩ := hb.imp (fun e => by rw [en, e]; rfl) fun e => e.1
 have hbl : n = 0 ∨ h1.length ≤ bb ∧ bb < h3.length := hb.imp (fun e => by rw [en, e]; rfl) fun e => e.2
 simp (disch := omega)
 refine callW_of (c154 h3 (by omega) _ _ (pp (Nat.zero_le _) hb3) (Aok 0 (by omega))) ?_
 rintro _ h4 ⟨g4, rfl⟩
 try refine ⟨fun e => (by first | exact g4 | cases e), ?_⟩
 have l4 := g4.le
 have eb : aBuildSlice 1 1 h4 [(0, .agg #[I 0]), (1, I (curveN (W, H, fwdB p c 0)))] = some (sl h4.length 0 1 1, h4 ++ [⟨[I (curveN (W, H, fwdB p c 0))], true⟩]) := by simp [aBuildSlice]
 rw [eb]
 simp only [bindW_some]
 have g5 : Grows h4 (h4 ++ [⟨[I (curveN (W, H, fwdB p c 0))], true⟩]) := ⟨_, rfl⟩
 have l5 := g5.le
 refine awp_loop (fun (k : Nat) σ h' => k ≤ p.length ∧ Grows h1 h' ∧ h3.length ≤ h'.length ∧ (n = 0 ∨ h'[bb]? = some ⟨ints (fwdB p c k), true⟩) ∧ σ 4 = .agg #[I W, I H, sl bb 0 n zz] ∧ σ 17 = sl pb po p.length pz ∧ σ 18 = I p.length ∧ σ 19 = I k ∧ Buf h3 h' (σ 5) 1 (ints (alongL ((W, H, br), p, f) (k + 1)))) (fun k => p.length - k) 0 ?_ ?_
 ·refine ⟨by omega, g3.trans (g4.trans g5), by omega, hb3.imp id (g4.trans g5).at, by simp, by simp, by simp, by simp, .inr ⟨h4.length, 1, by simp, by simp [alongL, ints], l4, by simp [alongL, ints, ec]⟩⟩
 rintro k σ h' ⟨hk, g, hl, hB, q4, q17, q18, q19, bf⟩
 simp (disch := omega) [q18, q19]
 refine fork_dec (fun hlt => ?_) (fun hge => ?_)
 ·have k1 : k < p.length := by omega
  obtain ⟨t1, t2⟩ := Ast k k1
  have hlk := Aln k hk
  obtain ⟨t, ht⟩ := Int.eq_ofNat_of_zero_le t1
  obtain ⟨ca, cm, cb⟩ := trips_cell (hpc.imp id (grows_cellsAt (g1.trans g))) k1
  have c3 := trips_cells (hpc.imp id (grows_cellsAt (g1.trans g))) k1
  rw [ht] at t2 ca c3
  have htn : t < (fwdB p c k).length := by omega
  have htn' : t < n := by omega
  have hB1 := hB.resolve_left (by omega)
  obtain ⟨b1, b2⟩ := hbl.resolve_left (by omega)
  have hst := store_int (v := p[k].2.2) hB1 htn
  simp (disch := omega) [q4, q17, q18, q19, k1, c3, hst, htn', wrap64]
  obtain ⟨h6, e6⟩ : ∃ h6, h6 = h'.set bb ⟨ints ((fwdB p c k).set t p[k].2.2), true⟩ := ⟨_, rfl⟩
  rw [← e6]
  have g6 : Grows h1 h6 := by rw [e6]; exact g.put b1 _
  have l6 : h6.length = h'.length := by rw [e6]; simp
  have eset : fwdB p c (k + 1) = (fwdB p c k).set t p[k].2.2 := by rw [fwdB_succ k1, ht]; rfl
  have hB6 : h6[bb]? = some ⟨ints (fwdB p c (k + 1)), true⟩ := by rw [e6, eset]; simp [at_lt hB1]
  have bf6 : Buf h3 h6 (σ 5) 1 (ints (alongL ((W, H, br), p, f) (k + 1))) := by rw [e6]; exact bf.put (by omega)
  refine callW_of (c154 h6 (by omega) _ _ (pp (k := k + 1) (by omega) (.inr hB6)) (Aok (k + 1) (by omega))) ?_
  rintro _ h7 ⟨g7, rfl⟩
  try refine ⟨fun e => (by first | exact g7 | cases e), ?_⟩
  have l7 := g7.le
  have eb : aBuildSlice 1 1 h7 [(0, .agg #[I 0]), (1, I (curveN (W, H, fwdB p c (k + 1))))] = some (sl h7.length 0 1 1, h7 ++ [⟨[I (curveN (W, H, fwdB p c (k + 1)))], true⟩]) := by simp [aBuildSlice]
  rw [eb]
  simp only [bindW_some]
  have bf7 := bf6.grow g7
  have hln : (ints (alongL ((W, H, br), p, f) (k + 1))).length = k + 1 := by simp [ints, alongL_len]
  refine app1 (by omega) (g6.trans g7) (by omega) (by omega) bf7 (by simp) (by omega) (by rw [hln]; simp [maxSize]; omega) fun v6 h8 g8 l8 b8 n8 fr8 => ?_
  have hB8 := fr8 bb _ (g7.at hB6) (bf7.ne (by omega) (by omega))
  simp (disch := omega) [q4, q17, q18, q19, wrap64]
  have hB8' := (List.getElem?_eq_some_iff.1 hB8).2
  refine ⟨k + 1, ⟨by omega, g8, by omega, .inr (by first | exact hB8 | exact hB8' | simpa using hB8'), by omega, ?_⟩, by omega⟩
  rw [alongL_succ]
  simpa [ints, ec] using b8
 ·have ek : k = p.length := by omega
  subst ek
  have vo := bf.vo_ints (by rw [maxLen_eq, alongL_len]; omega) h64
  obtain ⟨b9, e9⟩ := bf.sl1
  rw [e9] at vo
  simp (disch := omega) [q18, q19, e9]
  exact ⟨g1.trans g, vo.wide (by omega) (Nat.le_refl _), hsz⟩
end Am

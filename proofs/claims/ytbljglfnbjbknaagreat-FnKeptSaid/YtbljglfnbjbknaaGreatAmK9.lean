/- Contracts: AmY31, AmY32, AmY33, AmY34, AmY35. -/
import Derived.Test.YtbljglfnbjbknaaGreatAmK8
import Derived.Test.YtbljglfnbjbknaaGreatAmK6
import Derived.Test.YtbljglfnbjbknaaGreatAmK1
import Derived.Test.YtbljglfnbjbknaaGreatAmK5
set_option linter.unusedVariables false
set_option linter.unusedSimpArgs false
set_option maxHeartbeats 4000000
set_option maxRecDepth 40000
namespace Am
open Go
/-- Appending one element to an own slice. -/
theorem app1 {H0 B0 h : Heap} {v : Value} {z : Nat} {cs new : List Value} {k : Value → Heap → Prop} (hp : 0 < B0.length) (g : Grows H0 h) (hB : H0.length ≤ B0.length) (hBh : B0.length ≤ h.length) (hv : Buf B0 h v z cs) (hl : new.length = z) (hz : 0 < z) (hmax : cs.length + z ≤ maxSize)
  (hk : ∀ v' h', Grows H0 h' → h.length ≤ h'.length → Buf B0 h' v' z (cs ++ new) → (∀ b n y, v' = sl b 0 n y → h.length < b) → (∀ c kk, h[c]? = some kk → (∀ n, v ≠ sl c 0 n z) → h'[c]? = some kk) → k v' h') : bindW (aAppend z (h ++ [⟨new, true⟩]) (sl h.length 0 1 z) v) k := by
 have gp : Grows h (h ++ [⟨new, true⟩]) := ⟨_, rfl⟩
 have hne : new ≠ [] := by intro e; rw [e] at hl; simp at hl; omega
 have hn : newCells z (h ++ [⟨new, true⟩]) (sl h.length 0 1 z) = some new := by
  simp [newCells]
  rw [cellsAt_of (k := ⟨new, true⟩) (by simp) (by simp; omega)]
  simp [← hl]
 refine append_own hp (g.trans gp) hB (by simp; omega) (hv.grow gp) hn hz hne (by rw [hl, Nat.div_self hz]; omega) (by omega) ?_
 intro n' h' g' hlt hn' hc fr
 refine hk _ h' g' (by simp at hlt; omega) (buf_new (by simp; omega) hn' hc) ?_ ?_
 ·intro b n y e
  simp [sl] at e
  omega
 ·intro c kk hck hne'
  exact fr c kk (push_at hck) hne'
theorem apart_of {B0 h : Heap} {v w : Value} {y : Nat} {cs : List Value} (hp : 0 < B0.length) (hw : Buf B0 h w y cs) (hv : ∀ b n y, v = sl b 0 n y → h.length < b) : Apart v w := by
 intro b c n1 m z1 y1 h1 h2 e
 have := hv b n1 z1 h1
 rcases hw with ⟨rfl, rfl⟩ | ⟨b2, n2, rfl, _, _, h4⟩
 ·simp [sl] at h2 <;> omega
 ·have := at_lt h4
  simp [sl] at h2 <;> omega
/-- The segments that a walk passes. -/
def segsW (f : Wk → Wk) (H : Nat) (w : Wk) (k : Nat) : List Int := (List.range k).map fun j => (segW H (itW f j w) : Int)
theorem c466 (h : Heap) (hp : 0 < h.length) (v : Value) (X : Pan) (w : Wk) (hv : PtP h v X) (ok : OkP X) (hw : OkW X.1.toNat X.2.1.toNat w) : ACall Gam 466 [v, wv w] h fun r h' => Grows h h' ∧ ∃ r0 r1, r = .tuple #[r0, r1] ∧ Buf h h' r1 1 (ints (segsW (stepW X.1.toNat X.2.1.toNat X.2.2) X.2.1.toNat w (perW (stepW X.1.toNat X.2.1.toNat X.2.2) w))) ∧ ∃ b n, r0 = sl b 0 n 2 := by
 have A := walks (W := X.1.toNat) (H := X.2.1.toNat) (br := X.2.2) (by have := ok.w; omega) (by have := ok.h; omega)
 obtain ⟨P1, P2, P3, P4⟩ := A.per hw
 obtain ⟨f, ef⟩ : ∃ f, f = stepW X.1.toNat X.2.1.toNat X.2.2 := ⟨_, rfl⟩
 rw [← ef] at A P1 P2 P3 P4 ⊢
 have hN : 4 * X.1.toNat * X.2.1.toNat ≤ 4 * 8 * 8 := Nat.mul_le_mul (by have := ok.w; omega) (by have := ok.h; omega)
 obtain ⟨n, en⟩ : ∃ n, n = perW f w := ⟨_, rfl⟩
 rw [← en] at P1 P2 P3 P4 ⊢
 refine ACall_intro g466 rfl ?_
 unfold fn466
 simp (disch := omega) [wv]
 refine awp_loop (fun (k : Nat) σ h' => k ≤ n ∧ Grows h h' ∧ σ 0 = v ∧ σ 3 = wv w ∧ σ 8 = wv (itW f k w) ∧ Buf h h' (σ 7) 1 (ints (segsW f X.2.1.toNat w k)) ∧ Apart (σ 6) (σ 7) ∧ ∃ P, Buf h h' (σ 6) 2 P ∧ P.length = 2 * k) (fun k => n - k) 0 ?_ ?_
 ·refine ⟨by omega, Grows.refl _, by simp, by simp [wv], by simp [wv, itW], by simpa [segsW, ints] using Buf.nil, ?_, [], by simpa using Buf.nil, rfl⟩
  intro b c n m z y h1 h2 e
  simp [sl] at h1; omega
 ·rintro k σ h' ⟨hk, g, q0, q3, q8, bs, ap, P, bp, hP⟩
  have hwk := A.vi hw k
  have okk := hwk
  obtain ⟨b1, n1, rfl1⟩ : ∃ b n, σ 6 = sl b 0 n 2 ∧ n * 2 = P.length := by
   rcases bp with ⟨e1, e2⟩ | ⟨b, n, e1, e2, _⟩
   ·exact ⟨0, 0, e2, by rw [e1]; rfl⟩
   ·exact ⟨b, n, e1, e2⟩
  obtain ⟨rfl1, en1⟩ := rfl1
  have en1 : n1 = k := by omega
  subst en1
  have inj : ∀ a b : Wk, wv a = wv b → a = b := by
   rintro ⟨_, _, _, _⟩ ⟨_, _, _, _⟩ e
   simp [wv] at e
   obtain ⟨rfl, rfl, rfl, rfl⟩ := e; rfl
  obtain ⟨u, eu⟩ : ∃ u, u = itW f n1 w := ⟨_, rfl⟩
  rw [← eu] at q8 hwk okk
  rw [awp_seq]
  generalize hK : seqQ Gam _ _ = K
  have key : n1 < n → ∀ σ' : Nat → Value, σ' 0 = v → σ' 3 = wv w → σ' 8 = wv u → σ' 6 = sl b1 0 n1 2 → σ' 7 = σ 7 → K 0 σ' h' := by
   intro hkn σ' p0 p3 p8 p6 p7
   subst hK
   simp only [seqQ_zero]
   obtain ⟨ux, uy, udx, udy⟩ := u
   simp only [wv] at p8 q8
   have ok1 := okk
   obtain ⟨d1, d2, d3, d4, d5, d6, d7⟩ := ok1
   simp only at d1 d2 d3 d4 d5 d6 d7
   simp (disch := omega) [p0, p8, p6]
   rw [rfl1] at ap
   have bp' := bp
   rw [rfl1] at bp'
   have eb : aBuildSlice 2 1 h' [(0, .agg #[I 0, I 0]), (2, .agg #[I ux, I uy])] = some (sl h'.length 0 1 2, h' ++ [⟨[I ux, I uy], true⟩]) := by simp [aBuildSlice]
   rw [eb]
   simp only [bindW_some]
   have hle := g.le
   refine app1 hp g (Nat.le_refl _) hle bp' (by simp) (by omega) (by simp [maxSize]; omega) fun v2 h2 g2 l2 b2 n2 fr2 => ?_
   have bs2 := bs.keep hp ap fr2
   have ap2 := apart_of hp bs n2
   refine callW_of (c460 h2 v X ux uy udx udy (hv.grow g2) ok okk) ?_
   rintro _ h3 ⟨rfl, rfl⟩
   refine ⟨fun e => (by cases e), ?_⟩
   have eb : aBuildSlice 1 1 h3 [(0, .agg #[I 0]), (1, I (segW X.2.1.toNat (ux, uy, udx, udy)))] = some (sl h3.length 0 1 1, h3 ++ [⟨[I (segW X.2.1.toNat (ux, uy, udx, udy))], true⟩]) := by simp [aBuildSlice]
   rw [eb, p7]
   simp only [bindW_some]
   have hsl : (segsW f X.2.1.toNat w n1).length = n1 := by simp [segsW]
   refine app1 hp g2 (Nat.le_refl _) g2.le bs2 (by simp) (by omega) (by simp [hsl, ints, maxSize]; omega) fun v4 h4 g4 l4 b4 n4 fr4 => ?_
   have b24 := b2.keep hp ap2.symm fr4
   have ap4 := apart_of hp b2 n4
   refine callW_of (c461 h4 v X ux uy udx udy (hv.grow g4) ok okk) ?_
   rintro _ h5 ⟨rfl, rfl⟩
   refine ⟨fun e => (by cases e), ?_⟩
   obtain ⟨a, b, c, d, eabcd⟩ : ∃ a b c d, stepW X.1.toNat X.2.1.toNat X.2.2 (ux, uy, udx, udy) = (a, b, c, d) := ⟨_, _, _, _, rfl⟩
   rw [eabcd]
   simp (disch := omega) [wv]
   refine ⟨n1 + 1, ⟨by omega, g4, p3, ?_, ?_, ap4.symm, _, b24, ?_⟩, by omega⟩
   ·have e9 : itW f (n1 + 1) w = (a, b, c, d) := by show f (itW f n1 w) = _; rw [← eu, ef]; exact eabcd
    simp [e9]
   ·have : segsW f X.2.1.toNat w (n1 + 1) = segsW f X.2.1.toNat w n1 ++ [(segW X.2.1.toNat (ux, uy, udx, udy) : Int)] := by
     simp [segsW, List.range_succ, ← eu]
    rw [this]
    simpa [ints] using b4
   ·simp; omega
  by_cases e0 : n1 = 0
  ·simp (disch := omega) [q3, q8, rfl1, e0]
   exact key (by omega) _ (by simp [q0]) (by simp [q3]) (by simp [q8]) (by simp [rfl1]) (by simp)
  ·by_cases e1 : n1 < n
   ·have ne : u ≠ w := by rw [eu]; exact P4 n1 (by omega) e1
    obtain ⟨ux, uy, udx, udy⟩ := u
    obtain ⟨wx, wy, wdx, wdy⟩ := w
    simp only [wv] at q8 q3
    have en : aAgg .neq 4 [I ux, I uy, I udx, I udy] [I wx, I wy, I wdx, I wdy] = some (.bool true) := by
     by_cases h1 : ux = wx <;> by_cases h2 : uy = wy <;> by_cases h3 : udx = wdx <;> by_cases h4 : udy = wdy <;> simp [aAgg, eqCells, h1, h2, h3, h4]
     subst h1; subst h2; subst h3; subst h4; exact absurd rfl ne
    simp (disch := omega) [q3, q8, rfl1, e0, en]
    exact key (by omega) _ (by simp [q0]) (by simp [q3, wv]) (by simp [q8, wv]) (by simp [rfl1]) (by simp)
   ·have e : n1 = n := by omega
    have eq : u = w := by rw [eu, e]; exact P3
    subst eq
    obtain ⟨wx, wy, wdx, wdy⟩ := u
    simp only [wv] at q8 q3
    have en : aAgg .neq 4 [I wx, I wy, I wdx, I wdy] [I wx, I wy, I wdx, I wdy] = some (.bool false) := by simp [aAgg, eqCells]
    obtain ⟨b3, n3, rfl3⟩ : ∃ b n, σ 7 = sl b 0 n 1 := by
     rcases bs with ⟨e1, e2⟩ | ⟨b, n, e1, _⟩
     ·exact ⟨0, 0, e2⟩
     ·exact ⟨b, n, e1⟩
    rw [rfl3] at bs
    simp (disch := omega) [q3, q8, rfl1, e0, en]
    subst hK
    simp (disch := omega) [rfl1, rfl3]
    rw [e] at bs
    exact ⟨g, _, _, ⟨rfl, rfl⟩, bs, _, _, rfl⟩
theorem Buf.ne {B0 h : Heap} {v : Value} {z y c : Nat} {cs : List Value} (x : Buf B0 h v z cs) (h0 : 0 < c) (hc : c < B0.length) : ∀ n, v ≠ sl c 0 n y := by
 intro n e
 rcases x with ⟨_, e2⟩ | ⟨b, m, e2, _, e3, _⟩
 ·rw [e2] at e; simp [sl] at e <;> omega
 ·rw [e2] at e; simp [sl] at e <;> omega
theorem Buf.put {B0 h : Heap} {v : Value} {z c : Nat} {cs : List Value} {k : Blk} (x : Buf B0 h v z cs) (hc : c < B0.length) : Buf B0 (h.set c k) v z cs := by
 rcases x with ⟨e1, e2⟩ | ⟨b, m, e2, e3, e4, e5⟩
 ·exact .inl ⟨e1, e2⟩
 ·exact .inr ⟨b, m, e2, e3, e4, put_at e5 (by omega)⟩
theorem Buf.sl1 {B0 h : Heap} {v : Value} {cs : List Value} (x : Buf B0 h v 1 cs) : ∃ b, v = sl b 0 cs.length 1 := by
 rcases x with ⟨e1, e2⟩ | ⟨b, m, e2, e3, e4, e5⟩
 ·exact ⟨0, by rw [e1]; exact e2⟩
 ·exact ⟨b, by rw [e2]; congr 1; omega⟩
theorem Buf.at1 {B0 h : Heap} {b n : Nat} {cs : List Value} (x : Buf B0 h (sl b 0 n 1) 1 cs) {i : Nat} (hi : i < cs.length) : cell h b i = some cs[i] := by
 rcases x with ⟨e1, e2⟩ | ⟨b', m, e2, e3, e4, e5⟩
 ·subst e1; simp at hi
 ·simp [sl] at e2
  obtain ⟨rfl, rfl⟩ := e2
  exact cell_of e5 (by simp [hi])
theorem c463 (h : Heap) (hp : 0 < h.length) (v : Value) (X : Pan) (hv : PtP h v X) (ok : OkP X) : ACall Gam 463 [v] h fun r h' => Grows h h' ∧ ∃ b1 b2, r = .tuple #[sl b1 0 (curveN X) 1, sl b2 0 (4 * X.1.toNat * X.2.1.toNat) 1] := by
 have hv0 := hv
 obtain ⟨b, o, s, rfl, h1, h2, h3, hr, _⟩ := hv
 have A := walks (W := X.1.toNat) (H := X.2.1.toNat) (br := X.2.2) (by have := ok.w; omega) (by have := ok.h; omega)
 obtain ⟨N, eN⟩ : ∃ N, N = 4 * X.1.toNat * X.2.1.toNat := ⟨_, rfl⟩
 have hN : N ≤ 256 := by
  rw [eN]; exact (Nat.mul_le_mul (by have := ok.w; omega) (by have := ok.h; omega) : 4 * X.1.toNat * X.2.1.toNat ≤ 4 * 8 * 8)
 have wkok : ∀ k, k < N → OkW X.1.toNat X.2.1.toNat (wkW X.2.1.toNat k) := fun k hk => wkW_ok (by have := ok.h; omega) (by rw [← eN]; exact hk)
 have wksg : ∀ k, k < N → segW X.2.1.toNat (wkW X.2.1.toNat k) = k := fun k hk => wkW_seg (by have := ok.h; omega) (by rw [← eN]; exact hk)
 have eC : curveN X = (curvesSt (stepW X.1.toNat X.2.1.toNat X.2.2) (segW X.2.1.toNat) (wkW X.2.1.toNat) N N).2 := by rw [eN]; rfl
 rw [← eN, eC]
 obtain ⟨f, ef⟩ : ∃ f, f = stepW X.1.toNat X.2.1.toNat X.2.2 := ⟨_, rfl⟩
 rw [← eN] at A
 rw [← ef] at A ⊢
 have eNi : (4 * X.1 * X.2.1 : Int) = N := by
  have w1 : (X.1.toNat : Int) = X.1 := by have := ok.w; omega
  have w2 : (X.2.1.toNat : Int) = X.2.1 := by have := ok.h; omega
  rw [eN]; simp only [Int.natCast_mul, w1, w2]; rfl
 obtain ⟨w8, hh8, _, _⟩ := ok
 have bd : 4 * X.1 ≤ 32 := by omega
 refine ACall_intro g463 rfl ?_
 unfold fn463
 obtain ⟨B, eB⟩ : ∃ B, B = h.length := ⟨_, rfl⟩
 have em : aMake 1 h (Value.int IntKind.i64 N) (Value.int IntKind.i64 N) (Value.agg #[I 0]) = some (sl B 0 N 1, h ++ [⟨ints (List.replicate N 0), true⟩]) := by
  simp (disch := omega) [aMake, maxSize, ints, eB]
  exact ⟨by omega, by simpa [ints] using reps_ints N⟩
 simp (disch := omega) [h1, h2, wrap64, eNi]
 rw [em]
 simp only [bindW_some]
 refine awp_loop (fun (k : Nat) σ h' => k ≤ N ∧ Grows h h' ∧ h'.length = B + 1 ∧ h'[B]? = some ⟨ints (List.replicate k (-1) ++ List.replicate (N - k) 0), true⟩ ∧ σ 0 = pt b o ∧ σ 4 = I N ∧ σ 5 = sl B 0 N 1 ∧ σ 6 = I k) (fun k => N - k) 0 ?_ ?_
 ·exact ⟨by omega, ⟨_, rfl⟩, by simp [eB], by simp [eB], by simp, by simp, by simp, by simp⟩
 rintro k σ h1' ⟨hk, g, hlen, hB, q0, q4, q5, q6⟩
 simp (disch := omega) [q4, q6]
 refine fork_dec (fun hlt => ?_) (fun hge => ?_)
 ·have k1 : k < N := by omega
  have st := store_one (v := I (-1)) (o := k) hB (by simp [ints]; omega)
  simp (disch := omega) [q4, q5, q6, k1, st, wrap64]
  refine ⟨k + 1, ⟨by omega, g.put (by omega) _, hlen, ?_, q0, by omega⟩, by omega⟩
  have hBl : B < h1'.length := by omega
  simp [hBl, ints]
  ·obtain ⟨m, hm⟩ : ∃ m, N - k = m + 1 := ⟨N - k - 1, by omega⟩
   rw [hm, show N - (k + 1) = m by omega, List.replicate_succ, List.set_cons_zero, List.replicate_succ']
   simp
 have hkN : N = k := by omega
 subst hkN
 simp (disch := omega) [q4, q6]
 have hB0 : h1'[B]? = some ⟨ints (curvesSt f (segW X.2.1.toNat) (wkW X.2.1.toNat) N 0).1, true⟩ := by
  rw [hB]; simp [curvesSt]
 clear hB
 obtain ⟨H1, eH1⟩ : ∃ H1, H1 = h1' := ⟨_, rfl⟩
 have lH1 : H1.length = B + 1 := by rw [eH1]; exact hlen
 obtain ⟨sg, esg⟩ : ∃ sg, sg = segW X.2.1.toNat := ⟨_, rfl⟩
 obtain ⟨wk, ewk⟩ : ∃ wk, wk = wkW X.2.1.toNat := ⟨_, rfl⟩
 rw [← esg] at A wksg hB0 ⊢
 rw [← ewk] at wkok wksg hB0 ⊢
 refine awp_loop (fun (k : Nat) σ h' => k ≤ N ∧ Grows h h' ∧ B + 1 ≤ h'.length ∧ h'[B]? = some ⟨ints (curvesSt f sg wk N k).1, true⟩ ∧ σ 0 = pt b o ∧ σ 4 = I N ∧ σ 5 = sl B 0 N 1 ∧ σ 8 = I k ∧ ∃ Z, Buf H1 h' (σ 7) 1 Z ∧ Z.length = (curvesSt f sg wk N k).2) (fun k => N - k) 0 ?_ ?_
 ·exact ⟨by omega, g, by omega, hB0, by simpa using q0, by simpa using q4, by simpa using q5, by simp, [], by simpa using Buf.nil, rfl⟩
 clear q0 q4 q5 q6 hB0 g eH1
 rintro k σ h2 ⟨hk, g, hlen, hB, q0, q4, q5, q8, Z, bz, hZ⟩
 obtain ⟨st1, st2, st3⟩ := A.st wkok k hk
 simp (disch := omega) [q4, q8]
 refine fork_dec (fun hlt => ?_) (fun hge => ?_)
 ·have k1 : k < N := by omega
  have hok := wkok k k1
  obtain ⟨oc, eoc⟩ : ∃ oc, oc = curvesSt f sg wk N k := ⟨_, rfl⟩
  have esucc : curvesSt f sg wk N (k + 1) = if 0 ≤ at0 oc.1 k then oc else (paint f sg (wk k) oc.2 oc.1 (perW f (wk k)), oc.2 + 1) := by rw [eoc]; rfl
  rw [← eoc] at hB hZ st1 st2 st3
  obtain ⟨O, c⟩ := oc
  simp only at hB hZ st1 st2 st3 esucc
  have hcell : cell h2 B k = some (I (at0 O k)) := cell_of hB (by simp [ints, at0, List.getD_eq_getElem?_getD, show k < O.length by omega])
  simp (disch := omega) [q4, q5, q8, k1, hcell]
  refine fork_dec (fun hpos => ?_) (fun hneg => ?_)
  ·simp (disch := omega) [q4, q8, wrap64]
   rw [if_pos hpos] at esucc
   refine ⟨k + 1, ⟨by omega, g, by omega, ?_, q0, q5, by omega, Z, bz, ?_⟩, by omega⟩
   ·have := (List.getElem?_eq_some_iff.1 hB).2
    simpa [esucc] using this
   ·rw [esucc]; exact hZ
  ·rw [if_neg hneg] at esucc
   have c2 := c462 h2 (pt b o) X k (hv0.grow g) ⟨w8, hh8, by assumption, by assumption⟩ (by omega)
   rw [← ewk] at c2
   have c6 := c466 h2 (by omega) (pt b o) X (wk k) (hv0.grow g) ⟨w8, hh8, by assumption, by assumption⟩ hok
   rw [← ef] at c6
   obtain ⟨u, eu⟩ : ∃ u, u = wk k := ⟨_, rfl⟩
   rw [← eu] at c2 c6 hok esucc
   obtain ⟨P1, P2, P3, P4⟩ := A.per hok
   simp (disch := omega) [q0, q8]
   refine callW_of c2 ?_
   rintro _ h3 ⟨rfl, rfl⟩
   obtain ⟨ux, uy, udx, udy⟩ := u
   simp only [wv] at c6
   refine ⟨fun _ => Grows.refl _, ?_⟩
   simp (disch := omega) [wv]
   refine callW_of c6 ?_
   rintro _ h4 ⟨g4, r0, r1, rfl, bs, b4, n4, rfl⟩
   refine ⟨fun e => (by cases e), ?_⟩
   obtain ⟨b5, rfl⟩ := bs.sl1
   have hsl : (ints (segsW f X.2.1.toNat (ux, uy, udx, udy) (perW f (ux, uy, udx, udy)))).length = perW f (ux, uy, udx, udy) := by simp [segsW, ints]
   rw [hsl] at bs ⊢
   simp (disch := omega)
   obtain ⟨n, en⟩ : ∃ n, n = perW f (ux, uy, udx, udy) := ⟨_, rfl⟩
   rw [← en] at bs hsl P1 P2 P3 P4 esucc ⊢
   obtain ⟨b7, e7⟩ := bz.sl1
   rw [hZ] at e7
   rw [e7] at bz
   have hg3 := g.le
   have bz4 := bz.grow g4
   have l4 := g4.le
   have hB4 := g4.at hB
   refine awp_loop (fun (j : Nat) σ' h' => j ≤ n ∧ Grows h h' ∧ h4.length ≤ h'.length ∧ h'[B]? = some ⟨ints (paint f sg (ux, uy, udx, udy) c O j), true⟩ ∧ σ' 0 = pt b o ∧ σ' 4 = I N ∧ σ' 5 = sl B 0 N 1 ∧ σ' 7 = sl b7 0 c 1 ∧ σ' 8 = I k ∧ σ' 9 = sl b4 0 n4 2 ∧ σ' 10 = sl b5 0 n 1 ∧ σ' 11 = I j ∧ Buf H1 h' (sl b7 0 c 1) 1 Z ∧ Buf h3 h' (sl b5 0 n 1) 1 (ints (segsW f X.2.1.toNat (ux, uy, udx, udy) n))) (fun j => n - j) 0 ?_ ?_
   ·exact ⟨by omega, g.trans g4, by omega, hB4, by simpa using q0, by simpa using q4, by simpa using q5, by simpa using e7, by simpa using q8, by simp, by simp, by simp, bz4, bs⟩
   rintro j τ h5 ⟨hj, g5, l5, hB5, r0, r4, r5, r7, r8, r9, r10, r11, bz5, bs5⟩
   simp (disch := omega) [r10, r11]
   refine fork_dec (fun jlt => ?_) (fun jge => ?_)
   ·have j1 : j < n := by omega
    have hsj : (ints (segsW f X.2.1.toNat (ux, uy, udx, udy) n))[j]'(by rw [hsl]; exact j1) = I (sg (itW f j (ux, uy, udx, udy))) := by simp [ints, segsW, esg]
    have hc5 := bs5.at1 (i := j) (by rw [hsl]; exact j1)
    rw [hsj] at hc5
    obtain ⟨w, ew⟩ : ∃ w, w = sg (itW f j (ux, uy, udx, udy)) := ⟨_, rfl⟩
    have hw : w < N := by rw [ew]; exact A.lt _ (A.vi hok j)
    rw [← ew] at hc5
    have st := store_one (v := I c) (o := w) hB5 (by simp [ints, paint_len, st1]; omega)
    simp (disch := omega) [r5, r7, r10, r11, j1, hc5, hw, st, wrap64]
    refine ⟨j + 1, ⟨by omega, g5.put (by omega) _, l5, ?_, r0, r4, r8, r9, by omega, bz5.put (by omega), bs5.put (by omega)⟩, by omega⟩
    have : B < h5.length := at_lt hB5
    simp [this, paint, ← ew, ints, List.map_set]
   ·have ej : j = n := by omega
    subst ej
    have eb : aBuildSlice 1 1 h5 [(0, .agg #[sl 0 0 0 0]), (1, sl b4 0 n4 2)] = some (sl h5.length 0 1 1, h5 ++ [⟨[sl b4 0 n4 2], true⟩]) := by simp [aBuildSlice]
    simp (disch := omega) [r0, r4, r5, r7, r8, r9]
    rw [eb]
    simp only [bindW_some]
    refine app1 (by omega) g5 (by omega) (by omega) bz5 (by simp) (by omega) (by simp [hZ, maxSize]; omega) fun v6 h6 g6 l6 b6 n6 fr6 => ?_
    have hB6 := fr6 B _ hB5 (bz5.ne (by omega) (by omega))
    simp (disch := omega) [r0, r4, r5, r8, wrap64]
    refine ⟨k + 1, ⟨by omega, g6, by omega, ?_, by omega, _, b6, ?_⟩, by omega⟩
    ·have := (List.getElem?_eq_some_iff.1 hB6).2
     simpa [esucc] using this
    ·rw [esucc]; simp [hZ]
 ·have e : k = N := by omega
  obtain ⟨b7, e7⟩ := bz.sl1
  rw [hZ] at e7
  simp (disch := omega) [e7, q5]
  exact ⟨g, by rw [e]⟩
theorem c465 (h : Heap) (hp : 0 < h.length) (v : Value) (X : Pan) (hv : PtP h v X) (ok : OkP X) : ACall Gam 465 [v] h fun r h' => Grows h h' ∧ r = I (curveN X) := by
 refine ACall_intro g465 rfl ?_
 unfold fn465
 simp (disch := omega)
 refine callW_of (c463 h hp v X hv ok) ?_
 rintro _ h' ⟨g, b1, b2, rfl⟩
 refine ⟨fun _ => g, ?_⟩
 simp (disch := omega)
 try exact g
theorem wv_eq (w : Wk) : wv w = .agg #[I w.1, I w.2.1, I w.2.2.1, I w.2.2.2] := rfl
theorem c55 (h : Heap) (hp : 0 < h.length) (W H : Int) (br : List Int) (s : Value) (ok : OkP (W, H, br)) (hr : Vr h shInts s br) : ACall Gam 55 [.agg #[I W, I H, s]] h fun r h' => Grows h h' ∧ ∃ b1 b2, r = .tuple #[sl b1 0 (curveN (W, H, br)) 1, sl b2 0 (4 * W.toNat * H.toNat) 1] := by
 have A := walks (W := W.toNat) (H := H.toNat) (br := br) (by have := ok.w; simp at this; omega) (by have := ok.h; simp at this; omega)
 have ok0 := ok
 obtain ⟨w8, hh8, _, _⟩ := ok
 simp only at w8 hh8
 obtain ⟨N, eN⟩ : ∃ N, N = 4 * W.toNat * H.toNat := ⟨_, rfl⟩
 have hN : N ≤ 256 := by
  rw [eN]; exact (Nat.mul_le_mul (by omega) (by omega) : 4 * W.toNat * H.toNat ≤ 4 * 8 * 8)
 have wkok : ∀ k, k < N → OkW W.toNat H.toNat (wkW H.toNat k) := fun k hk => wkW_ok (by omega) (by rw [← eN]; exact hk)
 have wksg : ∀ k, k < N → segW H.toNat (wkW H.toNat k) = k := fun k hk => wkW_seg (by omega) (by rw [← eN]; exact hk)
 have eC : curveN (W, H, br) = (curvesSt (stepW W.toNat H.toNat br) (segW H.toNat) (wkW H.toNat) N N).2 := by rw [eN]; rfl
 rw [← eN, eC]
 obtain ⟨f, ef⟩ : ∃ f, f = stepW W.toNat H.toNat br := ⟨_, rfl⟩
 rw [← eN] at A
 rw [← ef] at A ⊢
 obtain ⟨B, eB⟩ : ∃ B, B = h.length := ⟨_, rfl⟩
 have em : aMake 1 h (Value.int IntKind.i64 N) (Value.int IntKind.i64 N) (Value.agg #[I 0]) = some (sl B 0 N 1, h ++ [⟨ints (List.replicate N 0), true⟩]) := by
  simp (disch := omega) [aMake, maxSize, ints, eB]
  exact ⟨by omega, by simpa [ints] using reps_ints N⟩
 have c51' := fun hh => c51 hh W H s w8 hh8
 rw [← eN] at c51'
 refine ACall_intro g55 rfl ?_
 unfold fn55
 simp (disch := omega)
 refine callW_of (c51' h) ?_
 rintro _ h0 ⟨rfl, rfl⟩
 try refine ⟨fun _ => Grows.refl _, ?_⟩
 rw [em]
 simp only [bindW_some]
 simp (disch := omega)
 refine awp_loop (fun (k : Nat) σ h' => k ≤ N ∧ Grows h0 h' ∧ h'.length = B + 1 ∧ h'[B]? = some ⟨ints (List.replicate k (-1) ++ List.replicate (N - k) 0), true⟩ ∧ σ 1 = .agg #[I W, I H, s] ∧ σ 4 = sl 0 0 0 1 ∧ σ 5 = sl B 0 N 1 ∧ σ 15 = I N ∧ σ 16 = I k) (fun k => N - k) 0 ?_ ?_
 ·exact ⟨by omega, ⟨_, rfl⟩, by simp [eB], by simp [eB], by simp, by simp, by simp, by simp, by simp⟩
 rintro k σ h1' ⟨hk, g, hlen, hB, q1, q4, q5, q15, q16⟩
 simp (disch := omega) [q15, q16]
 refine fork_dec (fun hlt => ?_) (fun hge => ?_)
 ·have k1 : k < N := by omega
  have st := store_one (v := I (-1)) (o := k) hB (by simp [ints]; omega)
  simp (disch := omega) [q1, q4, q5, q15, q16, k1, st, wrap64]
  refine ⟨k + 1, ⟨by omega, g.put (by omega) _, hlen, ?_, by omega⟩, by omega⟩
  have hBl : B < h1'.length := by omega
  simp [hBl, ints]
  obtain ⟨m, hm⟩ : ∃ m, N - k = m + 1 := ⟨N - k - 1, by omega⟩
  rw [hm, show N - (k + 1) = m by omega, List.replicate_succ, List.set_cons_zero, List.replicate_succ']
  simp
 have hkN : N = k := by omega
 subst hkN
 simp (disch := omega) [q1]
 have hB0 : h1'[B]? = some ⟨ints (curvesSt f (segW H.toNat) (wkW H.toNat) N 0).1, true⟩ := by
  rw [hB]; simp [curvesSt]
 clear hB
 refine callW_of (c51' h1') ?_
 rintro _ h1' ⟨rfl, rfl⟩
 try refine ⟨fun _ => Grows.refl _, ?_⟩
 obtain ⟨H1, eH1⟩ : ∃ H1, H1 = h1' := ⟨_, rfl⟩
 have lH1 : H1.length = B + 1 := by rw [eH1]; exact hlen
 obtain ⟨sg, esg⟩ : ∃ sg, sg = segW H.toNat := ⟨_, rfl⟩
 obtain ⟨wk, ewk⟩ : ∃ wk, wk = wkW H.toNat := ⟨_, rfl⟩
 rw [← esg] at A wksg hB0 ⊢
 rw [← ewk] at wkok wksg hB0 ⊢
 refine awp_loop (fun (k : Nat) σ h' => k ≤ N ∧ Grows h0 h' ∧ B + 1 ≤ h'.length ∧ h'[B]? = some ⟨ints (curvesSt f sg wk N k).1, true⟩ ∧ σ 1 = .agg #[I W, I H, s] ∧ σ 5 = sl B 0 N 1 ∧ σ 24 = I N ∧ σ 25 = I k ∧ ∃ Z, Buf H1 h' (σ 4) 1 Z ∧ Z.length = (curvesSt f sg wk N k).2) (fun k => N - k) 0 ?_ ?_
 ·exact ⟨by omega, g, by omega, hB0, by simpa using q1, by simpa using q5, by simp, by simp, [], by simpa [q4] using Buf.nil, rfl⟩
 clear q1 q4 q5 q15 q16 hB0 g eH1
 rintro k σ h2 ⟨hk, g, hlen, hB, q1, q5, q24, q25, Z, bz, hZ⟩
 obtain ⟨st1, st2, st3⟩ := A.st wkok k hk
 simp (disch := omega) [q24, q25]
 refine fork_dec (fun hlt => ?_) (fun hge => ?_)
 ·have k1 : k < N := by omega
  have hok := wkok k k1
  have hsgk := wksg k k1
  obtain ⟨oc, eoc⟩ : ∃ oc, oc = curvesSt f sg wk N k := ⟨_, rfl⟩
  have esucc : curvesSt f sg wk N (k + 1) = if 0 ≤ at0 oc.1 k then oc else (paint f sg (wk k) oc.2 oc.1 (perW f (wk k)), oc.2 + 1) := by rw [eoc]; rfl
  rw [← eoc] at hB hZ st1 st2 st3
  obtain ⟨O, c⟩ := oc
  simp only at hB hZ st1 st2 st3 esucc
  have hcell : cell h2 B k = some (I (at0 O k)) := cell_of hB (by simp [ints, at0, List.getD_eq_getElem?_getD, show k < O.length by omega])
  simp (disch := omega) [q5, q24, q25, k1, hcell]
  refine fork_dec (fun hpos => ?_) (fun hneg => ?_)
  ·simp (disch := omega) [q24, q25, wrap64]
   rw [if_pos hpos] at esucc
   refine ⟨k + 1, ⟨by omega, g, by omega, ?_, q1, q5, by omega, Z, bz, ?_⟩, by omega⟩
   ·have := (List.getElem?_eq_some_iff.1 hB).2
    simpa [esucc] using this
   ·rw [esucc]; exact hZ
  ·rw [if_neg hneg] at esucc
   have c2 := c56 h2 W H s k w8 hh8 (by omega)
   rw [← ewk] at c2
   obtain ⟨u, eu⟩ : ∃ u, u = wk k := ⟨_, rfl⟩
   rw [← eu] at c2 hok esucc hsgk
   obtain ⟨P1, P2, P3, P4⟩ := A.per hok
   obtain ⟨R1, R2⟩ := A.run hok (c := (c : Int)) (by omega) st1 st2 (by rw [hsgk]; omega)
   obtain ⟨n, en⟩ : ∃ n, n = perW f u := ⟨_, rfl⟩
   rw [← en] at P1 P2 P3 P4 R1 R2 esucc
   simp (disch := omega) [q1]
   refine callW_of c2 ?_
   rintro _ h3 ⟨rfl, rfl⟩
   refine ⟨fun e => (by cases e), ?_⟩
   simp (disch := omega) [wv_eq]
   obtain ⟨b7, e7⟩ := bz.sl1
   rw [hZ] at e7
   rw [e7] at bz
   have hg3 := g.le
   refine awp_loop (fun (j : Nat) σ' h' => j ≤ n ∧ Grows h0 h' ∧ B + 1 ≤ h'.length ∧ h'[B]? = some ⟨ints (paint f sg u c O j), true⟩ ∧ σ' 1 = .agg #[I W, I H, s] ∧ σ' 4 = sl b7 0 c 1 ∧ σ' 5 = sl B 0 N 1 ∧ σ' 9 = wv (itW f j u) ∧ σ' 24 = I N ∧ σ' 25 = I k ∧ Buf H1 h' (sl b7 0 c 1) 1 Z ∧ ∃ Q, Buf H1 h' (σ' 8) 4 Q ∧ Q.length = 4 * j ∧ Apart (σ' 8) (sl b7 0 c 1)) (fun j => n - j) 0 ?_ ?_
   ·refine ⟨by omega, g, by omega, hB, by simpa using q1, by simpa using e7, by simpa using q5, by simp [wv_eq, itW], by simpa using q24, by simpa using q25, bz, [], by simpa using Buf.nil, rfl, ?_⟩
    intro b c n m z y h1 h2 e
    simp [sl] at h1; omega
   rintro j τ h5 ⟨hj, g5, l5, hB5, r1, r4, r5, r9, r24, r25, bz5, Q, bq, hQ, ap⟩
   have hoj := A.vi hok j
   obtain ⟨v, ev⟩ : ∃ v, v = itW f j u := ⟨_, rfl⟩
   rw [← ev] at r9 hoj
   have hsv : sg v < N := A.lt _ hoj
   have hcell : cell h5 B (sg v) = some (I (at0 (paint f sg u c O j) (sg v))) := cell_of hB5 (by simp [ints, at0, List.getD_eq_getElem?_getD, paint_len, st1, hsv])
   obtain ⟨x, y, dx, dy⟩ := v
   simp only [wv] at r9
   have c5 := c50 h5 W H s x y dx dy w8 hh8 hoj
   rw [← esg] at c5
   simp (disch := omega) [r1, r5, r9]
   refine callW_of c5 ?_
   rintro _ h6 ⟨rfl, rfl⟩
   refine ⟨fun e => (by cases e), ?_⟩
   simp (disch := omega) [hsv, hcell]
   refine fork_dec (fun hlt => ?_) (fun hge => ?_)
   ·have j1 : j < n := by
     rcases Nat.lt_or_ge j n with q | q
     ·exact q
     ·have : j = n := by omega
      subst this
      rw [← ev] at R2; omega
    have st := store_one (v := I c) (o := sg (x, y, dx, dy)) hB5 (by simp [ints, paint_len, st1]; omega)
    simp (disch := omega) [r1, r4, r5, r9]
    refine callW_of c5 ?_
    rintro _ h7 ⟨rfl, rfl⟩
    refine ⟨fun e => (by cases e), ?_⟩
    simp (disch := omega) [hsv, st]
    obtain ⟨h8, e8⟩ : ∃ h8, h8 = List.set h7 B { cells := (ints (paint f sg u (↑c) O j)).set (sg (x, y, dx, dy)) (I ↑c), rw := true } := ⟨_, rfl⟩
    rw [← e8]
    have g8 : Grows h0 h8 := by rw [e8]; exact g5.put (by omega) _
    have l8 : h8.length = h7.length := by rw [e8]; simp
    have hB8 : h8[B]? = some ⟨ints (paint f sg u c O (j + 1)), true⟩ := by
     have : B < h7.length := at_lt hB5
     rw [e8]
     simp [this, paint, ← ev, ints, List.map_set]
    have bz8 : Buf H1 h8 (sl b7 0 c 1) 1 Z := by rw [e8]; exact bz5.put (by omega)
    have bq8 : Buf H1 h8 (τ 8) 4 Q := by rw [e8]; exact bq.put (by omega)
    have eb : aBuildSlice 4 1 h8 [(0, .agg #[I 0, I 0, I 0, I 0]), (4, .agg #[I x, I y, I dx, I dy])] = some (sl h8.length 0 1 4, h8 ++ [⟨[I x, I y, I dx, I dy], true⟩]) := by simp [aBuildSlice]
    rw [eb]
    simp only [bindW_some]
    refine app1 (by omega) g8 (by omega) (by omega) bq8 (by simp) (by omega) (by simp [maxSize]; omega) fun v9 h9 g9 l9 b9 n9 fr9 => ?_
    have bz9 := bz8.keep (by omega) ap fr9
    have hB9 := fr9 B _ hB8 (bq8.ne (by omega) (by omega))
    have ap9 := apart_of (by omega) bz8 n9
    refine callW_of (c54 h9 W H br s x y dx dy ok0 (hr.grow g9) hoj) ?_
    rintro _ h10 ⟨⟨q, rfl⟩, rfl⟩
    refine ⟨fun e => (by cases e), ?_⟩
    obtain ⟨a1, a2, a3, a4, eabcd⟩ : ∃ a b c d, stepW W.toNat H.toNat br (x, y, dx, dy) = (a, b, c, d) := ⟨_, _, _, _, rfl⟩
    rw [eabcd]
    have e9 : itW f (j + 1) u = (a1, a2, a3, a4) := by show f (itW f j u) = _; rw [← ev, ef]; exact eabcd
    have hB9' := (List.getElem?_eq_some_iff.1 hB9).2
    simp (disch := omega) [wv_eq]
    exact ⟨j + 1, ⟨by omega, g9, by omega, by simpa using hB9', by simp [e9], r24, r25, bz9, _, b9, by simp; omega, ap9⟩, by omega⟩
   ·have ej : j = n := by
     rcases Nat.lt_or_ge j n with q | q
     ·have := R1 j q; rw [← ev] at this; omega
     ·omega
    subst ej
    obtain ⟨b8, n8, e8⟩ : ∃ b n, τ 8 = sl b 0 n 4 := by
     rcases bq with ⟨e1, e2⟩ | ⟨b, n, e1, _⟩
     ·exact ⟨0, 0, e2⟩
     ·exact ⟨b, n, e1⟩
    have eb : aBuildSlice 1 1 h6 [(0, .agg #[sl 0 0 0 0]), (1, sl b8 0 n8 4)] = some (sl h6.length 0 1 1, h6 ++ [⟨[sl b8 0 n8 4], true⟩]) := by simp [aBuildSlice]
    simp (disch := omega) [r1, r4, r5, e8]
    rw [eb]
    simp only [bindW_some]
    refine app1 (by omega) g5 (by omega) (by omega) bz5 (by simp) (by omega) (by simp [hZ, maxSize]; omega) fun v6 h7 g6 l6 b6 n6 fr6 => ?_
    have hB6 := fr6 B _ hB5 (bz5.ne (by omega) (by omega))
    simp (disch := omega) [r1, r5, r24, r25, wrap64]
    refine ⟨k + 1, ⟨by omega, g6, by omega, ?_, by omega, _, b6, ?_⟩, by omega⟩
    ·have := (List.getElem?_eq_some_iff.1 hB6).2
     simpa [esucc] using this
    ·rw [esucc]; simp [hZ]
 ·have e : k = N := by omega
  obtain ⟨b7, e7⟩ := bz.sl1
  rw [hZ] at e7
  simp (disch := omega) [e7, q5]
  exact ⟨g, by rw [e]⟩
theorem c154 (h : Heap) (hp : 0 < h.length) (v : Value) (X : Pan) (hv : Vr h shPanel v X) (ok : OkP X) : ACall Gam 154 [v] h fun r h' => Grows h h' ∧ r = I (curveN X) := by
 obtain ⟨W, H, br⟩ := X
 obtain ⟨s, rfl, w1, w2, r0⟩ := hv.panel
 refine ACall_intro g154 rfl ?_
 unfold fn154
 simp (disch := omega)
 refine callW_of (c55 h hp W H br s ok r0) ?_
 rintro _ h' ⟨g, b1, b2, rfl⟩
 refine ⟨fun _ => g, ?_⟩
 simp (disch := omega)
 try exact g
theorem flat_texts : ∀ (X : List (List UInt8)), (X.map fun x => [S x]).flatten = texts X
 | [] => rfl
 | x :: X => by simp [texts, List.flatten_cons]; have := flat_texts X; simp [texts] at this; exact this
theorem all3_texts (h : Heap) : ∀ (X : List (List UInt8)), (∀ x ∈ X, x.length ≤ maxLen) → All3 (fun c y s => Ow h .str c y s) (X.map fun x => [S x]) X (X.map fun _ => [])
 | [], _ => trivial
 | x :: X, hx => ⟨⟨rfl, hx x (by simp), rfl⟩, all3_texts h X fun y hy => hx y (by simp [hy])⟩
theorem Vo.of_texts {h : Heap} {b lo hi z : Nat} {X : List (List UInt8)} (hz : z = 1 ∨ b = 0 ∧ X = []) (hm : X.length ≤ maxLen) (hx : ∀ x ∈ X, x.length ≤ maxLen) (hc : X = [] ∨ h[b]? = some ⟨Am.texts X, true⟩ ∧ lo ≤ b ∧ b < hi) : Vo h lo hi shTexts (sl b 0 X.length z) X := by
 refine ⟨[sl b 0 X.length z], if X = [] then [] else [b], ⟨b, z, X.map fun x => [S x], X.map fun _ => [], rfl, hz, hm, all3_texts h X hx, ?_⟩, rfl, ?_, ?_⟩
 ·by_cases h0 : X = []
  ·exact .inl ⟨h0, by simp [h0]⟩
  ·exact .inr ⟨h0, by rw [if_neg h0, nils_flat], by rw [flat_texts]; exact (hc.resolve_left h0).1⟩
 ·split <;> simp
 ·intro b' hb'
  by_cases h0 : X = []
  ·simp [h0] at hb'
  ·simp [h0] at hb'; subst hb'; exact (hc.resolve_left h0).2
theorem All3.texts {h : Heap} : ∀ {css : List (List Value)} {X : List (List UInt8)} {bss : List (List Nat)}, All3 (fun c y s => Ow h .str c y s) css X bss → css.flatten = Am.texts X ∧ (∀ x ∈ X, x.length ≤ maxLen) ∧ bss.flatten = []
 | [], [], [], _ => by simp [Am.texts]
 | c :: css, x :: X, s :: bss, r => by
  obtain ⟨e, w, es⟩ := r.1
  obtain ⟨h1, h2, h3⟩ := All3.texts r.2
  refine ⟨by simp [e, h1, Am.texts], fun y hy => ?_, by simp [es, h3]⟩
  rcases List.mem_cons.1 hy with rfl | hy
  ·exact w
  ·exact h2 y hy
 | [], _ :: _, _, r => r.elim
 | [], [], _ :: _, r => r.elim
 | _ :: _, [], _, r => r.elim
 | _ :: _, _ :: _, [], r => r.elim
theorem Vo.texts {h : Heap} {lo hi : Nat} {v : Value} {X : List (List UInt8)} (x : Vo h lo hi shTexts v X) : ∃ b z, v = sl b 0 X.length z ∧ (z = 1 ∨ b = 0 ∧ X = []) ∧ X.length ≤ maxLen ∧ (∀ x ∈ X, x.length ≤ maxLen) ∧ (X = [] ∨ h[b]? = some ⟨Am.texts X, true⟩ ∧ lo ≤ b ∧ b < hi) := by
 obtain ⟨cs, bs, ⟨b, z, css, bss, rfl, hz, hm, h1, h2⟩, rfl, _, hb⟩ := x
 obtain ⟨e1, e2, e3⟩ := All3.texts h1
 refine ⟨b, z, rfl, hz, hm, e2, ?_⟩
 rcases h2 with ⟨h2, _⟩ | ⟨_, h3, h4⟩
 ·exact .inl h2
 ·rw [e3] at h3; rw [e1] at h4
  exact .inr ⟨h4, hb b (by simp [h3])⟩
/-- An own slice of texts. -/
theorem Buf.vo_texts {h0 h : Heap} {v : Value} {X : List (List UInt8)} (x : Buf h0 h v 1 (Am.texts X)) (hm : X.length ≤ maxLen) (hx : ∀ x ∈ X, x.length ≤ maxLen) : Vo h h0.length h.length shTexts v X := by
 have hl : (Am.texts X).length = X.length := by simp [Am.texts]
 rcases x with ⟨e1, rfl⟩ | ⟨b, n, rfl, e2, e3, e4⟩
 ·rw [e1] at hl
  have : X = [] := List.length_eq_zero_iff.1 (by simpa using hl.symm)
  subst this
  exact Vo.of_texts (.inr ⟨rfl, rfl⟩) (by simp [maxLen_eq]) (by simp) (.inl rfl)
 ·have : n = X.length := by omega
  subst this
  exact Vo.of_texts (.inl rfl) hm hx (.inr ⟨e4, e3, at_lt e4⟩)
theorem Vo.no_texts {h : Heap} {lo hi : Nat} : Vo h lo hi shTexts (sl 0 0 0 0) ([] : List (List UInt8)) := Vo.of_texts (b := 0) (z := 0) (X := []) (.inr ⟨rfl, rfl⟩) (by simp [maxLen_eq]) (by simp) (.inl rfl)
noncomputable def withC (X : Lib) (a : Int) : List (List UInt8) × Int := withAns X (fun p => (curveN p : Int)) a
theorem KeptOk.panel {X : Lib} (ok : KeptOk X) {i : Nat} (hi : i < X.length) : OkP X[i].2 := by
 have := (ok.ent i hi).ok
 rwa [kP_of hi] at this
theorem KeptOk.names12 {X : Lib} (ok : KeptOk X) : ∀ y ∈ X, y.1.length ≤ 12 := by
 intro y hy
 obtain ⟨i, hi, rfl⟩ := List.mem_iff_getElem.1 hy
 have := (ok.name12 hi).1
 simpa [kN, hi] using this
theorem KeptOk.name12' {X : Lib} (ok : KeptOk X) {i : Nat} (hi : i < X.length) : X[i].1.length ≤ 12 := ok.names12 _ (List.getElem_mem hi)
theorem withC_siz (X : Lib) (a : Int) : siz shTexts (withC X a).1 ≤ 16777216 := by
 unfold withC withAns
 split
 ·rename_i q
  have ok := keptOk_iff.1 q
  have h1 := ok.len
  have key : ∀ Y : Lib, (∀ y ∈ Y, y.1.length ≤ 12) → siz shTexts (Y.map (·.1)) ≤ Y.length * 13 := by
   intro Y
   induction Y with
   | nil => intro _; show 0 + 0 ≤ _; omega
   | cons y Y ih =>
    intro hY
    have h1 := ih fun y hy => hY y (by simp [hy])
    have h2 := hY y (by simp)
    have e1 : siz shTexts (Y.map (·.1)) = (Y.map (·.1)).length + ((Y.map (·.1)).map fun y : List UInt8 => y.length).sum := rfl
    have e2 : siz shTexts ((y :: Y).map (·.1)) = ((Y.map (·.1)).length + 1) + (y.1.length + ((Y.map (·.1)).map fun y : List UInt8 => y.length).sum) := rfl
    rw [e2]; rw [e1] at h1
    simp only [List.length_cons]; omega
  have h2 := key (X.filter fun k => decide ((curveN k.2 : Int) = a)) fun y hy => ok.names12 y (List.mem_filter.1 hy).1
  have h3 : (X.filter fun k => decide ((curveN k.2 : Int) = a)).length ≤ X.length := List.length_filter_le _ _
  simp only
  omega
 ·show 0 + 0 ≤ _; omega
theorem c387 (h : Heap) (hp : 0 < h.length) (v : Value) (X : Lib) (hv : Vr h shKepts v X) (hs : siz shKepts X ≤ 1048576) (a : Int) (ha : I64 a) : ACall Gam 387 [v, I a] h fun r h' => Grows h h' ∧ ∃ r0, r = .tuple #[r0, I (withC X a).2] ∧ Vo h' h.length h'.length shTexts r0 (withC X a).1 ∧ siz shTexts (withC X a).1 ≤ 16777216 := by
 obtain ⟨b, o, z, rfl, hX⟩ := hv.kat
 have hsz := withC_siz X a
 refine ACall_intro g387 rfl ?_
 unfold fn387
 simp (disch := omega)
 refine callW_of (c541 h hp b o z X hX fun k hk => KAt.short hs hk) ?_
 rintro _ h1 ⟨rfl, g1⟩
 try refine ⟨fun e => (by first | exact g1 | cases e), ?_⟩
 have l1 := g1.le
 cases q : keptOk X
 ·have e : withC X a = ([], 1) := by unfold withC withAns; rw [q]; rfl
  rw [e] at hsz ⊢
  simp (disch := omega)
  first | exact ⟨g1, Vo.no_texts, hsz⟩ | exact ⟨g1, _, rfl, Vo.no_texts, hsz⟩
 have ok := keptOk_iff.1 q
 have e : withC X a = (((X.filter fun k => decide ((curveN k.2 : Int) = a)).map (·.1)), 0) := by unfold withC withAns; rw [q]; rfl
 rw [e] at hsz ⊢
 have hlen := ok.len
 simp (disch := omega)
 refine awp_loop (fun (k : Nat) σ h' => Grows h h' ∧ h1.length ≤ h'.length ∧ k ≤ X.length ∧ σ 0 = sl b o X.length z ∧ σ 1 = I a ∧ σ 7 = I k ∧ Buf h h' (σ 6) 1 (texts (((X.take k).filter fun k => decide ((curveN k.2 : Int) = a)).map (·.1)))) (fun k => X.length - k) 0 ?_ ?_
 ·exact ⟨g1, by omega, by omega, by simp, by simp, by simp, by simpa [texts] using Buf.nil⟩
 ·rintro k σ h2 ⟨g, l2, hk, q0, q1, q7, bf⟩
  simp (disch := omega) [q0, q1, q7]
  refine fork_dec (fun hlt => ?_) (fun hge => ?_)
  ·have k1 : k < X.length := by omega
   obtain ⟨s, c4, c1, vp, pp, _⟩ := (hX.grow g).cells k1
   have okp : OkP X[k].2 := ok.panel k1
   have hn := (ok.name12' k1)
   have et : (X.take (k + 1)).filter (fun k => decide ((curveN k.2 : Int) = a)) = (X.take k).filter (fun k => decide ((curveN k.2 : Int) = a)) ++ if (curveN X[k].2 : Int) = a then [X[k]] else [] := by
    rw [List.take_succ_eq_append_getElem k1, List.filter_append]
    congr 1
    by_cases q : (curveN X[k].2 : Int) = a <;> simp [q]
   have hlf : (texts (((X.take k).filter fun k => decide ((curveN k.2 : Int) = a)).map (·.1))).length ≤ k := by
    simp only [texts, List.length_map]
    exact Nat.le_trans (List.length_filter_le _ _) (by simp; omega)
   simp (disch := omega) [q0, q1, q7, k1, c4]
   refine callW_of (c465 h2 (by omega) _ X[k].2 pp okp) ?_
   rintro _ h3 ⟨g3, rfl⟩
   try refine ⟨fun e => (by first | exact g3 | cases e), ?_⟩
   have l3 := g3.le
   have bf3 := bf.grow g3
   obtain ⟨_, c43, c13, _⟩ := (hX.grow (g.trans g3)).cells k1
   simp (disch := omega) [q0, q1, q7]
   refine fork_dec (fun hq => ?_) (fun hq => ?_)
   ·have eb : aBuildSlice 1 1 h3 [(0, .agg #[S []]), (1, S X[k].1)] = some (sl h3.length 0 1 1, h3 ++ [⟨[S X[k].1], true⟩]) := by simp [aBuildSlice]
    simp (disch := omega) [q0, q1, q7, k1, c13]
    rw [eb]
    simp only [bindW_some]
    refine app1 hp (g.trans g3) (Nat.le_refl _) (by omega) bf3 (by simp) (by omega) (by simp [maxSize]; omega) fun v6 h6 g6 l6 b6 n6 fr6 => ?_
    simp (disch := omega) [q0, q1, q7, wrap64]
    refine ⟨k + 1, ⟨g6, by omega, by omega, by omega, ?_⟩, by omega⟩
    rw [et, if_pos hq, List.map_append, texts_append]
    exact b6
   ·simp (disch := omega) [q0, q1, q7, wrap64]
    refine ⟨k + 1, ⟨g.trans g3, by omega, by omega, by omega, ?_⟩, by omega⟩
    rw [et, if_neg hq, List.append_nil]
    exact bf3
  ·have ek : k = X.length := by omega
   subst ek
   rw [List.take_length] at bf
   have vo := bf.vo_texts (X := (X.filter fun k => decide ((curveN k.2 : Int) = a)).map (·.1)) (by rw [maxLen_eq]; rw [List.length_map]; exact Nat.le_trans (List.length_filter_le _ _) (by omega)) (by
    intro x hx
    obtain ⟨y, hy, rfl⟩ := List.mem_map.1 hx
    have := ok.names12 y (List.mem_filter.1 hy).1
    rw [maxLen_eq]; omega)
   obtain ⟨b6, e6⟩ := bf.sl1
   simp (disch := omega) [q0, q1, q7, e6]
   rw [e6] at vo
   first | exact ⟨g, vo, hsz⟩ | exact ⟨g, _, rfl, vo, hsz⟩
theorem c95 (h : Heap) (hp : 0 < h.length) (v : Value) (X : Lib) (hv : Vr h shKepts v X) (hs : siz shKepts X ≤ 1048576) (a : Int) (ha : I64 a) : ACall Gam 95 [v, I a] h fun r h' => Grows h h' ∧ ∃ r0, r = .tuple #[r0, I (withC X a).2] ∧ Vo h' h.length h'.length shTexts r0 (withC X a).1 ∧ siz shTexts (withC X a).1 ≤ 16777216 := by
 obtain ⟨b, o, z, rfl, hX⟩ := hv.kat
 have hsz := withC_siz X a
 refine ACall_intro g95 rfl ?_
 unfold fn95
 simp (disch := omega)
 refine callW_of (c139 h hp b o z X hX fun k hk => KAt.short hs hk) ?_
 rintro _ h1 ⟨rfl, g1⟩
 try refine ⟨fun e => (by first | exact g1 | cases e), ?_⟩
 have l1 := g1.le
 cases q : keptOk X
 ·have e : withC X a = ([], 1) := by unfold withC withAns; rw [q]; rfl
  rw [e] at hsz ⊢
  simp (disch := omega)
  first | exact ⟨g1, Vo.no_texts, hsz⟩ | exact ⟨g1, _, rfl, Vo.no_texts, hsz⟩
 have ok := keptOk_iff.1 q
 have e : withC X a = (((X.filter fun k => decide ((curveN k.2 : Int) = a)).map (·.1)), 0) := by unfold withC withAns; rw [q]; rfl
 rw [e] at hsz ⊢
 have hlen := ok.len
 simp (disch := omega)
 refine awp_loop (fun (k : Nat) σ h' => Grows h h' ∧ h1.length ≤ h'.length ∧ k ≤ X.length ∧ σ 1 = I a ∧ σ 13 = sl b o X.length z ∧ σ 14 = I X.length ∧ σ 15 = I k ∧ Buf h h' (σ 6) 1 (texts (((X.take k).filter fun k => decide ((curveN k.2 : Int) = a)).map (·.1)))) (fun k => X.length - k) 0 ?_ ?_
 ·exact ⟨g1, by omega, by omega, by simp, by simp, by simp, by simp, by simpa [texts] using Buf.nil⟩
 ·rintro k σ h2 ⟨g, l2, hk, q1, q13, q14, q15, bf⟩
  simp (disch := omega) [q1, q13, q14, q15]
  refine fork_dec (fun hlt => ?_) (fun hge => ?_)
  ·have k1 : k < X.length := by omega
   obtain ⟨s, c4, c1, vp, pp, _⟩ := (hX.grow g).cells k1
   have okp : OkP X[k].2 := ok.panel k1
   have hn := (ok.name12' k1)
   have et : (X.take (k + 1)).filter (fun k => decide ((curveN k.2 : Int) = a)) = (X.take k).filter (fun k => decide ((curveN k.2 : Int) = a)) ++ if (curveN X[k].2 : Int) = a then [X[k]] else [] := by
    rw [List.take_succ_eq_append_getElem k1, List.filter_append]
    congr 1
    by_cases q : (curveN X[k].2 : Int) = a <;> simp [q]
   have hlf : (texts (((X.take k).filter fun k => decide ((curveN k.2 : Int) = a)).map (·.1))).length ≤ k := by
    simp only [texts, List.length_map]
    exact Nat.le_trans (List.length_filter_le _ _) (by simp; omega)
   simp (disch := omega) [q1, q13, q14, q15, k1, c4]
   refine callW_of (c154 h2 (by omega) _ X[k].2 vp okp) ?_
   rintro _ h3 ⟨g3, rfl⟩
   try refine ⟨fun e => (by first | exact g3 | cases e), ?_⟩
   have l3 := g3.le
   have bf3 := bf.grow g3
   obtain ⟨_, c43, c13, _⟩ := (hX.grow (g.trans g3)).cells k1
   simp (disch := omega) [q1, q13, q14, q15]
   refine fork_dec (fun hq => ?_) (fun hq => ?_)
   ·have eb : aBuildSlice 1 1 h3 [(0, .agg #[S []]), (1, S X[k].1)] = some (sl h3.length 0 1 1, h3 ++ [⟨[S X[k].1], true⟩]) := by simp [aBuildSlice]
    simp (disch := omega) [q1, q13, q14, q15, k1, c13]
    rw [eb]
    simp only [bindW_some]
    refine app1 hp (g.trans g3) (Nat.le_refl _) (by omega) bf3 (by simp) (by omega) (by simp [maxSize]; omega) fun v6 h6 g6 l6 b6 n6 fr6 => ?_
    simp (disch := omega) [q1, q13, q14, q15, wrap64]
    refine ⟨k + 1, ⟨g6, by omega, by omega, by omega, ?_⟩, by omega⟩
    rw [et, if_pos hq, List.map_append, texts_append]
    exact b6
   ·simp (disch := omega) [q1, q13, q14, q15, wrap64]
    refine ⟨k + 1, ⟨g.trans g3, by omega, by omega, by omega, ?_⟩, by omega⟩
    rw [et, if_neg hq, List.append_nil]
    exact bf3
  ·have ek : k = X.length := by omega
   subst ek
   rw [List.take_length] at bf
   have vo := bf.vo_texts (X := (X.filter fun k => decide ((curveN k.2 : Int) = a)).map (·.1)) (by rw [maxLen_eq]; rw [List.length_map]; exact Nat.le_trans (List.length_filter_le _ _) (by omega)) (by
    intro x hx
    obtain ⟨y, hy, rfl⟩ := List.mem_map.1 hx
    have := ok.names12 y (List.mem_filter.1 hy).1
    rw [maxLen_eq]; omega)
   obtain ⟨b6, e6⟩ := bf.sl1
   simp (disch := omega) [q1, q13, q14, q15, e6]
   rw [e6] at vo
   first | exact ⟨g, vo, hsz⟩ | exact ⟨g, _, rfl, vo, hsz⟩
end Am

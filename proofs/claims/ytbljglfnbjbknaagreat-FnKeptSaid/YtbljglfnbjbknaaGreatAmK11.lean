/- Contracts: AmV2, AmV3, AmV4, AmV5, AmV6, AmV10, AmV11. -/
import Derived.Test.YtbljglfnbjbknaaGreatAmK10
import Derived.Test.YtbljglfnbjbknaaGreatAmK7
import Derived.Test.YtbljglfnbjbknaaGreatAmK3
import Derived.Test.YtbljglfnbjbknaaGreatAmK6
import Derived.Test.YtbljglfnbjbknaaGreatAmK8
set_option linter.unusedVariables false
set_option linter.unusedSimpArgs false
set_option maxHeartbeats 4000000
set_option maxRecDepth 40000
namespace Am
open Go
theorem rowsC_cells {h : Heap} {b : Nat} {L : List Row} (hb : h[b]? = some ⟨rowsC L, true⟩) {i : Nat} (hi : i < L.length) : cellsAt h b (i * 4) 4 = some (rowC L[i]) := by
 have e : L = L.take i ++ L[i] :: L.drop (i + 1) := by rw [← List.drop_eq_getElem_cons hi, List.take_append_drop]
 have e2 : rowsC L = rowsC (L.take i) ++ (rowC L[i] ++ rowsC (L.drop (i + 1))) := by
  conv => lhs; rw [e]
  rw [rowsC_append, rowsC_cons]
 have l1 : (rowsC (L.take i)).length = i * 4 := by rw [rowsC_len, List.length_take]; omega
 have l2 := rowsC_len L
 rw [cellsAt_of hb (by rw [l2]; omega)]
 simp only
 rw [e2, ← l1, List.drop_left, List.take_append_of_le_length (by simp [rowC])]
 rfl
theorem rowC_agg (r : Row) : (rowC r) = [S r.1.1, I r.1.2.1, I r.1.2.2.1, rowS r] := rfl
theorem good_siz {X : Lib} (g : KGood X) : siz shKepts X ≤ 1048576 := by
 have ok := good_iff.2 g
 have := small_siz (n := 40) ok.len ok.small
 omega
/-- Blocks below a bound, but one, are as they were. -/
def Below2 (n b : Nat) (h h' : Heap) : Prop := h.length ≤ h'.length ∧ ∀ c, c < n → c ≠ b → h'[c]? = h[c]?
theorem c537 (h : Heap) (b m : Nat) (hs : Src h b m) (hm : m ≤ 1000000) (hb : b < h.length) (hp : 0 < b) : ACall Gam 537 [pt b 0] h fun r h' => ∃ L : List Row, KGood (L.map (·.1)) ∧ Mod b (b + 1) h h' ∧ DK h' h.length h.length r L ∧ Src h' b (m + 5000) := by
 refine ACall_intro g537 rfl ?_
 unfold fn537
 rw [awp_seq, awp_reg]
 generalize hK : seqQ Gam _ _ 0 = K
 simp (disch := omega)
 subst hK
 simp only [seqQ_zero]
 rw [awp_seq, awp_reg]
 generalize hK : seqQ Gam _ _ 0 = K
 simp (disch := omega)
 subst hK
 simp only [seqQ_zero]
 rw [awp_seq, awp_reg]
 generalize hK : seqQ Gam _ _ 0 = K
 simp (disch := omega)
 refine callW_of (c422 h (by omega)) ?_
 rintro v4 h2 ⟨g2, o2, _⟩
 try refine ⟨fun e => (by first | exact g2 | cases e), ?_⟩
 have hs2 := hs.grow g2
 have le2 := g2.le
 have sl6 : stdK.length = 6 := by simp [stdK, stdX]
 obtain ⟨A, eA, dA⟩ := DK.of_vo o2 (by intro e; rw [e] at sl6; simp at sl6)
 have Al : A.length = 6 := by rw [← sl6, ← eA]; simp
 obtain ⟨ab, az, rfl, _, hab⟩ := dA.sl
 obtain ⟨rfl, ab1, ab2⟩ := hab.resolve_left (by intro e; subst e; simp at Al)
 have ab3 := at_lt ab2
 try simp (disch := omega)
 subst hK
 simp only [seqQ_zero]
 rw [awp_seq]
 generalize hK : seqQ Gam _ _ = K
 simp (disch := omega)
 refine awp_loop (fun i σ h' => i ≤ 6 ∧ Mod b (b + 1) h h' ∧ Src h' b (m + 3 * i) ∧ Below2 h2.length b h2 h' ∧ σ 0 = pt b 0 ∧ σ 2 = sl 0 0 0 0 ∧ σ 4 = sl ab 0 A.length 4 ∧ σ 5 = I i ∧ ∃ L, DK h' h.length h2.length (σ 3) L ∧ (L.map (·.1)).Sublist (stdK.take i)) (fun i => 6 - i) 0 ?_ ?_
 ·exact ⟨by omega, g2.mod, hs2, ⟨Nat.le_refl _, fun c _ _ => rfl⟩, by simp, by simp, by simp, by simp, [], by simpa using DK.nil, by simp⟩
 ·rintro i σ h' ⟨hi, md, hs', bl, p0, p2, p4, p5, L, dL, sub⟩
  simp (disch := omega) [p4, p5]
  refine fork_dec (fun hlt => ?_) (fun hge => ?_)
  ·have i1 : i < A.length := by omega
   have Ll : L.length ≤ 6 := by have := sub.length_le; simp at this; omega
   simp (disch := omega) [p0]
   refine callW_of (c6 h' b _ 3 hs' (by omega) (by unfold I64; omega)) ?_
   rintro _ h3 ⟨w, rfl, md3, l3, hs3⟩
   try refine ⟨fun e => (by cases e), ?_⟩
   have dL3 := dL.mod md3 hb (by omega)
   have bl3 : Below2 h2.length b h2 h3 := ⟨by have := bl.1; omega, fun c hc hne => by rw [md3.2 c (by have := bl.1; omega) (by omega)]; exact bl.2 c hc hne⟩
   have md' := md.trans md3
   cases w
   ·simp (disch := omega) [p0, p2, p4, p5, wrap64]
    refine ⟨i + 1, ⟨by omega, md', hs3.mono (by omega), bl3, by omega, L, dL3, ?_⟩, by omega⟩
    exact sub.trans (by rw [List.take_succ_eq_append_getElem (by omega)]; exact List.sublist_append_left _ _)
   ·have cb : h3[ab]? = some ⟨rowsC A, true⟩ := by rw [bl3.2 ab ab3 (by omega)]; exact ab2
    have cc := rowsC_cells cb i1
    rw [rowC_agg] at cc
    have er := dA.row A[i] (List.getElem_mem i1)
    have er3 : EntO h3 A[i] := er.1.frame fun c hc => bl3.2 c (er.1.lt c hc) (by have := er.2 c hc; omega)
    have i2 : (i : Int) < A.length := by omega
    simp (disch := omega) [p4, p5, i1, i2, cc]
    refine dk_app (h := h3) (lo := h.length) (lo' := h2.length) (by omega) bl3.1 dL3 ⟨er3, er.2⟩ (by omega) fun v' h5 md5 d5 => ?_
    try simp (disch := omega) [p0, p2, p4, p5, wrap64]
    refine ⟨i + 1, ⟨by omega, ?_, (hs3.mod md5 (by omega)).mono (by omega), ?_, by omega, _, d5, ?_⟩, by omega⟩
    ·exact ⟨by have := md'.1; have := md5.1; omega, fun c hc hn => by rw [md5.2 c (by have := md'.1; omega) (by omega)]; exact md'.2 c hc hn⟩
    ·exact ⟨by have := bl3.1; have := md5.1; omega, fun c hc hne => by rw [md5.2 c (by have := bl3.1; omega) (by omega)]; exact bl3.2 c hc hne⟩
    ·rw [List.map_append, List.take_succ_eq_append_getElem (by omega)]
     refine List.Sublist.append sub ?_
     have : A[i].1 = stdK[i]'(by omega) := by simp only [← eA, List.getElem_map]
     simp [this]
  ·have : i = 6 := by omega
   subst this
   have gL : KGood (L.map (·.1)) := std_good.sub (sub.trans (List.take_sublist _ _))
   have dL' := dL.low (Nat.le_refl _) le2
   simp (disch := omega)
   subst hK
   simp only [seqQ_zero]
   rw [awp_seq]
   generalize hK : seqQ Gam _ _ = K
   rw [awp_seq, awp_reg]
   generalize hK2 : seqQ Gam _ _ 0 = K2
   simp (disch := omega) [p0]
   refine callW_of (c7 h' b _ 3 hs' (by omega) (by unfold I64; omega)) ?_
   rintro _ h3 ⟨q, rfl, _, q1, md3, l3, hs3⟩
   try refine ⟨fun e => (by cases e), ?_⟩
   have q2 := q1 (by omega)
   have dL3 := dL'.mod md3 hb hb
   have md' := md.trans md3
   try simp (disch := omega)
   subst hK2
   simp only [seqQ_zero]
   simp (disch := omega)
   refine awp_loop (fun j σ h' => j ≤ q ∧ Mod b (b + 1) h h' ∧ Src h' b (m + 30 + 1100 * j) ∧ σ 0 = pt b 0 ∧ σ 2 = sl 0 0 0 0 ∧ σ 6 = I ((q : Int) - j) ∧ ∃ L, DK h' h.length h.length (σ 3) L ∧ KGood (L.map (·.1))) (fun j => q - j) 0 ?_ ?_
   ·exact ⟨by omega, md', hs3.mono (by omega), by simp [p0], by simp [p2], by simp, L, by simpa using dL3, gL⟩
   ·clear gL dL3 dL' dL sub p0 p2 p4 p5 md md' hs' hs3
    rintro j σ h' ⟨hj, md, hs', p0, p2, p6, L, dL, gL⟩
    simp (disch := omega) [p6]
    refine fork_dec (fun hlt => ?_) (fun hge => ?_)
    ·have hl' := md.1
     simp (disch := omega) [p0]
     refine callW_of (c540 h' b _ hs' (by omega) (by omega)) ?_
     rintro _ h4 ⟨s, rfl, sl, md4, hs4⟩
     try refine ⟨fun e => (by cases e), ?_⟩
     have dL4 := dL.mod md4 hb hb
     have md' := md.trans md4
     have hl4 := md'.1
     try simp (disch := omega) [p0]
     refine callW_of (c445 h4 b _ 3 hs4 (by omega) (by omega)) ?_
     rintro pv h5 ⟨P, okP', _, _, md5, oP, hs5⟩
     try refine ⟨fun e => (by cases e), ?_⟩
     have dL5 := dL4.mod md5 hb hb
     have md'' := md'.trans md5
     have vP := oP.vr
     obtain ⟨pa, pb, pc, rfl⟩ := vP.panel3
     have gl := gL.len
     simp at gl
     have vL := dL5.vr (by omega)
     obtain ⟨lb, lz, e3, _, _⟩ := dL5.sl
     rw [e3] at vL
     have hsz := good_siz gL
     have hpz : siz shPanel P ≤ 1048576 := by
      have := okP'.siz
      rw [show P = (P.1, P.2.1, P.2.2) from rfl, siz_panel]; omega
     simp (disch := omega) [e3]
     refine callW_of (c329 h5 (by have := md''.1; omega) _ _ vL hsz s (by omega) _ P vP hpz) ?_
     rintro _ h6 ⟨g6, r0, rfl, oA, _⟩
     try refine ⟨fun e => (by first | exact g6 | cases e), ?_⟩
     obtain ⟨an, han⟩ : ∃ an, an = addAns (L.map (·.1)) s P := ⟨_, rfl⟩
     rw [← han] at oA ⊢
     have vA := oA.vr
     obtain ⟨rb, ro, rz, rfl, _⟩ := vA.kat
     have md6 : Mod b (b + 1) h h6 := md''.trans g6.mod
     have hs6 := hs5.grow g6
     have dL6 := dL5.grow g6
     simp (disch := omega)
     by_cases e0 : an.2 = 0
     ·have ha : addAns (L.map (·.1)) s P = (an.1, 0) := by rw [← han, ← e0]
      obtain ⟨gA, _, eI, _⟩ := add_good ha
      have hne : an.1 ≠ [] := by
       rw [eI]
       intro e
       have := congrArg List.length e
       rw [insK_len] at this
       simp at this
      obtain ⟨A2, eA2, dA2⟩ := DK.of_vo oA hne
      have l5 := md''.1
      have dA3 := dA2.low (show h.length ≤ h5.length by omega) (show h.length ≤ h5.length by omega)
      simp (disch := omega) [e0, p0, p2, p6, wrap64]
      exact ⟨j + 1, ⟨by omega, md6, hs6.mono (by omega), by omega, A2, dA3, by rw [eA2]; exact gA⟩, by omega⟩
     ·simp (disch := omega) [e0, p0, p2, p6, wrap64]
      exact ⟨j + 1, ⟨by omega, md6, hs6.mono (by omega), by omega, L, dL6, gL⟩, by omega⟩
    ·have : j ≤ 3 := by omega
     obtain ⟨lb, lz, e3, _, _⟩ := dL.sl
     rw [e3] at dL
     simp (disch := omega)
     subst hK
     simp (disch := omega) [e3]
     exact ⟨L, gL, md, dL, hs'.mono (by omega)⟩
theorem c434 (h : Heap) (a b : Int) : ACall Gam 434 [I a, I b] h fun r h' => r = I (min a b) ∧ h' = h := by
 refine ACall_intro g434 rfl ?_
 unfold fn434
 simp (disch := omega)
 refine fork_dec (fun h1 => ?_) (fun h1 => ?_)
 ·simp (disch := omega)
  omega
 ·simp (disch := omega)
  omega
theorem c499 (h : Heap) : ACall Gam 499 [I 2, I 3] h fun r h' => r = I 2187 ∧ h' = h := by
 refine ACall_intro g499 rfl ?_
 unfold fn499
 simp (disch := omega)
 refine callW_of (c448 2 3 (by omega) (by omega) h) ?_
 rintro _ h1 ⟨rfl, rfl⟩
 try refine ⟨fun e => (by cases e), ?_⟩
 have e7 : inner 2 3 = 7 := by decide
 rw [e7]
 try simp (disch := omega)
 refine awp_loop (fun (i : Nat) σ h' => i ≤ 7 ∧ h' = h1 ∧ σ 5 = I ((3 ^ i : Nat) : Int) ∧ σ 6 = I (7 - (i : Int))) (fun (i : Nat) => 7 - i) 0 ?_ ?_
 ·simp
 ·rintro i σ h' ⟨hi, rfl, p5, p6⟩
  simp (disch := omega) [p6]
  refine fork_dec (fun hlt => ?_) (fun hge => ?_)
  ·have i1 : i < 7 := by omega
   have hb : 3 ^ (i + 1) ≤ 3 ^ 7 := Nat.pow_le_pow_right (by omega) (by omega)
   have e3 : 3 ^ (i + 1) = 3 * 3 ^ i := by rw [Nat.pow_succ]; omega
   obtain ⟨n, hn⟩ : ∃ n, n = 3 ^ i := ⟨_, rfl⟩
   rw [← hn] at p5 e3
   have hb' : 3 * n ≤ 2187 := by rw [← e3]; exact hb
   simp (disch := omega) [p5, wrap64]
   refine callW_of (c434 _ _ _) ?_
   rintro _ h2 ⟨rfl, rfl⟩
   try refine ⟨fun e => (by cases e), ?_⟩
   have em : min (2501 : Int) (3 * (n : Int)) = ((3 ^ (i + 1) : Nat) : Int) := by rw [e3]; omega
   rw [em]
   simp (disch := omega) [p6, wrap64]
   exact ⟨i + 1, ⟨by omega, rfl, by omega⟩, by omega⟩
  ·have : i = 7 := by omega
   subst this
   simp (disch := omega) [p5]
theorem c498 (h : Heap) (hp : 0 < h.length) (n : Nat) (hn : n ≤ 100000) : ACall Gam 498 [I 2, I 3, I n] h fun r h' => ∃ P : Pan, OkP P ∧ Grows h h' ∧ Vo h' h.length h'.length shPanel r P := by
 refine ACall_intro g498 rfl ?_
 unfold fn498
 rw [awp_seq, awp_reg]
 generalize hK : seqQ Gam _ _ 0 = K
 simp (disch := omega)
 subst hK
 simp only [seqQ_zero]
 rw [awp_seq, awp_reg]
 generalize hK : seqQ Gam _ _ 0 = K
 simp (disch := omega)
 refine callW_of (c450s h 2 3 (by omega) (by omega)) ?_
 rintro _ h1 ⟨rfl, e1⟩
 have g1 : Grows h h1 := ⟨_, e1⟩
 try refine ⟨fun e => (by first | exact g1 | cases e), ?_⟩
 have e7 : (inner 2 3).toNat = 7 := by decide
 rw [e7] at e1 ⊢
 have b1 : h1[h.length]? = some ⟨ints (List.replicate 7 0), true⟩ := by rw [e1]; simp
 obtain ⟨bb, ebb⟩ : ∃ bb, bb = h.length := ⟨_, rfl⟩
 rw [← ebb] at b1 ⊢
 simp (disch := omega)
 subst hK
 simp only [seqQ_zero]
 rw [awp_seq]
 generalize hK : seqQ Gam _ _ = K
 simp (disch := omega) [wrap64]
 refine awp_loop (fun (i : Nat) σ h' => i ≤ 7 ∧ Grows h h' ∧ σ 6 = .agg #[I 0, I 0, sl 0 0 0 0] ∧ σ 7 = .agg #[I 2, I 3, sl bb 0 7 1] ∧ σ 8 = I (6 - (i : Int)) ∧ ∃ (k : Nat) (l : List Int), σ 2 = I k ∧ k ≤ 100000 ∧ h'[bb]? = some ⟨ints l, true⟩ ∧ l.length = 7 ∧ ∀ x ∈ l, 0 ≤ x ∧ x ≤ 2) (fun (i : Nat) => 7 - i) 0 ?_ ?_
 ·refine ⟨by omega, g1, by simp, by simp, by simp, n, List.replicate 7 0, by simp, hn, b1, by simp, ?_⟩
  intro x hx
  have := List.eq_of_mem_replicate hx
  omega
 ·rintro i σ h' ⟨hi, g, p6, p7, p8, k, l, p2, hk, bk, ll, lr⟩
  simp (disch := omega) [p8]
  refine fork_dec (fun hlt => ?_) (fun hge => ?_)
  ·have i1 : i < 7 := by omega
   obtain ⟨j, hj⟩ : ∃ j, j + i = 6 := ⟨6 - i, by omega⟩
   have ej : (6 : Int) - i = (j : Int) := by omega
   have j1 : j < 7 := by omega
   have j2 : (j : Int) < 7 := by omega
   obtain ⟨d, hd⟩ : ∃ d : Int, d = ((k % 3 : Nat) : Int) := ⟨_, rfl⟩
   obtain ⟨q, hq⟩ : ∃ q : Nat, q = k / 3 := ⟨_, rfl⟩
   have t1 : (k : Int).tmod 3 = d := by rw [hd]; rfl
   have t2 : (k : Int).tdiv 3 = (q : Int) := by rw [hq]; rfl
   have st := store_int (v := d) bk (k := j) (by omega)
   simp (disch := omega) [p2, p7, p8, ej, j1, j2, t1, t2, st, wrap64]
   refine ⟨i + 1, ⟨by omega, g.put (by omega) _, by simp [p6], by omega, q, rfl, by omega, l.set j d, (by rw [List.getElem?_set_self (at_lt bk)]), by simp [ll], ?_⟩, by omega⟩
   ·intro x hx
    rcases List.mem_or_eq_of_mem_set hx with hx | rfl
    ·exact lr x hx
    ·omega
  ·have : i = 7 := by omega
   subst this
   have vo : Vo h' h.length h'.length shPanel (.agg #[I 2, I 3, sl bb 0 7 1]) ((2, 3, l) : Pan) := by
    have o := Vo.of_ints (h := h') (b := bb) (lo := h.length) (hi := h'.length) (z := 1) (X := l) (.inl rfl) (by rw [maxLen_eq]; omega) (fun x hx => by have := lr x hx; unfold I64; omega) (.inr ⟨bk, by omega, at_lt bk⟩)
    rw [ll] at o
    exact Vo.of_panel (by unfold I64; omega) (by unfold I64; omega) o
   have okP : OkP ((2, 3, l) : Pan) := ⟨by simp only; omega, by simp only; omega, by simp only [ll]; decide, lr⟩
   simp (disch := omega)
   subst hK
   simp (disch := omega) [p6, p7, resOf, resAll, resOne, aField]
   exact ⟨_, _, _, okP, g, vo⟩
/-- Entries of a wide library. -/
def Wd (L : List Row) : Prop := ∀ q ∈ L, OkP q.1.2 ∧ q.1.1.length = 3
theorem c546 (h : Heap) (hp : 0 < h.length) (m : Nat) (hm : m ≤ 100) : ACall Gam 546 [I m] h fun r h' => Grows h h' ∧ ∃ L : List Row, KB h h' r L ∧ L.length ≤ m ∧ Wd L := by
 refine ACall_intro g546 rfl ?_
 unfold fn546
 rw [awp_seq, awp_reg]
 generalize hK : seqQ Gam _ _ 0 = K
 simp (disch := omega)
 subst hK
 simp only [seqQ_zero]
 rw [awp_seq, awp_reg]
 generalize hK : seqQ Gam _ _ 0 = K
 simp (disch := omega)
 subst hK
 simp only [seqQ_zero]
 rw [awp_seq]
 generalize hK : seqQ Gam _ _ = K
 simp (disch := omega)
 refine awp_loop (fun (n : Nat) σ h' => n ≤ 2187 ∧ Grows h h' ∧ σ 0 = I m ∧ σ 4 = I n ∧ ∃ L, KB h h' (σ 3) L ∧ L.length ≤ m ∧ Wd L) (fun (n : Nat) => 2187 - n) 0 ?_ ?_
 ·exact ⟨by omega, Grows.refl _, by simp, by simp, [], by simpa using KB.nil, by simp, by simp [Wd]⟩
 ·rintro n σ h' ⟨hn, g, p0, p4, L, kb, hl, wd⟩
  obtain ⟨lb, e3⟩ := kb.len
  have fin : ∀ σ' : Nat → Value, σ' 3 = σ 3 → K 0 σ' h' := by
   intro σ' q3
   subst hK
   rw [e3] at q3
   simp (disch := omega) [q3]
   rw [e3] at kb
   exact ⟨g, L, kb, hl, wd⟩
  have hpp := pos_of hp g
  by_cases hlm : L.length < m
  rotate_left
  ·have h1 : ¬ (L.length : Int) < m := by omega
   simp (disch := omega) [e3, p0, hlm, h1]
   exact fin _ (by simp [e3])
  have h1 : (L.length : Int) < m := by omega
  simp (disch := omega) [e3, p0, hlm, h1, p4]
  refine callW_of (c499 h') ?_
  rintro _ hx ⟨rfl, rfl⟩
  try refine ⟨fun e => (by cases e), ?_⟩
  simp (disch := omega)
  refine fork_dec (fun hlt => ?_) (fun hge => ?_)
  rotate_left
  ·simp (disch := omega)
   exact fin _ (by simp [e3])
  clear fin
  simp (disch := omega) [p4]
  refine callW_of (c498 hx hpp n (by omega)) ?_
  rintro _ h2 ⟨⟨W, H, br⟩, okP', g2, oP⟩
  try refine ⟨fun e => (by first | exact g2 | cases e), ?_⟩
  have hp2 := pos_of hpp g2
  obtain ⟨s, rfl, w64, h64, oI⟩ := oP.panel
  have hsb : storeAt (h2 ++ [⟨[I 0, I 0, sl 0 0 0 0], true⟩]) h2.length 0 [I W, I H, s] = some (h2 ++ [⟨[I W, I H, s], true⟩]) := store_box rfl
  obtain ⟨ib, iz, es, _⟩ := oI.ints
  subst es
  simp (disch := omega) [hsb]
  obtain ⟨h3, e3'⟩ : ∃ h3, h3 = h2 ++ [⟨[I W, I H, sl ib 0 br.length iz], true⟩] := ⟨_, rfl⟩
  have g3 : Grows h2 h3 := ⟨_, e3'⟩
  have f3 : h3[h2.length]? = some ⟨[I W, I H, sl ib 0 br.length iz], true⟩ := by rw [e3']; simp
  rw [← e3']
  clear e3' hsb
  have oP3 := oP.grow g3
  have pp3 : PtP h3 (pt h2.length 0) (W, H, br) := PtP.at f3 (oI.vr.grow g3) w64 h64
  have hp3 := pos_of hp2 g3
  refine callW_of (c476 h3 hp3 _ (W, H, br) pp3 okP') ?_
  rintro _ h4 ⟨g4, oC⟩
  try refine ⟨fun e => (by first | exact g4 | cases e), ?_⟩
  have hp4 := pos_of hp3 g4
  obtain ⟨C, hC⟩ : ∃ C, C = canonP (W, H, br) := ⟨_, rfl⟩
  rw [← hC] at oC
  obtain ⟨W2, H2, br2⟩ := C
  obtain ⟨s2, rfl, w264, h264, oI2⟩ := oC.panel
  obtain ⟨ib2, iz2, es, _⟩ := oI2.ints
  subst es
  have hsb : storeAt (h4 ++ [⟨[I 0, I 0, sl 0 0 0 0], true⟩]) h4.length 0 [I W2, I H2, sl ib2 0 br2.length iz2] = some (h4 ++ [⟨[I W2, I H2, sl ib2 0 br2.length iz2], true⟩]) := store_box rfl
  simp (disch := omega) [hsb]
  obtain ⟨h5, e5⟩ : ∃ h5, h5 = h4 ++ [⟨[I W2, I H2, sl ib2 0 br2.length iz2], true⟩] := ⟨_, rfl⟩
  have g5 : Grows h4 h5 := ⟨_, e5⟩
  have f5 : h5[h4.length]? = some ⟨[I W2, I H2, sl ib2 0 br2.length iz2], true⟩ := by rw [e5]; simp
  rw [← e5]
  clear e5 hsb
  have pp5 : PtP h5 (pt h4.length 0) (W2, H2, br2) := PtP.at f5 (oI2.vr.grow g5) w264 h264
  have g35 := g4.trans g5
  refine callW_of (c456 h5 _ _ (W2, H2, br2) (W, H, br) pp5 (pp3.grow g35)) ?_
  rintro _ hy ⟨rfl, rfl⟩
  try refine ⟨fun e => (by cases e), ?_⟩
  have G : Grows h hy := ((g.trans g2).trans g3).trans g35
  cases hsame : samP (W2, H2, br2) (W, H, br)
  ·simp (disch := omega) [p0, p4, wrap64]
   exact ⟨n + 1, ⟨by omega, G, by omega, L, kb.grow (((g2.trans g3).trans g35)), hl, wd⟩, by omega⟩
  ·have f6 : hy[h2.length]? = some ⟨[I W, I H, sl ib 0 br.length iz], true⟩ := g35.at f3
   have hc6 : cellsAt hy h2.length 0 3 = some [I W, I H, sl ib 0 br.length iz] := cellsAt_all f6 rfl
   obtain ⟨k, hk⟩ : ∃ k, k = L.length := ⟨_, rfl⟩
   have t1 : (k : Int).tdiv 26 = ((k / 26 : Nat) : Int) := rfl
   have t2 : (k : Int).tmod 26 = ((k % 26 : Nat) : Int) := rfl
   obtain ⟨a, ha⟩ : ∃ a : UInt8, a = UInt8.ofNat (97 + k / 26) := ⟨_, rfl⟩
   obtain ⟨b, hb⟩ : ∃ b : UInt8, b = UInt8.ofNat (97 + k % 26) := ⟨_, rfl⟩
   have a1 : a.toNat = 97 + k / 26 := by rw [ha]; simp [UInt8.toNat_ofNat]; omega
   have b1 : b.toNat = 97 + k % 26 := by rw [hb]; simp [UInt8.toNat_ofNat]; omega
   rw [← hk] at e3
   have wa : IntKind.u8.wrap (97 + (k : Int) / 26) = (a.toNat : Int) := by rw [wrap8 (by omega) (by omega)]; omega
   have wb : IntKind.u8.wrap (97 + (k : Int) % 26) = (b.toNat : Int) := by rw [wrap8 (by omega) (by omega)]; omega
   obtain ⟨h7, e7⟩ : ∃ h7, h7 = hy ++ [⟨bytesV [a, b], true⟩] := ⟨_, rfl⟩
   have g7 : Grows hy h7 := ⟨_, e7⟩
   have f7 : h7[hy.length]? = some ⟨bytesV [a, b], true⟩ := by rw [e7]; simp
   have bs : aBuildSlice 1 2 hy [(0, .agg #[U 0, U 0]), (1, U a.toNat), (1001, U b.toNat)] = some (sl hy.length 0 2 1, h7) := by
    rw [e7]; simp [aBuildSlice, bytesV]
   have cv := text_pre f7 (n := 2) (by simp)
   have c7 : cellsAt h7 h2.length 0 3 = some [I W, I H, sl ib 0 br.length iz] := cellsAt_all (g7.at f6) rfl
   have tk : List.take 2 [a, b] = [a, b] := rfl
   rw [tk] at cv
   simp (disch := omega) [e3, wrap64, t1, t2, wa, wb, bs, cv, c7]
   rw [hk] at e3
   rw [hk, ← e3]
   refine kb_snoc (n := [112, a, b]) (W := W) (H := H) (br := br) hp kb g (((g2.trans g3).trans g35).trans g7) ?_ (by rw [maxLen_eq]; simp) (by omega) ?_
   ·exact ((oP3.grow g35).grow g7).wide (Nat.le_refl _) ((g3.trans g35).trans g7).le
   ·intro v8 h8 r g8 kb8 er
    simp (disch := omega) [p0, p4, wrap64]
    refine ⟨n + 1, ⟨by omega, g8, by omega, L ++ [r], kb8, by simp; omega, ?_⟩, by omega⟩
    intro q hq
    rcases List.mem_append.1 hq with hq | hq
    ·exact wd q hq
    ·simp at hq; subst hq
     rw [er]; exact ⟨okP', rfl⟩
theorem rowsC_split {L : List Row} {i : Nat} (hi : i < L.length) : rowsC L = rowsC (L.take i) ++ (rowC L[i] ++ rowsC (L.drop (i + 1))) ∧ (rowsC (L.take i)).length = i * 4 := by
 have e : L = L.take i ++ L[i] :: L.drop (i + 1) := by rw [← List.drop_eq_getElem_cons hi, List.take_append_drop]
 refine ⟨?_, by rw [rowsC_len, List.length_take]; omega⟩
 conv => lhs; rw [e]
 rw [rowsC_append, rowsC_cons]
theorem row_store {h : Heap} {b i o : Nat} {L : List Row} {r : Row} {vs : List Value} (hb : h[b]? = some ⟨rowsC L, true⟩) (hi : i < L.length) (ho : o + vs.length ≤ 4) (hr : rowC r = splice (rowC L[i]) o vs) : storeAt h b (i * 4 + o) vs = some (h.set b ⟨rowsC (L.set i r), true⟩) := by
 obtain ⟨e, l1⟩ := rowsC_split hi
 have l2 := rowsC_len L
 have l3 : (rowC L[i]).length = 4 := rfl
 unfold storeAt
 rw [hb]
 simp only
 rw [if_pos ⟨trivial, by rw [l2]; omega⟩]
 congr 3
 have e2 : L.set i r = L.take i ++ r :: L.drop (i + 1) := by rw [List.set_eq_take_append_cons_drop, if_pos hi]
 rw [e2, rowsC_append, rowsC_cons, hr, e]
 unfold splice
 rw [← l1, List.take_length_add_append, List.take_append_of_le_length (by omega), Nat.add_assoc, List.drop_length_add_append, List.drop_append_of_le_length (by omega)]
 simp only [List.append_assoc]
theorem DK.put {h : Heap} {lo lo' b z i : Nat} {L : List Row} {r : Row} (d : DK h lo lo' (Am.sl b 0 L.length z) L) (hb : h[b]? = some ⟨rowsC L, true⟩) (hz : z = 4) (hlo : lo' ≤ b) (hi : i < L.length) (hr : EntO h r ∧ ∀ c ∈ rowB r, lo ≤ c) : DK (h.set b ⟨rowsC (L.set i r), true⟩) lo lo' (Am.sl b 0 L.length z) (L.set i r) := by
 subst hz
 have hne : L ≠ [] := by intro e; subst e; simp at hi
 refine ⟨.inr ⟨b, by simp, hlo, by rw [List.getElem?_set_self (at_lt hb)]⟩, fun q hq => ?_⟩
 have key : ∀ q, EntO h q → EntO (h.set b ⟨rowsC (L.set i r), true⟩) q := by
  intro q e
  have nb := row_first e hb hne
  exact e.frame fun c hc => by rw [set_other (fun e => nb (by rw [← e]; exact hc))]
 rcases List.mem_or_eq_of_mem_set hq with hq | rfl
 ·exact ⟨key q (d.row q hq).1, (d.row q hq).2⟩
 ·exact ⟨key q hr.1, hr.2⟩
theorem DK.of_kb {h0 h : Heap} {v : Value} {L : List Row} (k : KB h0 h v L) : DK h h0.length h0.length v L := by
 have hl := rowsC_len L
 refine ⟨?_, fun r hr => ⟨k.el r hr, k.rg r hr⟩⟩
 rcases k.b with ⟨e1, e2⟩ | ⟨b, n, e1, e2, e3, e4⟩
 ·left
  have : L = [] := by rw [e1] at hl; simp at hl; exact List.length_eq_zero_iff.1 (by omega)
  exact ⟨this, _, e2⟩
 ·right
  rw [hl] at e2
  have : n = L.length := by omega
  subst this
  exact ⟨b, e1, e3, e4⟩
/-- Rows of bounded size. -/
def SmR (L : List Row) : Prop := ∀ q ∈ L, q.1.1.length ≤ 12 ∧ q.1.2.2.2.length ≤ 200
theorem smr_siz {L : List Row} {n : Nat} (hl : L.length ≤ n) (hs : SmR L) : siz shKepts (L.map (·.1)) ≤ 250 * n := by
 have key : ∀ Y : List Row, SmR Y → (Y.map (·.1)).length + sizL (Y.map (·.1)) ≤ 250 * Y.length := by
  intro Y
  induction Y with
  | nil => intro _; simp [sizL]
  | cons y Y ih =>
   intro hy
   have h1 := ih fun z hz => hy z (by simp [hz])
   obtain ⟨a, b⟩ := hy y (by simp)
   have h3 : siz shKept y.1 = y.1.1.length + y.1.2.2.2.length := siz_kept _ _ _ _
   have h4 : sizL ((y :: Y).map (·.1)) = siz shKept y.1 + sizL (Y.map (·.1)) := by simp [sizL]
   rw [h4, h3]
   simp only [List.length_cons, List.length_map] at h1 ⊢; omega
 have := key L hs
 rw [siz_kepts]; omega
theorem good_smr {L : List Row} (g : KGood (L.map (·.1))) : SmR L := by
 intro q hq
 have ok := good_iff.2 g
 obtain ⟨a, b⟩ := ok.small q.1 (List.mem_map.2 ⟨q, hq, rfl⟩)
 exact ⟨a, by omega⟩
theorem wd_smr {L : List Row} (w : Wd L) : SmR L := by
 intro q hq
 obtain ⟨a, b⟩ := w q hq
 have := a.siz
 exact ⟨by omega, by omega⟩
theorem Mod.own2 {b lb : Nat} {h h1 : Heap} {k : Blk} (x : Mod b (b + 1) h h1) (h0 : 0 < 1) (hl : h.length ≤ lb) : Mod b (b + 1) h (h1.set lb k) :=
 ⟨by have := x.1; simpa using this, fun c hc hn => by rw [set_other (by omega)]; exact x.2 c hc hn⟩
theorem Src.set2 {h : Heap} {b m m' lb : Nat} {k : Blk} (x : Src h b m) (hm : m ≤ m') (hl : b < lb) : Src (h.set lb k) b m' :=
 (x.mod (lo := lb) (hi := lb + 1) ⟨by simp, fun c hc hn => by rw [set_other (by omega)]⟩ hl).mono hm
theorem c536 (h : Heap) (b m : Nat) (hs : Src h b m) (hm : m ≤ 100000) (hb : b < h.length) (hp : 0 < b) : ACall Gam 536 [pt b 0] h fun r h' => ∃ L : List Row, (L.length ≤ 60 ∧ SmR L) ∧ Mod b (b + 1) h h' ∧ DK h' h.length h.length r L ∧ Src h' b (m + 10000) := by
 refine ACall_intro g536 rfl ?_
 unfold fn536
 rw [awp_seq, awp_reg]
 generalize hK : seqQ Gam _ _ 0 = K
 simp (disch := omega)
 subst hK
 simp only [seqQ_zero]
 rw [awp_seq]
 generalize hK : seqQ Gam _ _ = K
 simp (disch := omega)
 refine callW_of (c6 h b m 30 hs (by omega) (by unfold I64; omega)) ?_
 rintro _ h1 ⟨w, rfl, md1, l1, hs1⟩
 try refine ⟨fun e => (by cases e), ?_⟩
 cases w
 rotate_left
 ·simp (disch := omega)
  refine callW_of (c7 h1 b _ 2 hs1 (by omega) (by unfold I64; omega)) ?_
  rintro _ h2 ⟨q, rfl, _, q1, md2, l2, hs2⟩
  try refine ⟨fun e => (by cases e), ?_⟩
  have q2 := q1 (by omega)
  obtain ⟨n, en⟩ : ∃ n : Nat, n = 40 + q := ⟨_, rfl⟩
  have en' : (40 : Int) + q = (n : Int) := by omega
  simp (disch := omega) [wrap64, en']
  refine callW_of (c546 h2 (by omega) n (by omega)) ?_
  rintro v3 h3 ⟨g3, L, kb, hl, wd⟩
  try refine ⟨fun e => (by first | exact g3 | cases e), ?_⟩
  have d := (DK.of_kb kb).low (show h.length ≤ h2.length by omega) (show h.length ≤ h2.length by omega)
  obtain ⟨lb, lz, e3, _⟩ := d.sl
  subst e3
  try simp (disch := omega)
  subst hK
  simp (disch := omega)
  exact ⟨L, ⟨by omega, wd_smr wd⟩, (md1.trans md2).trans g3.mod, d, (hs2.grow g3).mono (by omega)⟩
 simp (disch := omega)
 subst hK
 simp only [seqQ_zero]
 rw [awp_seq, awp_reg]
 generalize hK : seqQ Gam _ _ 0 = K
 simp (disch := omega)
 refine callW_of (c537 h1 b _ hs1 (by omega) (by omega) hp) ?_
 rintro v3 h2 ⟨L, gL, md2, d2, hs2⟩
 try refine ⟨fun e => (by cases e), ?_⟩
 rw [l1] at d2
 have md02 := md1.trans md2
 have sm := good_smr gL
 have gl := gL.len
 simp at gl
 obtain ⟨lb, lz, rfl, _, hlb⟩ := d2.sl
 try simp (disch := omega)
 subst hK
 simp only [seqQ_zero]
 rw [awp_seq]
 generalize hK : seqQ Gam _ _ = K
 by_cases h0 : L.length = 0
 ·simp (disch := omega) [h0]
  subst hK
  rw [h0] at d2
  simp (disch := omega)
  exact ⟨L, ⟨by omega, sm⟩, md02, d2, hs2.mono (by omega)⟩
 have hne : L ≠ [] := by intro e; subst e; simp at h0
 obtain ⟨rfl, lb1, lb2⟩ := hlb.resolve_left hne
 have h0' : ¬ (L.length : Int) = 0 := by omega
 simp (disch := omega) [h0, h0']
 subst hK
 simp only [seqQ_zero]
 rw [awp_seq, awp_reg]
 generalize hK : seqQ Gam _ _ 0 = K
 simp (disch := omega)
 have lpos : 0 < L.length := by omega
 refine callW_of (c7 h2 b _ L.length hs2 (by omega) (by unfold I64; omega)) ?_
 rintro _ h3 ⟨at_, rfl, a1, a2, md3, l3, hs3⟩
 try refine ⟨fun e => (by cases e), ?_⟩
 have hat : at_ < L.length := by
  by_cases q : 1 < (L.length : Int)
  ·have := a2 q; omega
  ·have := a1 (by omega); omega
 try simp (disch := omega)
 subst hK
 simp only [seqQ_zero]
 rw [awp_seq]
 generalize hK : seqQ Gam _ _ = K
 have md03 := md02.trans md3
 have d3 := d2.mod md3 hb hb
 have lb3 : h3[lb]? = some ⟨rowsC L, true⟩ := by rw [md3.2 lb (at_lt lb2) (by omega)]; exact lb2
 have tail : ∀ (σ' : Nat → Value) (h4 : Heap) (L' : List Row), σ' 3 = σ' 3 → L'.length ≤ 60 → SmR L' → Mod b (b + 1) h h4 → DK h4 h.length h.length (σ' 3) L' → Src h4 b (m + 10000) → K 0 σ' h4 := by
  intro σ' h4 L' _ hl hsm md4 d4 hs4
  obtain ⟨cb, cz, e3, _⟩ := d4.sl
  rw [e3] at d4
  subst hK
  simp (disch := omega) [e3]
  exact ⟨L', ⟨hl, hsm⟩, md4, d4, hs4⟩
 rw [awp_seq, awp_reg]
 generalize hK2 : seqQ Gam _ _ 0 = K2
 simp (disch := omega)
 refine callW_of (c7 h3 b _ 20 hs3 (by omega) (by unfold I64; omega)) ?_
 rintro _ h4 ⟨k, rfl, _, k1, md4, l4, hs4⟩
 try refine ⟨fun e => (by cases e), ?_⟩
 have k2 := k1 (by omega)
 have md04 := md03.trans md4
 have d4 := d3.mod md4 hb hb
 have lb4 : h4[lb]? = some ⟨rowsC L, true⟩ := by rw [md4.2 lb (at_lt lb3) (by omega)]; exact lb3
 try simp (disch := omega)
 subst hK2
 simp only [seqQ_zero]
 rw [awp_block]
 have tail' : ∀ (σ' : Nat → Value) (h4 : Heap) (L' : List Row), L'.length ≤ 60 → SmR L' → Mod b (b + 1) h h4 → DK h4 h.length h.length (σ' 3) L' → Src h4 b (m + 10000) → blockQ 0 K 0 σ' h4 := by
  intro σ' h4 L' hl hsm md4 d4 hs4
  rw [blockQ_eq, if_neg (by omega)]
  exact tail σ' h4 L' rfl hl hsm md4 d4 hs4
 clear tail
 generalize blockQ 0 K = B1 at tail' ⊢
 have hat' : (at_ : Int) < L.length := by omega
 have er := (d4.row L[at_] (List.getElem_mem hat))
 have sr := sm L[at_] (List.getElem_mem hat)
 have smset : ∀ r : Row, r.1.1.length ≤ 12 → r.1.2.2.2.length ≤ 200 → SmR (L.set at_ r) := by
  intro r x1 x2 q hq
  rcases List.mem_or_eq_of_mem_set hq with hq | rfl
  ·exact sm q hq
  ·exact ⟨x1, x2⟩
 by_cases e0 : k = 0
 ·subst e0
  simp (disch := omega)
  refine callW_of (c540 h4 b _ hs4 (by omega) (by have := md04.1; omega)) ?_
  rintro _ h5 ⟨s, rfl, sl5, md5, hs5⟩
  try refine ⟨fun e => (by cases e), ?_⟩
  have d5 := d4.mod md5 hb hb
  have lb5 : h5[lb]? = some ⟨rowsC L, true⟩ := by rw [md5.2 lb (at_lt lb4) (by omega)]; exact lb4
  have er5 := (d5.row L[at_] (List.getElem_mem hat))
  have st := row_store (o := 0) (r := ((s, L[at_].1.2), L[at_].2)) (vs := [S s]) lb5 hat (by simp) (by simp [splice, rowC, rowS, rbr])
  simp only [Nat.add_zero] at st
  simp (disch := omega) [hat, hat', st]
  have hr : EntO h5 ((s, L[at_].1.2), L[at_].2) := ⟨er5.1.z, er5.1.m, er5.1.x, er5.1.b, er5.1.w, er5.1.h, by rw [maxLen_eq]; simp only; omega⟩
  have d6 := d5.put lb5 rfl lb1 hat ⟨hr, er5.2⟩
  have md6 : Mod b (b + 1) h (h5.set lb ⟨rowsC (L.set at_ ((s, L[at_].1.2), L[at_].2)), true⟩) := (md04.trans md5).own2 (by omega) lb1
  refine tail' _ _ (L.set at_ ((s, L[at_].1.2), L[at_].2)) (by simp; omega) (smset _ (by simp only; omega) sr.2) md6 (by simpa using d6) (hs5.set2 (by omega) (by omega))
 by_cases e1 : k = 1
 ·subst e1
  simp (disch := omega)
  refine callW_of (c443 h4 b _ hs4 (by omega)) ?_
  rintro _ h5 ⟨⟨W, H, br⟩, hbl, md5, oP, hs5⟩
  try refine ⟨fun e => (by cases e), ?_⟩
  obtain ⟨s, rfl, w64, h64, oI⟩ := oP.panel
  obtain ⟨ib, iz, rfl, hiz, him, hix, hib⟩ := oI.ints
  have hbl : br.length ≤ 200 := hbl
  have d5 := d4.mod md5 hb hb
  have lb5 : h5[lb]? = some ⟨rowsC L, true⟩ := by rw [md5.2 lb (at_lt lb4) (by omega)]; exact lb4
  have er5 := (d5.row L[at_] (List.getElem_mem hat))
  obtain ⟨r, er'⟩ : ∃ r : Row, r = ((L[at_].1.1, W, H, br), ib, iz) := ⟨_, rfl⟩
  have hC : rowC r = [S L[at_].1.1, I W, I H, sl ib 0 br.length iz] := by rw [er']; rfl
  have st := row_store (o := 1) (r := r) (vs := [I W, I H, sl ib 0 br.length iz]) lb5 hat (by simp) (by rw [hC]; simp [splice, rowC])
  simp (disch := omega) [hat, hat', st]
  have l04 := md04.1
  have hr : EntO h5 r ∧ ∀ c ∈ rowB r, h.length ≤ c := by
   rw [er']
   refine ⟨⟨hiz, him, hix, hib.imp id fun q => q.1, w64, h64, er5.1.n⟩, fun c hc => ?_⟩
   unfold rowB at hc
   split at hc
   ·simp at hc
   ·rename_i hne'
    simp at hc
    have := (hib.resolve_left hne').2.1
    omega
  have d6 := d5.put lb5 rfl lb1 hat hr
  have md6 : Mod b (b + 1) h (h5.set lb ⟨rowsC (L.set at_ r), true⟩) := (md04.trans md5).own2 (by omega) lb1
  refine tail' _ _ (L.set at_ r) (by simp; omega) (smset _ (by rw [er']; exact sr.1) (by rw [er']; exact hbl)) md6 (by simpa using d6) (hs5.set2 (by omega) (by omega))
 by_cases e2 : k = 2
 ·subst e2
  have cc := rowsC_cells lb4 hat
  rw [rowC_agg] at cc
  have l04 := md04.1
  simp (disch := omega) [hat, hat', cc]
  refine dk_app (h := h4) (lo := h.length) (lo' := h.length) (by omega) l04 d4 er (by omega) fun v' h5 md5 d5 => ?_
  try simp (disch := omega)
  refine tail' _ _ (L ++ [L[at_]]) (by simp; omega) ?_ ?_ (by simpa using d5) ((hs4.mod md5 hb).mono (by omega))
  ·intro q hq
   rcases List.mem_append.1 hq with hq | hq
   ·exact sm q hq
   ·simp at hq; subst hq; exact sr
  ·exact ⟨by have := md5.1; omega, fun c hc hn => by rw [md5.2 c (by omega) (by omega)]; exact md04.2 c hc hn⟩
 ·have k0 : ¬ (k : Int) = 0 := by omega
  have k1 : ¬ (k : Int) = 1 := by omega
  have k2 : ¬ (k : Int) = 2 := by omega
  simp (disch := omega) [k0, k1, k2, e0, e1, e2]
  exact tail' _ h4 L (by omega) sm md04 (by simpa using d4) (hs4.mono (by omega))
theorem insK_erase {k : Kpt} : ∀ {X : Lib}, (∀ y ∈ X, y.1 ≠ k.1) → (insK k X).eraseIdx (nameN (insK k X) k.1) = X
 | [], _ => by simp [insK, nameN]
 | x :: X, h => by
  have hx := h x (by simp)
  have ih := insK_erase (k := k) (X := X) fun y hy => h y (by simp [hy])
  simp only [insK]
  split
  ·have e : nameN (x :: insK k X) k.1 = nameN (insK k X) k.1 + 1 := by
    unfold nameN
    rw [List.findIdx_cons]
    simp [hx]
   rw [e, List.eraseIdx_cons_succ, ih]
  ·have e : nameN (k :: x :: X) k.1 = 0 := by
    unfold nameN
    rw [List.findIdx_cons]
    simp
   rw [e, List.eraseIdx_cons_zero]
theorem add_found {X Y : Lib} {s : List UInt8} {P : Pan} (h : addAns X s P = (Y, 0)) {t : Nat} (ht : t < 8) :
  OkP P ∧ keptOk Y = true ∧ nameOfAns Y (mapP P t) = (s, 0) ∧ namedAns Y s = (canonP P, 0) ∧ removeAns Y s = (X, 0) := by
 obtain ⟨gY, gX, hY, okp, hn, hs, hl⟩ := add_good h
 have kY : keptOk Y = true := keptOk_iff.2 (good_iff.2 gY)
 have hm : (s, canonP P) ∈ Y := by rw [hY]; exact mem_insK.2 (.inl rfl)
 have hYm : ∀ y ∈ Y, y = (s, canonP P) ∨ y ∈ X := by intro y hy; rw [hY] at hy; exact mem_insK.1 hy
 have n1 : nameN Y s < Y.length := nameN_lt.2 ⟨_, hm, rfl⟩
 have l1 : likeN Y (canonP P) < Y.length := likeN_lt.2 ⟨_, hm, rfl⟩
 have na := nameN_at n1
 have la := likeN_at l1
 have u1 : Y[nameN Y s] = (s, canonP P) := by
  rcases hYm _ (List.getElem_mem n1) with e | e
  ·exact e
  ·exact absurd na (hn _ e).1
 have u2 : Y[likeN Y (canonP P)] = (s, canonP P) := by
  rcases hYm _ (List.getElem_mem l1) with e | e
  ·exact e
  ·exact absurd la (hn _ e).2
 have okm : okP (mapP P t) = true := okP_iff.2 (mapP_ok okp t)
 refine ⟨okp, kY, ?_, ?_, ?_⟩
 ·unfold nameOfAns
  rw [kY, okm, canon_map okp ht]
  simp only [Bool.and_self, if_true]
  rw [if_pos l1, kN_of l1, u2]
 ·unfold namedAns
  rw [kY, if_pos rfl, if_pos n1, kP_of n1, u1]
 ·unfold removeAns
  rw [kY, if_pos rfl, if_pos n1]
  congr 1
  conv => lhs; rw [hY]
  exact insK_erase (k := (s, canonP P)) fun y hy => (hn y hy).1
def Dice (h : Heap) (b : Nat) : Prop := ∃ (cb co n z : Nat) (s : Int), h[b]? = some ⟨[sl cb co n z, I 0, .int .u64 s], true⟩ ∧ n ≤ 9223372036854775807 ∧ (n = 0 ∨ cb < b) ∧ ∀ i, i < n → ∃ x : Nat, cell h cb (co + i) = some (.int .u8 x) ∧ x < 256
theorem c273 (h : Heap) (v : Value) (X : List Int) (sd : Int) (hv : Vr h shBytes v X) : ACall Gam 273 [v, .int .u64 sd] h fun r h' => r = pt h.length 0 ∧ Grows h h' ∧ Dice h' h.length := by
 obtain ⟨b, o, z, rfl, hm, hel⟩ := byte_at hv
 refine ACall_intro g273 rfl ?_
 unfold fn273
 rw [awp_seq, awp_reg]
 generalize hK : seqQ Gam _ _ 0 = K
 simp (disch := omega)
 subst hK
 simp only [seqQ_zero]
 rw [awp_seq, awp_reg]
 generalize hK : seqQ Gam _ _ 0 = K
 simp (disch := omega)
 obtain ⟨t, ht⟩ : ∃ t, t = IntKind.u64.wrap (IntKind.u64.wrap (sd * 7919) + IntKind.u64.wrap ↑X.length) := ⟨_, rfl⟩
 rw [← ht]
 obtain ⟨h1, e1⟩ : ∃ h1, h1 = h ++ [⟨[sl b o X.length z, I 0, .int .u64 t], true⟩] := ⟨_, rfl⟩
 rw [← e1]
 have g1 : Grows h h1 := ⟨_, e1⟩
 have b1 : h1[h.length]? = some ⟨[sl b o X.length z, I 0, .int .u64 t], true⟩ := by rw [e1]; simp
 subst hK
 simp only [seqQ_zero]
 have hbb : X.length = 0 ∨ b < h.length := by
  by_cases h0 : X.length = 0
  ·exact .inl h0
  ·obtain ⟨x, e, _⟩ := hel 0 (by omega)
   right
   unfold cell at e
   cases hk : h[b]? with
   | none => rw [hk] at e; simp at e
   | some k => exact at_lt hk
 rw [awp_seq]
 generalize hP : seqQ Gam _ _ = P
 simp (disch := omega)
 refine awp_loop (fun k σ h' => k ≤ X.length ∧ (∃ s, h' = h ++ [⟨[sl b o X.length z, I 0, .int .u64 s], true⟩]) ∧ σ 0 = sl b o X.length z ∧ σ 5 = pt h.length 0 ∧ σ 6 = I k) (fun k => X.length - k) 0 ?_ ?_
 ·exact ⟨by omega, ⟨t, e1⟩, by simp, by simp, by simp⟩
 ·rintro k σ h' ⟨hk, ⟨s, rfl⟩, q0, q5, q6⟩
  simp (disch := omega) [q0, q5, q6]
  refine fork_dec (fun hlt => ?_) (fun hge => ?_)
  ·have k1 : k < X.length := by omega
   obtain ⟨x, kc1, hx⟩ := hel k k1
   have kc2 : cell (h ++ [⟨[sl b o X.length z, I 0, .int .u64 s], true⟩]) b (o + k) = some (.int .u8 x) := Grows.cell ⟨_, rfl⟩ kc1
   have bb : (h ++ [⟨[sl b o X.length z, I 0, .int .u64 s], true⟩])[h.length]? = some ⟨[sl b o X.length z, I 0, .int .u64 s], true⟩ := by simp
   have k2 : cell (h ++ [⟨[sl b o X.length z, I 0, .int .u64 s], true⟩]) h.length 2 = some (.int .u64 s) := by simp [cell]
   have st : ∀ v, storeAt (h ++ [⟨[sl b o X.length z, I 0, .int .u64 s], true⟩]) h.length 2 [v] = some (h ++ [⟨[sl b o X.length z, I 0, v], true⟩]) := by
    intro v
    rw [store_one (v := v) (o := 2) bb (by simp)]
    simp
   simp (disch := omega) [q0, q5, q6, k1, kc2, k2, st, wrap64]
   refine ⟨k + 1, ?_, by omega⟩
   and_intros <;> first | omega | assumption | exact ⟨_, rfl⟩ | rfl
  ·simp (disch := omega)
   subst hP
   simp (disch := omega) [q5]
   exact ⟨⟨_, rfl⟩, b, o, X.length, z, s, by simp, hm, hbb, fun i hi => by
    obtain ⟨x, kc1, hx⟩ := hel i hi
    exact ⟨x, Grows.cell ⟨_, rfl⟩ kc1, hx⟩⟩
theorem and_small (a : Int) : ∃ x : Nat, bitsOp .u64 (· &&& ·) a 16777215 = .int .u64 x ∧ x < 16777216 := by
 obtain ⟨x, hx⟩ : ∃ x : Nat, x = (BitVec.ofInt 64 a &&& BitVec.ofInt 64 16777215).toNat := ⟨_, rfl⟩
 have hb : x < 16777216 := by
  rw [hx, BitVec.toNat_and]
  have : (BitVec.ofInt 64 16777215).toNat = 16777215 := by decide
  rw [this]
  have := @Nat.and_le_right (BitVec.ofInt 64 a).toNat 16777215
  omega
 refine ⟨x, ?_, hb⟩
 show Value.int .u64 (IntKind.u64.wrap ((BitVec.ofInt 64 a &&& BitVec.ofInt 64 16777215).toNat : Int)) = _
 rw [← hx, wrapUs (by omega) (by omega)]
theorem c3 (h : Heap) (b : Nat) (hd : Dice h b) : ACall Gam 3 [pt b 0, I 8] h fun r h' => ∃ x : Nat, r = I x ∧ x < 8 ∧ Mod b (b + 1) h h' := by
 obtain ⟨cb, co, n, z, s, h1, h6, h5, h7⟩ := hd
 have hl := at_lt h1
 have k0 : cell h b 0 = some (sl cb co n z) := by simp [cell, h1]
 have k1 : cell h b 1 = some (I 0) := by simp [cell, h1]
 have k2 : cell h b 2 = some (.int .u64 s) := by simp [cell, h1]
 refine ACall_intro g3 rfl ?_
 unfold fn3
 rw [awp_seq, awp_reg]
 generalize hK : seqQ Gam _ _ 0 = K
 simp (disch := omega)
 subst hK
 simp only [seqQ_zero]
 rw [awp_seq, awp_reg]
 generalize hK : seqQ Gam _ _ 0 = K
 obtain ⟨t, ht⟩ : ∃ t, t = IntKind.u64.wrap (IntKind.u64.wrap (s * 6364136223846793005) + 1442695040888963407) := ⟨_, rfl⟩
 have s1 := store_one (v := .int .u64 t) (o := 2) h1 (by simp)
 obtain ⟨h', eh⟩ : ∃ h', h' = h.set b ⟨[sl cb co n z, I 0, .int .u64 t], true⟩ := ⟨_, rfl⟩
 simp only [List.set_cons_succ, List.set_cons_zero, ← eh] at s1
 simp (disch := omega) [k2, ← ht, s1]
 subst hK
 simp only [seqQ_zero]
 have hb' : h'[b]? = some ⟨[sl cb co n z, I 0, .int .u64 t], true⟩ := by rw [eh]; simp [hl]
 have k0 : cell h' b 0 = some (sl cb co n z) := by simp [cell, hb']
 have k1 : cell h' b 1 = some (I 0) := by simp [cell, hb']
 have k2 : cell h' b 2 = some (.int .u64 t) := by simp [cell, hb']
 have ho : ∀ c, c ≠ b → h'[c]? = h[c]? := fun c hc => by rw [eh, set_other hc]
 have md : Mod b (b + 1) h h' := ⟨by rw [eh]; simp, fun c hc hn => ho c (by omega)⟩
 rw [awp_seq, awp_reg]
 generalize hK : seqQ Gam _ _ 0 = K
 obtain ⟨y, ey, hy⟩ := and_small (t.fdiv (2 ^ min 33 IntKind.u64.bits))
 simp (disch := omega) [k2, ey, wrap64]
 subst hK
 simp only [seqQ_zero]
 rw [awp_seq]
 generalize hK : seqQ Gam _ _ = K
 have fin : ∀ (σ : Nat → Value) (h2 : Heap) (w : Int), 0 ≤ w ∧ w < 20000000 → Mod b (b + 1) h h2 → σ 5 = I w → σ 1 = I 8 → K 0 σ h2 := by
  intro σ h2 w hw md2 q5 q1
  subst hK
  have e : w.tmod 8 = w % 8 := Int.tmod_eq_emod_of_nonneg (by omega)
  simp (disch := omega) [q5, q1, e]
  exact ⟨(w % 8).toNat, by omega, by omega, md2⟩
 simp (disch := omega) [k0, k1]
 refine fork_dec (fun h3 => ?_) (fun h3 => ?_)
 ·obtain ⟨x, kc1, hx⟩ := h7 0 (by omega)
  have kc2 : cell h' cb (co + 0) = some (.int .u8 x) := by unfold cell at kc1 ⊢; rw [ho cb (by omega)]; exact kc1
  simp only [Nat.add_zero] at kc2
  have s2 := store_one (v := I 1) (o := 1) hb' (by simp)
  have md2 : Mod b (b + 1) h (h'.set b ⟨[sl cb co n z, I 1, .int .u64 t], true⟩) := md.trans ⟨by simp, fun c hc hn => by rw [set_other (by omega)]⟩
  simp (disch := omega) [k0, k1, kc2, h3, s2, wrap64]
  exact fin _ _ ((y : Int) + x) (by omega) md2 (by simp) (by simp)
 ·simp (disch := omega)
  exact fin _ _ (y : Int) (by omega) md (by simp) (by simp)
theorem c480 (a : Int) (h : Heap) : ACall Gam 480 [I a] h fun v h' => v = B (inR a 0 7) ∧ h' = h := by
 refine ACall_intro g480 rfl ?_
 unfold fn480
 simp (disch := omega)
 refine callW_of (c432 a 0 7 h) ?_
 rintro _ h1 ⟨rfl, rfl⟩
 try refine ⟨fun e => (by cases e), ?_⟩
 simp (disch := omega)
noncomputable def mapAns (P : Pan) (s : Nat) : Pan × Int := if okP P then (mapP P s, 0) else ((0, 0, []), 1)
theorem c389 (h : Heap) (hp : 0 < h.length) (v : Value) (P : Pan) (hv : Vr h shPanel v P) (s : Nat) (hs : s < 8) :
  ACall Gam 389 [v, I s] h fun r h' => Grows h h' ∧ ∃ r0, r = .tuple #[r0, I (mapAns P s).2] ∧ Vo h' h.length h'.length shPanel r0 (mapAns P s).1 := by
 obtain ⟨W, H, br⟩ := P
 obtain ⟨sv, rfl, w1, w2, r⟩ := hv.panel
 refine ACall_intro g389 rfl ?_
 unfold fn389
 rw [awp_seq, awp_reg]
 generalize hK : seqQ Gam _ _ 0 = K
 simp (disch := omega)
 obtain ⟨h0, e0⟩ : ∃ h0, h0 = h ++ [⟨[I W, I H, sv], true⟩] := ⟨_, rfl⟩
 rw [← e0]
 have g0 : Grows h h0 := ⟨_, e0⟩
 have l0 := g0.le
 have kb : h0[h.length]? = some ⟨[I W, I H, sv], true⟩ := by rw [e0]; simp
 have pp : PtP h0 (pt h.length 0) (W, H, br) := PtP.at kb (r.grow g0) w1 w2
 subst hK
 simp only [seqQ_zero]
 have key : ACall Gam 473 [pt h.length 0, I s] h0 fun r h' => r = I (if okP (W, H, br) then 0 else 1) ∧ h' = h0 := by
  refine ACall_intro g473 rfl ?_
  unfold fn473
  simp (disch := omega)
  refine callW_of (c452 _ (W, H, br) h0 pp) ?_
  rintro _ h1 ⟨rfl, rfl⟩
  try refine ⟨fun e => (by cases e), ?_⟩
  cases e : okP (W, H, br)
  ·simp (disch := omega)
  ·simp (disch := omega)
   refine callW_of (c480 s h1) ?_
   rintro _ h1 ⟨rfl, rfl⟩
   try refine ⟨fun e => (by cases e), ?_⟩
   have : inR s 0 7 = true := by simp [inR]; omega
   simp (disch := omega) [this]
 rw [awp_seq, awp_reg]
 generalize hK : seqQ Gam _ _ 0 = K
 simp (disch := omega)
 refine callW_of key ?_
 rintro _ h1 ⟨rfl, rfl⟩
 try refine ⟨fun e => (by cases e), ?_⟩
 cases e : okP (W, H, br)
 ·have eA : mapAns (W, H, br) s = ((0, 0, []), 1) := by simp [mapAns, e]
  rw [eA] at hK
  simp (disch := omega)
  subst hK
  simp (disch := omega) [resOf, resAll, resOne, aField]
  exact ⟨g0, Vo.no_panel⟩
 ·have ok := okP_iff.1 e
  have eA : mapAns (W, H, br) s = (mapP (W, H, br) s, 0) := by simp [mapAns, e]
  rw [eA] at hK
  simp (disch := omega)
  subst hK
  simp (disch := omega)
  refine callW_of (c477 h1 (by omega) _ (W, H, br) s pp ok hs) ?_
  rintro v2 h2 ⟨g2, o2⟩
  try refine ⟨fun e => (by cases e), ?_⟩
  obtain ⟨Y, hY⟩ : ∃ Y, Y = mapP (W, H, br) s := ⟨_, rfl⟩
  rw [← hY] at o2 ⊢
  obtain ⟨W2, H2, br2⟩ := Y
  obtain ⟨s2, rfl, u1, u2, r2⟩ := o2.panel
  simp (disch := omega) [resOf, resAll, resOne, aField]
  exact ⟨g0.trans g2, o2.wide l0 (Nat.le_refl _)⟩
end Am

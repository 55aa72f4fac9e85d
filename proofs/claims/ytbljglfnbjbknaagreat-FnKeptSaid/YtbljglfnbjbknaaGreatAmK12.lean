/- Contracts: AmV12, AmV13. -/
import Derived.Test.YtbljglfnbjbknaaGreatAmK11
set_option linter.unusedVariables false
set_option linter.unusedSimpArgs false
set_option maxHeartbeats 4000000
set_option maxRecDepth 40000
namespace Am
open Go
/-- A drawn library and a drawn name. -/
def Asked2 (h h' : Heap) (r : Value) : Prop := ∃ (X : Lib) (s : List UInt8) (r0 : Value), r = .tuple #[r0, S s] ∧ Vr h' shKepts r0 X ∧ siz shKepts X ≤ 20000 ∧ s.length ≤ 10 ∧ Grows h h'
theorem c535 (h : Heap) (v : Value) (X : List Int) (hp : 0 < h.length) (hv : Vr h shBytes v X) : ACall Gam 535 [v] h fun r h' => Asked2 h h' r := by
 refine ACall_intro g535 rfl ?_
 unfold fn535
 rw [awp_seq, awp_reg]
 generalize hK : seqQ Gam _ _ 0 = K
 simp (disch := omega)
 subst hK
 simp only [seqQ_zero]
 rw [awp_seq, awp_reg]
 generalize hK : seqQ Gam _ _ 0 = K
 simp (disch := omega)
 refine callW_of (c431 h v X hv) ?_
 rintro _ h1 ⟨rfl, g1, l1, hs1⟩
 try refine ⟨fun e => (by first | exact g1 | cases e), ?_⟩
 try simp (disch := omega)
 subst hK
 simp only [seqQ_zero]
 rw [awp_seq, awp_reg]
 generalize hK : seqQ Gam _ _ 0 = K
 simp (disch := omega)
 refine callW_of (c536 h1 h.length 0 hs1 (by omega) (by omega) hp) ?_
 rintro v2 h2 ⟨L, ⟨hl, hsm⟩, md2, d2, hs2⟩
 try refine ⟨fun e => (by cases e), ?_⟩
 obtain ⟨lb, lz, rfl, _⟩ := d2.sl
 try simp (disch := omega)
 subst hK
 simp only [seqQ_zero]
 simp (disch := omega)
 have l2 := md2.1
 refine callW_of (c540 h2 h.length _ hs2 (by omega) (by omega)) ?_
 rintro _ h3 ⟨s, rfl, sl, md3, hs3⟩
 try refine ⟨fun e => (by cases e), ?_⟩
 have vr := (d2.mod md3 (by omega) (by omega)).vr (by omega)
 simp (disch := omega)
 exact ⟨_, s, _, rfl, vr, by have := smr_siz (n := 60) hl hsm; omega, sl, (md2.trans md3).grows g1 (Nat.le_refl _)⟩
theorem c371 (h : Heap) (v : Value) (X : List Int) (hp : 0 < h.length) (hv : Vr h shBytes v X) : ACall Gam 371 [v] h fun r h' => Asked2 h h' r := by
 refine ACall_intro g371 rfl ?_
 unfold fn371
 simp (disch := omega)
 refine callW_of (c535 h v X hp hv) ?_
 rintro _ h1 ⟨Y, s, r0, rfl, a, b, c, d⟩
 try refine ⟨fun e => (by first | exact d | cases e), ?_⟩
 obtain ⟨kb, ko, kz, rfl, _⟩ := a.kat
 simp (disch := omega)
 exact ⟨Y, s, _, rfl, a, b, c, d⟩
theorem c357 (h : Heap) (v : Value) (X : List Int) (hp : 0 < h.length) (hv : Vr h shBytes v X) : ACall Gam 357 [v] h fun r h' => ∃ (X : Lib) (n : Int) (r0 : Value), r = .tuple #[r0, I n] ∧ Vr h' shKepts r0 X ∧ siz shKepts X ≤ 20000 ∧ I64 n ∧ Grows h h' := by
 refine ACall_intro g357 rfl ?_
 unfold fn357
 rw [awp_seq, awp_reg]
 generalize hK : seqQ Gam _ _ 0 = K
 simp (disch := omega)
 subst hK
 simp only [seqQ_zero]
 rw [awp_seq, awp_reg]
 generalize hK : seqQ Gam _ _ 0 = K
 simp (disch := omega)
 refine callW_of (c431 h v X hv) ?_
 rintro _ h1 ⟨rfl, g1, l1, hs1⟩
 try refine ⟨fun e => (by first | exact g1 | cases e), ?_⟩
 try simp (disch := omega)
 subst hK
 simp only [seqQ_zero]
 rw [awp_seq, awp_reg]
 generalize hK : seqQ Gam _ _ 0 = K
 simp (disch := omega)
 refine callW_of (c536 h1 h.length 0 hs1 (by omega) (by omega) hp) ?_
 rintro v2 h2 ⟨L, ⟨hl, hsm⟩, md2, d2, hs2⟩
 try refine ⟨fun e => (by cases e), ?_⟩
 obtain ⟨lb, lz, rfl, _⟩ := d2.sl
 try simp (disch := omega)
 subst hK
 simp only [seqQ_zero]
 simp (disch := omega)
 have l2 := md2.1
 refine callW_of (c7 h2 h.length _ 5 hs2 (by omega) (by unfold I64; omega)) ?_
 rintro _ h3 ⟨x, rfl, _, hx, md3, l3, hs3⟩
 try refine ⟨fun e => (by cases e), ?_⟩
 have vr := (d2.mod md3 (by omega) (by omega)).vr (by omega)
 simp (disch := omega)
 exact ⟨_, x, _, ⟨rfl, rfl⟩, vr, by have := smr_siz (n := 60) hl hsm; omega, by have := hx (by omega); unfold I64; omega, (md2.trans md3).grows g1 (Nat.le_refl _)⟩
/-- A drawn library, a drawn name, a drawn panel. -/
def Asked4 (h h' : Heap) (r : Value) : Prop := ∃ (X : Lib) (s : List UInt8) (P : Pan) (r0 r2 : Value), r = .tuple #[r0, S s, r2] ∧ Vr h' shKepts r0 X ∧ Vr h' shPanel r2 P ∧ siz shKepts X ≤ 20000 ∧ s.length ≤ 10 ∧ P.2.2.length ≤ 200 ∧ Grows h h'
theorem c349 (h : Heap) (v : Value) (X : List Int) (hp : 0 < h.length) (hv : Vr h shBytes v X) : ACall Gam 349 [v] h fun r h' => Asked4 h h' r := by
 refine ACall_intro g349 rfl ?_
 unfold fn349
 rw [awp_seq, awp_reg]
 generalize hK : seqQ Gam _ _ 0 = K
 simp (disch := omega)
 subst hK
 simp only [seqQ_zero]
 rw [awp_seq, awp_reg]
 generalize hK : seqQ Gam _ _ 0 = K
 simp (disch := omega)
 refine callW_of (c431 h v X hv) ?_
 rintro _ h1 ⟨rfl, g1, l1, hs1⟩
 try refine ⟨fun e => (by first | exact g1 | cases e), ?_⟩
 try simp (disch := omega)
 subst hK
 simp only [seqQ_zero]
 rw [awp_seq, awp_reg]
 generalize hK : seqQ Gam _ _ 0 = K
 simp (disch := omega)
 refine callW_of (c536 h1 h.length 0 hs1 (by omega) (by omega) hp) ?_
 rintro v2 h2 ⟨L, ⟨hl, hsm⟩, md2, d2, hs2⟩
 try refine ⟨fun e => (by cases e), ?_⟩
 obtain ⟨lb, lz, rfl, _⟩ := d2.sl
 try simp (disch := omega)
 subst hK
 simp only [seqQ_zero]
 rw [awp_seq, awp_reg]
 generalize hK : seqQ Gam _ _ 0 = K
 simp (disch := omega)
 have l2 := md2.1
 refine callW_of (c540 h2 h.length _ hs2 (by omega) (by omega)) ?_
 rintro _ h3 ⟨s, rfl, sl, md3, hs3⟩
 try refine ⟨fun e => (by cases e), ?_⟩
 have d2 := d2.mod md3 (by omega) (by omega)
 have l3 := md3.1
 try simp (disch := omega)
 subst hK
 simp only [seqQ_zero]
 simp (disch := omega)
 refine callW_of (c443 h3 h.length _ hs3 (by omega)) ?_
 rintro v4 h4 ⟨P, pl, md4, o4, hs4⟩
 try refine ⟨fun e => (by cases e), ?_⟩
 have vr := (d2.mod md4 (by omega) (by omega)).vr (by omega)
 obtain ⟨W, H, br⟩ := P
 obtain ⟨s4, rfl, u1, u2, r4⟩ := o4.panel
 simp (disch := omega)
 exact ⟨_, s, _, _, _, rfl, vr, o4.vr, by have := smr_siz (n := 60) hl hsm; omega, sl, pl, ((md2.trans md3).trans md4).grows g1 (Nat.le_refl _)⟩
theorem c330 (h : Heap) (hp : 0 < h.length) (v : Value) (P : Pan) (hv : Vr h shPanel v P) (w : Value) (Q : Pan) (hw : Vr h shPanel w Q) (okP' : OkP P) (okQ' : OkP Q) :
  ACall Gam 330 [v, w] h fun r h' => Grows h h' ∧ r = B (samP (canonP P) (canonP Q)) := by
 obtain ⟨W, H, br⟩ := P
 obtain ⟨W2, H2, br2⟩ := Q
 obtain ⟨s, rfl, w1, w2, r⟩ := hv.panel
 obtain ⟨s2, rfl, u1, u2, r2⟩ := hw.panel
 have e1 := okP_iff.2 okP'
 have e2 := okP_iff.2 okQ'
 refine ACall_intro g330 rfl ?_
 unfold fn330
 rw [awp_seq, awp_reg]
 generalize hK : seqQ Gam _ _ 0 = K
 simp (disch := omega)
 obtain ⟨h0, e0⟩ : ∃ h0, h0 = h ++ [⟨[I W, I H, s], true⟩, ⟨[I W2, I H2, s2], true⟩] := ⟨_, rfl⟩
 try simp only [List.append_assoc, List.cons_append, List.nil_append]
 try rw [← e0]
 have g0 : Grows h h0 := ⟨_, e0⟩
 have kb : h0[h.length]? = some ⟨[I W, I H, s], true⟩ := by rw [e0]; simp
 have kb2 : h0[h.length + 1]? = some ⟨[I W2, I H2, s2], true⟩ := by rw [e0]; simp
 have pp : PtP h0 (pt h.length 0) (W, H, br) := PtP.at kb (r.grow g0) w1 w2
 have pp2 : PtP h0 (pt (h.length + 1) 0) (W2, H2, br2) := PtP.at kb2 (r2.grow g0) u1 u2
 have l0 := g0.le
 subst hK
 simp only [seqQ_zero]
 simp (disch := omega)
 refine callW_of (c452 _ (W, H, br) h0 pp) ?_
 rintro _ h1 ⟨rfl, rfl⟩
 try refine ⟨fun e => (by cases e), ?_⟩
 rw [e1]
 simp (disch := omega)
 refine callW_of (c452 _ (W2, H2, br2) h1 pp2) ?_
 rintro _ h1 ⟨rfl, rfl⟩
 try refine ⟨fun e => (by cases e), ?_⟩
 rw [e2]
 simp (disch := omega)
 refine callW_of (c476 h1 (by omega) _ (W, H, br) pp okP') ?_
 rintro v2 h2 ⟨g2, o2⟩
 try refine ⟨fun e => (by cases e), ?_⟩
 obtain ⟨Y, hY⟩ : ∃ Y, Y = canonP (W, H, br) := ⟨_, rfl⟩
 rw [← hY] at o2 ⊢
 obtain ⟨Wa, Ha, bra⟩ := Y
 obtain ⟨sa, rfl, ua1, ua2, ra⟩ := o2.panel
 have st2 := store_box (h := h2) (cs := [I 0, I 0, sl 0 0 0 0]) (xs := [I Wa, I Ha, sa]) rfl
 simp (disch := omega) [st2]
 obtain ⟨h3, e3⟩ : ∃ h3, h3 = h2 ++ [⟨[I Wa, I Ha, sa], true⟩] := ⟨_, rfl⟩
 rw [← e3]
 have g23 : Grows h2 h3 := ⟨_, e3⟩
 have kb3 : h3[h2.length]? = some ⟨[I Wa, I Ha, sa], true⟩ := by rw [e3]; simp
 have pa : PtP h3 (pt h2.length 0) (Wa, Ha, bra) := PtP.at kb3 (ra.vr.grow g23) ua1 ua2
 have g03 := g2.trans g23
 have l3 := g03.le
 refine callW_of (c476 h3 (by omega) _ (W2, H2, br2) (pp2.grow g03) okQ') ?_
 rintro v4 h4 ⟨g4, o4⟩
 try refine ⟨fun e => (by cases e), ?_⟩
 obtain ⟨Z, hZ⟩ : ∃ Z, Z = canonP (W2, H2, br2) := ⟨_, rfl⟩
 rw [← hZ] at o4 ⊢
 obtain ⟨Wb, Hb, brb⟩ := Z
 obtain ⟨sb, rfl, ub1, ub2, rb⟩ := o4.panel
 have st4 := store_box (h := h4) (cs := [I 0, I 0, sl 0 0 0 0]) (xs := [I Wb, I Hb, sb]) rfl
 simp (disch := omega) [st4]
 obtain ⟨h5, e5⟩ : ∃ h5, h5 = h4 ++ [⟨[I Wb, I Hb, sb], true⟩] := ⟨_, rfl⟩
 rw [← e5]
 have g45 : Grows h4 h5 := ⟨_, e5⟩
 have kb5 : h5[h4.length]? = some ⟨[I Wb, I Hb, sb], true⟩ := by rw [e5]; simp
 have pb : PtP h5 (pt h4.length 0) (Wb, Hb, brb) := PtP.at kb5 (rb.vr.grow g45) ub1 ub2
 refine callW_of (c456 h5 _ _ (Wa, Ha, bra) (Wb, Hb, brb) (pa.grow (g4.trans g45)) pb) ?_
 rintro _ h6 ⟨rfl, rfl⟩
 try refine ⟨fun e => (by cases e), ?_⟩
 simp (disch := omega)
 exact ((g0.trans g03).trans g4).trans g45
def Asked5 (h h' : Heap) (r : Value) : Prop := ∃ (X : Lib) (P : Pan) (r0 r2 : Value), r = .tuple #[r0, r2] ∧ Vr h' shKepts r0 X ∧ Vr h' shPanel r2 P ∧ siz shKepts X ≤ 20000 ∧ P.2.2.length ≤ 200 ∧ Grows h h'
theorem c360 (h : Heap) (v : Value) (X : List Int) (hp : 0 < h.length) (hv : Vr h shBytes v X) : ACall Gam 360 [v] h fun r h' => Asked5 h h' r := by
 refine ACall_intro g360 rfl ?_
 unfold fn360
 rw [awp_seq, awp_reg]
 generalize hK : seqQ Gam _ _ 0 = K
 simp (disch := omega)
 subst hK
 simp only [seqQ_zero]
 rw [awp_seq, awp_reg]
 generalize hK : seqQ Gam _ _ 0 = K
 simp (disch := omega)
 refine callW_of (c431 h v X hv) ?_
 rintro _ h1 ⟨rfl, g1, l1, hs1⟩
 try refine ⟨fun e => (by first | exact g1 | cases e), ?_⟩
 try simp (disch := omega)
 subst hK
 simp only [seqQ_zero]
 rw [awp_seq, awp_reg]
 generalize hK : seqQ Gam _ _ 0 = K
 simp (disch := omega)
 refine callW_of (c536 h1 h.length 0 hs1 (by omega) (by omega) hp) ?_
 rintro v2 h2 ⟨L, ⟨hl, hsm⟩, md2, d2, hs2⟩
 try refine ⟨fun e => (by cases e), ?_⟩
 obtain ⟨lb, lz, rfl, _⟩ := d2.sl
 try simp (disch := omega)
 subst hK
 simp only [seqQ_zero]
 rw [awp_seq]
 generalize hK : seqQ Gam _ _ = K
 have l2 := md2.1
 have sz := smr_siz (n := 60) hl hsm
 have tail : ∀ (σ : Nat → Value) (h' : Heap) (m : Nat), m ≤ 100000 → Mod h.length (h.length + 1) h2 h' → Src h' h.length m → σ 5 = sl lb 0 L.length lz → σ 4 = pt h.length 0 → σ 3 = .agg #[I 0, I 0, sl 0 0 0 0] → K 0 σ h' := by
  intro σ h' m hm md hs q5 q4 q3
  subst hK
  simp only [seqQ_zero]
  simp (disch := omega) [q5, q4, q3]
  have d3 := d2.mod md (by omega) (by omega)
  have l3 := md.1
  refine callW_of (c443 h' h.length _ hs (by omega)) ?_
  rintro v4 h4 ⟨P, pl, md4, o4, hs4⟩
  try refine ⟨fun e => (by cases e), ?_⟩
  have vr := (d3.mod md4 (by omega) (by omega)).vr (by omega)
  obtain ⟨W, H, br⟩ := P
  obtain ⟨s4, rfl, u1, u2, r4⟩ := o4.panel
  simp (disch := omega) [q3]
  exact ⟨_, _, _, _, rfl, vr, o4.vr, by omega, pl, ((md2.trans md).trans md4).grows g1 (Nat.le_refl _)⟩
 rw [awp_seq]
 generalize hC : seqQ Gam _ _ = C
 by_cases h0 : L.length = 0
 ·simp (disch := omega) [h0]
  subst hC
  simp (disch := omega)
  exact tail _ h2 _ (by omega) ⟨Nat.le_refl _, fun _ _ _ => rfl⟩ hs2 (by simp [h0]) (by simp) (by simp)
 have hpos : 0 < L.length := by omega
 simp (disch := omega) [hpos]
 refine callW_of (c6 h2 h.length _ 2 hs2 (by omega) (by unfold I64; omega)) ?_
 rintro _ h3 ⟨w, rfl, md3, l3, hs3⟩
 try refine ⟨fun e => (by cases e), ?_⟩
 cases w
 ·try simp (disch := omega)
  subst hC
  try simp (disch := omega)
  exact tail _ h3 _ (by omega) md3 hs3 (by simp) (by simp) (by simp)
 try simp (disch := omega)
 subst hC
 simp only [seqQ_zero]
 try simp (disch := omega)
 refine callW_of (c7 h3 h.length _ L.length hs3 (by omega) (by unfold I64; omega)) ?_
 rintro _ h4 ⟨at_, rfl, e1, e2, md4, l4, hs4⟩
 try refine ⟨fun e => (by cases e), ?_⟩
 have hat : at_ < L.length := by
  by_cases q : L.length = 1
  ·have := e1 (by omega); omega
  ·have := e2 (by omega); omega
 have md24 := md3.trans md4
 have d4 := d2.mod md24 (by omega) (by omega)
 have vk := d4.vr (by omega)
 obtain ⟨kb, ko, kz, ek, hX⟩ := vk.kat
 rw [List.length_map] at ek
 simp only [Value.slice.injEq, Option.some.injEq, Addr.mk.injEq, and_true, true_and] at ek
 obtain ⟨⟨rfl, rfl⟩, rfl⟩ := ek
 obtain ⟨s, c, c1, vp, pp, vi, w1, w2⟩ := hX.cells (i := at_) (by simpa using hat)
 have hz : lz = 4 := by
  rcases d4.out with ⟨q, _⟩ | ⟨b, e, _⟩
  ·subst q; simp at hat
  ·simp at e; exact e.2
 subst hz
 have hlb : h.length < lb := by
  rcases d4.out with ⟨q, _⟩ | ⟨b, e, e', _⟩
  ·subst q; simp at hat
  ·simp at e; omega
 have c3 := cellsAt_in (i := 1) (m := 3) c (by omega)
 have n0 : at_ < L.length := by omega
 obtain ⟨P, hP⟩ : ∃ P, P = (L.map fun x => x.1)[at_]'(by simpa using hat) := ⟨_, rfl⟩
 rw [← hP] at c3 vp w1 w2
 have pl : P.2.2.2.length ≤ 200 := by
  have := (hsm L[at_] (List.getElem_mem hat)).2
  rw [hP, List.getElem_map]; exact this
 obtain ⟨nm, W, H, br⟩ := P
 simp only [List.drop_succ_cons, List.drop_zero, List.take_succ_cons, List.take_zero, Nat.zero_add] at c3
 simp (disch := omega) [n0, c3]
 refine awpOps_side (x := .global 28) rfl rfl rfl (by simp; exact c7 h4 h.length _ 8 hs4 (by omega) (by unfold I64; omega)) ?_
 rintro _ h5 ⟨sy, rfl, _, sy8, md5, l5, hs5⟩
 have sy8 := sy8 (by omega)
 refine ⟨?_, ?_⟩
 ·simp
  have hlt : lb < h4.length := by
   rcases d4.out with ⟨q, _⟩ | ⟨b, e, e', e''⟩
   ·subst q; simp at hat
   ·simp at e; have := at_lt e''; omega
  exact sameAt_iff.2 (md5.2 _ (by simp only; exact hlt) (by simp only; omega))
 have d5 := d4.mod md5 (by omega) (by omega)
 have vk5 := d5.vr (by omega)
 have md25 := md24.trans md5
 have hP5 : Vr h5 shPanel (.agg #[I W, I H, s]) (W, H, br) := by
  obtain ⟨kb, ko, kz, ek, hX⟩ := vk5.kat
  rw [List.length_map] at ek
  simp only [Value.slice.injEq, Option.some.injEq, Addr.mk.injEq, and_true, true_and] at ek
  obtain ⟨⟨rfl, rfl⟩, rfl⟩ := ek
  obtain ⟨s', c', _, vp', _⟩ := hX.cells (i := at_) (by simpa using hat)
  have c3' := cellsAt_in (i := 1) (m := 3) c' (by omega)
  rw [← hP] at c3' vp'
  simp only [List.drop_succ_cons, List.drop_zero, List.take_succ_cons, List.take_zero, Nat.zero_add] at c3'
  have hlt : lb < h4.length := by
   rcases d4.out with ⟨q, _⟩ | ⟨b, e, e', e''⟩
   ·subst q; simp at hat
   ·simp at e; have := at_lt e''; omega
  have : cellsAt h5 lb (at_ * 4 + 1) 3 = cellsAt h4 lb (at_ * 4 + 1) 3 := by unfold cellsAt; rw [md5.2 lb hlt (by omega)]
  rw [this, c3] at c3'
  simp at c3'
  subst c3'
  exact vp'
 simp (disch := omega) [isOwn]
 refine callW_of (c389 h5 (by omega) _ (W, H, br) hP5 sy (by omega)) ?_
 rintro _ h6 ⟨g6, r0, rfl, o6⟩
 refine ⟨fun e => (by first | exact g6 | cases e), ?_⟩
 have md26 := md25.trans (g6.mod (lo := h.length) (hi := h.length + 1))
 obtain ⟨A, hA⟩ : ∃ A, A = mapAns (W, H, br) sy := ⟨_, rfl⟩
 rw [← hA] at o6 ⊢
 have hA2 : A.2 = 1 ∨ A.2 = 0 ∧ A.1.2.2.length ≤ 200 := by
  rw [hA]
  unfold mapAns
  split
  ·rename_i e
   right
   refine ⟨rfl, ?_⟩
   have := mapP_ok (okP_iff.1 e) sy
   have := this.siz
   show (mapP (W, H, br) sy).2.2.length ≤ 200
   omega
  ·exact .inl rfl
 obtain ⟨⟨W2, H2, br2⟩, ac⟩ := A
 obtain ⟨s2, rfl, u1, u2, r2⟩ := o6.panel
 simp only at hA2
 rcases hA2 with e | ⟨e, hl2⟩
 ·subst e
  simp (disch := omega)
  exact tail _ h6 _ (by omega) md26 (hs5.grow g6) (by simp) (by simp) (by simp)
 ·subst e
  simp (disch := omega)
  subst hK
  simp (disch := omega) [resOf, resAll, resOne, aField]
  exact ⟨_, _, _, _, rfl, (d5.grow g6).vr (by omega), o6.vr, by omega, hl2, (md2.trans md26).grows g1 (Nat.le_refl _)⟩
end Am

/- Contracts: AmT4, AmT5, AmP4, AmP7, AmP8, AmP2, AmP5, AmP6, AmP9, AmP10. -/
import Derived.Test.YtbljglfnbjbknaaGreatAmK1
set_option linter.unusedVariables false
set_option linter.unusedSimpArgs false
set_option maxHeartbeats 4000000
set_option maxRecDepth 40000
namespace Am
open Go
abbrev Pan3 := Int × Int × List Int
theorem Rd.one {h : Heap} {a : Shp} {cs : List Value} {X : List a.T} (r : Rd h (.slice a) cs X) : ∃ s, cs = [s] := by
 have := r.len
 match cs, this with
 | [s], _ => exact ⟨s, rfl⟩
abbrev Kpt := List UInt8 × Pan3
theorem Vr.kept {h : Heap} {v : Value} {n : List UInt8} {W H : Int} {br : List Int} (x : Vr h shKept v (n, W, H, br)) : ∃ s, v = .agg #[S n, I W, I H, s] ∧ n.length ≤ 9223372036854775807 ∧ I64 W ∧ I64 H ∧ Vr h shInts s br := by
 obtain ⟨cs, ⟨c1, c2, rfl, ⟨rfl, w0⟩, c3, c4, rfl, ⟨rfl, w1⟩, c5, c6, rfl, ⟨rfl, w2⟩, r⟩, rfl⟩ := x
 obtain ⟨s, rfl⟩ := Rd.one r
 exact ⟨s, rfl, by rw [← maxLen_eq]; exact w0, wf_i64.1 w1, wf_i64.1 w2, _, r, rfl⟩
/-- A library's entries, one by one. -/
theorem kepts_at {h : Heap} {v : Value} {X : List Kpt} (x : Vr h shKepts v X) : ∃ b o z, v = sl b o X.length z ∧ X.length ≤ maxLen ∧ ∀ i (hi : i < X.length), ∃ s, cellsAt h b (o + i * 4) 4 = some [S X[i].1, I X[i].2.1, I X[i].2.2.1, s] ∧ Vr h shInts s X[i].2.2.2 ∧ Vr h shKept (.agg #[S X[i].1, I X[i].2.1, I X[i].2.2.1, s]) X[i] := by
 obtain ⟨b, o, z, rfl, _, hm, hel⟩ := x.slice
 refine ⟨b, o, z, rfl, hm, fun i hi => ?_⟩
 obtain ⟨c, hc, r⟩ := hel i hi
 have hv : Vr h shKept (asVal shKept c) X[i] := ⟨c, r, rfl⟩
 obtain ⟨c1, c2, rfl, ⟨rfl, w0⟩, c3, c4, rfl, ⟨rfl, w1⟩, c5, c6, rfl, ⟨rfl, w2⟩, r⟩ := r
 obtain ⟨s, rfl⟩ := Rd.one r
 exact ⟨s, hc, ⟨_, r, rfl⟩, hv⟩
theorem siz_kept (n : List UInt8) (W H : Int) (br : List Int) : siz shKept (n, W, H, br) = n.length + br.length := by
 show n.length + siz shPanel (W, H, br) = _
 rw [siz_panel]
def sizL (X : List Kpt) : Nat := (X.map fun y => siz shKept y).sum
theorem siz_kepts (X : List Kpt) : siz shKepts X = X.length + sizL X := rfl
theorem sizL_append (a b : List Kpt) : sizL (a ++ b) = sizL a + sizL b := by simp [sizL]
theorem sizL_take {X : List Kpt} {k : Nat} (hk : k < X.length) : sizL (X.take (k + 1)) = sizL (X.take k) + siz shKept X[k] := by
 rw [List.take_succ_eq_append_getElem hk, sizL_append]; simp [sizL]
theorem sizL_le (X : List Kpt) (k : Nat) : sizL (X.take k) ≤ sizL X := by
 have : sizL X = sizL (X.take k) + sizL (X.drop k) := by
  rw [← sizL_append, List.take_append_drop]
 omega
theorem take_ne {α : Type} {X Y : List α} {k : Nat} (h1 : k < X.length) (h2 : k < Y.length) (hne : ¬ X[k] = Y[k]) : ¬ X = Y := fun e => by subst e; exact hne rfl
theorem c436 (h : Heap) (v w : Value) (X Y : List Int) (hv : Vr h shInts v X) (hw : Vr h shInts w Y) : ACall Gam 436 [v, w] h fun r h' => r = B (decide (X = Y)) ∧ h' = h := by
 obtain ⟨b1, o1, z1, rfl, _, hm1, _, hc1⟩ := hv.ints
 obtain ⟨b2, o2, z2, rfl, _, hm2, _, hc2⟩ := hw.ints
 rw [maxLen_eq] at hm1 hm2
 refine ACall_intro g436 rfl ?_
 unfold fn436
 simp (disch := omega)
 refine fork_dec (fun heq => ?_) (fun hne => ?_)
 ·simp (disch := omega)
  refine awp_loop (fun k σ h' => h' = h ∧ k ≤ X.length ∧ X.take k = Y.take k ∧ σ 0 = sl b1 o1 X.length z1 ∧ σ 1 = sl b2 o2 Y.length z2 ∧ σ 5 = I k) (fun k => X.length - k) 0 ?_ ?_
  ·simp
  ·rintro k σ h' ⟨rfl, hk, ht, h0, h1, h5⟩
   simp (disch := omega) [h0, h1, h5]
   refine fork_dec (fun hlt => ?_) (fun hge => ?_)
   ·have k1 : k < X.length := by omega
    have k2 : k < Y.length := by omega
    simp (disch := omega) [h0, h1, h5, ints_cell hc1 k1, ints_cell hc2 k2, k1, k2]
    refine fork_dec (fun he => ?_) (fun he => ?_)
    ·simp (disch := omega) [h0, h1, h5]
     refine ⟨k + 1, ⟨by omega, ?_, ?_⟩, by omega⟩
     ·rw [List.take_succ_eq_append_getElem k1, List.take_succ_eq_append_getElem k2, ht, he]
     ·rw [wrap64 (by omega) (by omega)]; simp
    ·simp (disch := omega) [h0, h1, h5]
     exact take_ne k1 k2 he
   ·simp (disch := omega) [h0, h1, h5]
    have q1 : k = X.length := by omega
    have q2 : X.length = Y.length := by omega
    subst q1
    rw [List.take_length, q2, List.take_length] at ht
    exact ht
 ·simp (disch := omega)
  intro e; apply hne; rw [e]
theorem c314 (h : Heap) (v w : Value) (X Y : List Int) (hv : Vr h shInts v X) (hw : Vr h shInts w Y) : ACall Gam 314 [v, w] h fun r h' => r = B (decide (X = Y)) ∧ h' = h := by
 obtain ⟨b1, o1, z1, rfl, _, hm1, _, hc1⟩ := hv.ints
 obtain ⟨b2, o2, z2, rfl, _, hm2, _, hc2⟩ := hw.ints
 rw [maxLen_eq] at hm1 hm2
 refine ACall_intro g314 rfl ?_
 unfold fn314
 simp (disch := omega)
 refine fork_dec (fun heq => ?_) (fun hne => ?_)
 ·simp (disch := omega)
  refine awp_loop (fun k σ h' => h' = h ∧ k ≤ X.length ∧ X.take k = Y.take k ∧ σ 0 = sl b1 o1 X.length z1 ∧ σ 1 = sl b2 o2 Y.length z2 ∧ σ 12 = I X.length ∧ σ 13 = I k) (fun k => X.length - k) 0 ?_ ?_
  ·simp
  ·rintro k σ h' ⟨rfl, hk, ht, h0, h1, h12, h13⟩
   simp (disch := omega) [h0, h1, h12, h13]
   refine fork_dec (fun hlt => ?_) (fun hge => ?_)
   ·have k1 : k < X.length := by omega
    have k2 : k < Y.length := by omega
    simp (disch := omega) [h0, h1, h12, h13, ints_cell hc1 k1, ints_cell hc2 k2, k1, k2]
    refine fork_dec (fun he => ?_) (fun he => ?_)
    ·simp (disch := omega) [h0, h1, h12, h13]
     refine ⟨k + 1, ⟨by omega, ?_, ?_⟩, by omega⟩
     ·rw [List.take_succ_eq_append_getElem k1, List.take_succ_eq_append_getElem k2, ht, he]
     ·rw [wrap64 (by omega) (by omega)]; simp
    ·simp (disch := omega) [h0, h1, h12, h13]
     exact take_ne k1 k2 he
   ·simp (disch := omega) [h0, h1, h12, h13]
    have q1 : k = X.length := by omega
    have q2 : X.length = Y.length := by omega
    subst q1
    rw [List.take_length, q2, List.take_length] at ht
    exact ht
 ·simp (disch := omega)
  intro e; apply hne; rw [e]
def samP (X Y : Pan) : Bool := decide (X = Y)
theorem samP_mk (W H W2 H2 : Int) (br br2 : List Int) : samP (W, H, br) (W2, H2, br2) = (decide (W = W2) && (decide (H = H2) && decide (br = br2))) := by
 simp only [samP, Prod.mk.injEq, Bool.decide_and]
theorem c456 (h : Heap) (v w : Value) (X Y : Pan) (hv : PtP h v X) (hw : PtP h w Y) : ACall Gam 456 [v, w] h fun r h' => r = B (samP X Y) ∧ h' = h := by
 obtain ⟨W, H, br⟩ := X
 obtain ⟨W2, H2, br2⟩ := Y
 obtain ⟨b, o, s, rfl, x1, x2, x3, hs, _⟩ := hv
 obtain ⟨b', o', s', rfl, y1, y2, y3, hs', _⟩ := hw
 rw [samP_mk]
 refine ACall_intro g456 rfl ?_
 unfold fn456
 simp (disch := omega) [x1, x2, x3, y1, y2, y3]
 refine fork_dec (fun e1 => ?_) (fun e1 => ?_)
 ·simp (disch := omega) [x1, x2, x3, y1, y2, y3, e1]
  refine fork_dec (fun e2 => ?_) (fun e2 => ?_)
  ·simp (disch := omega) [x1, x2, x3, y1, y2, y3, e1, e2]
   refine callW_of (c436 h _ _ br br2 hs hs') ?_
   rintro _ h' ⟨rfl, rfl⟩
   simp [e1, e2]
  ·simp (disch := omega) [x1, x2, x3, y1, y2, y3, e1, e2]
 ·simp (disch := omega) [x1, x2, x3, y1, y2, y3, e1]
theorem c130 (h : Heap) (v w : Value) (X Y : Pan) (hv : Vr h shPanel v X) (hw : Vr h shPanel w Y) : ACall Gam 130 [v, w] h fun r h' => r = B (samP X Y) ∧ h' = h := by
 obtain ⟨W, H, br⟩ := X
 obtain ⟨W2, H2, br2⟩ := Y
 obtain ⟨s, rfl, _, _, hs⟩ := hv.panel
 obtain ⟨s', rfl, _, _, hs'⟩ := hw.panel
 rw [samP_mk]
 refine ACall_intro g130 rfl ?_
 unfold fn130
 simp (disch := omega)
 refine fork_dec (fun e1 => ?_) (fun e1 => ?_)
 ·simp (disch := omega) [e1]
  refine fork_dec (fun e2 => ?_) (fun e2 => ?_)
  ·simp (disch := omega) [e1, e2]
   refine callW_of (c314 h _ _ br br2 hs hs') ?_
   rintro _ h' ⟨rfl, rfl⟩
   simp [e1, e2]
  ·simp (disch := omega) [e1, e2]
 ·simp (disch := omega) [e1]
def samK (X Y : List Kpt) : Bool := decide (X = Y)
theorem kpt_eq (x y : Kpt) : x = y ↔ x.1 = y.1 ∧ samP x.2 y.2 = true := by
 obtain ⟨a, b⟩ := x
 obtain ⟨c, d⟩ := y
 simp [samP]
theorem c419 (h : Heap) (hp : 0 < h.length) (v0 : Value) (X0 : List Kpt) (hv0 : Vr h shKepts v0 X0) (hs0 : siz shKepts X0 ≤ 1048576) (v1 : Value) (X1 : List Kpt) (hv1 : Vr h shKepts v1 X1) (hs1 : siz shKepts X1 ≤ 1048576) :
  ACall Gam 419 [v0, v1] h fun r h' => Grows h h' ∧ r = B (samK X0 X1) := by
 obtain ⟨b1, o1, z1, rfl, hm1, hc1⟩ := kepts_at hv0
 obtain ⟨b2, o2, z2, rfl, hm2, hc2⟩ := kepts_at hv1
 rw [maxLen_eq] at hm1 hm2
 have cel : ∀ {b o : Nat} {x y z w : Value}, cellsAt h b o 4 = some [x, y, z, w] → cell h b o = some x ∧ cell h b (o + 1) = some y ∧ cell h b (o + 1 + 1) = some z ∧ cell h b (o + 1 + 2) = some w := by
  intro b o x y z w hh
  exact ⟨by have := (cell_in (i := 0) hh (by omega)).1; simpa using this, by have := (cell_in (i := 1) hh (by omega)).1; simpa using this, by have := (cell_in (i := 2) hh (by omega)).1; simpa [Nat.add_assoc] using this, by have := (cell_in (i := 3) hh (by omega)).1; simpa [Nat.add_assoc] using this⟩
 refine ACall_intro g419 rfl ?_
 unfold fn419
 simp (disch := omega)
 refine fork_dec (fun heq => ?_) (fun hne => ?_)
 ·simp (disch := omega)
  refine awp_loop (fun k σ h' => h' = h ∧ k ≤ X0.length ∧ X0.take k = X1.take k ∧ σ 0 = sl b1 o1 X0.length z1 ∧ σ 1 = sl b2 o2 X1.length z2 ∧ σ 5 = I k) (fun k => X0.length - k) 0 ?_ ?_
  ·simp
  ·rintro k σ h' ⟨rfl, hk, ht, h0, h1, h5⟩
   simp (disch := omega) [h0, h1, h5]
   refine fork_dec (fun hlt => ?_) (fun hge => ?_)
   ·have k1 : k < X0.length := by omega
    have k2 : k < X1.length := by omega
    obtain ⟨s, c1, r1, vk1⟩ := hc1 k k1
    obtain ⟨s', c2, r2, vk2⟩ := hc2 k k2
    obtain ⟨a1, a2, a3, a4⟩ := cel c1
    obtain ⟨d1, d2, d3, d4⟩ := cel c2
    obtain ⟨_, _, _, w1, x1, _⟩ := vk1.kept
    obtain ⟨_, _, _, w2, x2, _⟩ := vk2.kept
    simp (disch := omega) [h0, h1, h5, a1, d1, k1, k2]
    refine fork_dec (fun he => ?_) (fun he => ?_)
    ·simp (disch := omega) [h0, h1, h5, k1, k2, he]
     refine callW_of (c456 h' _ _ X0[k].2 X1[k].2 ⟨b1, o1 + k * 4 + 1, s, rfl, a2, a3, a4, r1, w1, x1⟩ ⟨b2, o2 + k * 4 + 1, s', rfl, d2, d3, d4, r2, w2, x2⟩) ?_
     rintro _ h' ⟨rfl, rfl⟩
     cases q : samP X0[k].2 X1[k].2
     ·simp (disch := omega) [h0, h1, h5, he]
      refine ⟨Grows.refl _, ?_⟩
      have := take_ne (X := X0) (Y := X1) k1 k2 (fun e => by rw [kpt_eq, q] at e; simp at e)
      simp [samK, this]
     ·simp (disch := omega) [h0, h1, h5, he]
      refine ⟨k + 1, ⟨by omega, ?_, ?_⟩, by omega⟩
      ·rw [List.take_succ_eq_append_getElem k1, List.take_succ_eq_append_getElem k2, ht, (kpt_eq _ _).2 ⟨he, q⟩]
      ·rw [wrap64 (by omega) (by omega)]; simp
    ·simp (disch := omega) [h0, h1, h5, he]
     refine ⟨Grows.refl _, ?_⟩
     have := take_ne (X := X0) (Y := X1) k1 k2 (fun e => he ((kpt_eq _ _).1 e).1)
     simp [samK, this]
   ·simp (disch := omega) [h0, h1, h5]
    have q1 : k = X0.length := by omega
    have q2 : X0.length = X1.length := by omega
    subst q1
    rw [List.take_length, q2, List.take_length] at ht
    exact ⟨Grows.refl _, by simp [samK, ht]⟩
 ·simp (disch := omega)
  refine ⟨Grows.refl _, ?_⟩
  have : ¬ X0 = X1 := by intro e; apply hne; rw [e]
  simp [samK, this]
theorem c129 (h : Heap) (v w : Value) (X Y : Kpt) (hv : Vr h shKept v X) (hw : Vr h shKept w Y) : ACall Gam 129 [v, w] h fun r h' => r = B (decide (X.1 = Y.1) && samP X.2 Y.2) ∧ h' = h := by
 obtain ⟨n, W, H, br⟩ := X
 obtain ⟨n2, W2, H2, br2⟩ := Y
 obtain ⟨s, rfl, w0, w1, w2, r⟩ := hv.kept
 obtain ⟨s', rfl, w0', w1', w2', r'⟩ := hw.kept
 refine ACall_intro g129 rfl ?_
 unfold fn129
 simp (disch := omega)
 refine fork_dec (fun e1 => ?_) (fun e1 => ?_)
 ·simp (disch := omega) [e1]
  refine callW_of (c130 h _ _ (W, H, br) (W2, H2, br2) (Vr.of_panel w1 w2 r) (Vr.of_panel w1' w2' r')) ?_
  rintro _ h' ⟨rfl, rfl⟩
  simp [e1]
 ·simp (disch := omega) [e1]
theorem c312 (h : Heap) (v0 : Value) (X0 : List Kpt) (hv0 : Vr h shKepts v0 X0) (v1 : Value) (X1 : List Kpt) (hv1 : Vr h shKepts v1 X1) :
  ACall Gam 312 [v0, v1, .func (.func 129) #[] #[]] h fun r h' => h' = h ∧ r = B (samK X0 X1) := by
 obtain ⟨b1, o1, z1, rfl, hm1, hc1⟩ := kepts_at hv0
 obtain ⟨b2, o2, z2, rfl, hm2, hc2⟩ := kepts_at hv1
 rw [maxLen_eq] at hm1 hm2
 refine ACall_intro g312 rfl ?_
 unfold fn312
 simp (disch := omega)
 refine fork_dec (fun heq => ?_) (fun hne => ?_)
 ·simp (disch := omega)
  refine awp_loop (fun k σ h' => h' = h ∧ k ≤ X0.length ∧ X0.take k = X1.take k ∧ σ 1 = sl b2 o2 X1.length z2 ∧ σ 2 = .func (.func 129) #[] #[] ∧ σ 15 = sl b1 o1 X0.length z1 ∧ σ 16 = I X0.length ∧ σ 17 = I k) (fun k => X0.length - k) 0 ?_ ?_
  ·simp
  ·rintro k σ h' ⟨rfl, hk, ht, h1, h2, h15, h16, h17⟩
   simp (disch := omega) [h16, h17]
   refine fork_dec (fun hlt => ?_) (fun hge => ?_)
   ·have k1 : k < X0.length := by omega
    have k2 : k < X1.length := by omega
    obtain ⟨s, c1, r1, vk1⟩ := hc1 k k1
    obtain ⟨s', c2, r2, vk2⟩ := hc2 k k2
    simp (disch := omega) [h1, h2, h15, h16, h17, c1, c2, k1, k2]
    refine callW_of (c129 h' _ _ X0[k] X1[k] vk1 vk2) ?_
    rintro _ h' ⟨rfl, rfl⟩
    cases q : (decide (X0[k].1 = X1[k].1) && samP X0[k].2 X1[k].2)
    ·simp (disch := omega) [h1, h2, h15, h16, h17]
     have := take_ne (X := X0) (Y := X1) k1 k2 (fun e => by
      have e2 := (kpt_eq _ _).1 e
      rw [e2.2, decide_eq_true e2.1] at q; cases q)
     simp [samK, this]
    ·simp only [Bool.and_eq_true, decide_eq_true_eq] at q
     simp (disch := omega) [h1, h2, h15, h16, h17]
     refine ⟨k + 1, ⟨by omega, ?_, ?_⟩, by omega⟩
     ·rw [List.take_succ_eq_append_getElem k1, List.take_succ_eq_append_getElem k2, ht, (kpt_eq _ _).2 q]
     ·rw [wrap64 (by omega) (by omega)]; simp
   ·simp (disch := omega) [h1, h2, h15, h16, h17]
    have q1 : k = X0.length := by omega
    have q2 : X0.length = X1.length := by omega
    subst q1
    rw [List.take_length, q2, List.take_length] at ht
    simp [samK, ht]
 ·simp (disch := omega)
  have : ¬ X0 = X1 := by intro e; apply hne; rw [e]
  simp [samK, this]
theorem c128 (h : Heap) (hp : 0 < h.length) (v0 : Value) (X0 : List Kpt) (hv0 : Vr h shKepts v0 X0) (hs0 : siz shKepts X0 ≤ 1048576) (v1 : Value) (X1 : List Kpt) (hv1 : Vr h shKepts v1 X1) (hs1 : siz shKepts X1 ≤ 1048576) :
  ACall Gam 128 [v0, v1] h fun r h' => Grows h h' ∧ r = B (samK X0 X1) := by
 refine ACall_intro g128 rfl ?_
 unfold fn128
 simp (disch := omega)
 refine callW_of (c312 h _ _ hv0 _ _ hv1) ?_
 rintro _ h' ⟨rfl, rfl⟩
 simp (disch := omega)
 exact Grows.refl _
def byteI (x : Int) : UInt8 := UInt8.ofNat x.toNat
theorem byteI_toNat {x : Int} (h : 0 ≤ x ∧ x < 256) : ((byteI x).toNat : Int) = x := by
 simp [byteI]; omega
theorem append_bytes {h h' : Heap} {v : Value} {l xs : List UInt8} {n : Nat} {bs : Option (Value × Heap)} {K : Value → Heap → Prop} (hp : 0 < h.length) (hl : l.length + xs.length ≤ 1048576) (hg : Grows h h') (hv : Buf h h' v 1 (bytesV l)) (hne : xs ≠ []) (hn : n = xs.length)
  (e : bs = some (sl h'.length 0 n 1, h' ++ [⟨bytesV xs, true⟩]))
  (hK : ∀ v' h'', Grows h h'' → Buf h h'' v' 1 (bytesV (l ++ xs)) → K v' h'') : bindW bs fun y h'' => bindW (aAppend 1 h'' y v) K := by
 subst hn
 rw [e]
 simp only [bindW_some]
 have hne' : xs.length ≠ 0 := by simpa using hne
 refine append_buf hp (hg.push _) (hv.grow ⟨_, rfl⟩) (new := bytesV xs) ?_ (by omega) (by simpa [bytesV] using hne) (by simp [bytesV]) (by simp [bytesV, maxSize]; omega) ?_
 ·simp [newCells, hne]
  rw [cellsAt_of (k := ⟨bytesV xs, true⟩) (by simp) (by simp [bytesV])]
  simp [bytesV, List.take_of_length_le]
 ·intro v' h'' g1 b1 _
  exact hK v' h'' g1 (by simpa [bytesV] using b1)
theorem checksum_bd (l : List UInt8) : 0 ≤ checksum l ∧ checksum l < 64256 := by
 have := sums_bd l
 unfold checksum; omega
def ended (l : List UInt8) : List UInt8 := l ++ [byteI (checksum l / 256), byteI (checksum l % 256)]
theorem ended_len (l : List UInt8) : (ended l).length = l.length + 2 := by simp [ended]
theorem two_bytes {h' : Heap} {l : List UInt8} : aBuildSlice 1 2 h' [(0, Value.agg #[U 0, U 0]), (1, U (IntKind.u8.wrap (checksum l / 256))), (1001, U (IntKind.u8.wrap (checksum l % 256)))] =
  some (sl h'.length 0 2 1, h' ++ [⟨bytesV [byteI (checksum l / 256), byteI (checksum l % 256)], true⟩]) := by
 have hb := checksum_bd l
 rw [wrap8 (by omega) (by omega), wrap8 (by omega) (by omega)]
 simp [aBuildSlice, bytesV, byteI]
 omega
theorem c568 (l : List UInt8) (hl : l.length ≤ 1048000) (h0 h : Heap) (hp : 0 < h0.length) (v : Value) (hg : Grows h0 h) (hv : Buf h0 h v 1 (bytesV l)) : ACall Gam 568 [v] h fun r h' => r = S (ended l) ∧ Grows h0 h' := by
 have hb := checksum_bd l
 refine ACall_intro g568 rfl ?_
 unfold fn568
 simp (disch := omega)
 rw [text_buf hv]
 simp
 refine callW_of (c573 l (by omega) h) ?_
 rintro v' h' ⟨rfl, rfl⟩
 simp (disch := omega) [wrap64, tdiv_pos, tmod_pos]
 refine append_bytes hp (xs := [byteI (checksum l / 256), byteI (checksum l % 256)]) (by simp; omega) hg hv (by simp) rfl two_bytes ?_
 intro v' h'' g1 b1
 rw [text_buf b1]
 simp [ended]
 exact g1
theorem c191 (l : List UInt8) (hl : l.length ≤ 1048000) (h : Heap) : ACall Gam 191 [S l] h fun r h' => r = S (ended l) ∧ Grows h h' := by
 have hb := checksum_bd l
 refine ACall_intro g191 rfl ?_
 unfold fn191
 simp (disch := omega)
 refine callW_of (c64 l (by omega) h) ?_
 rintro v' h' ⟨rfl, rfl⟩
 simp (disch := omega) [wrap64, tdiv_pos, tmod_pos]
 rw [two_bytes]
 simp only [bindW_some]
 rw [text_buf (h0 := h') (l := [byteI (checksum l / 256), byteI (checksum l % 256)]) (.inr ⟨h'.length, 2, rfl, by simp [bytesV], Nat.le_refl _, by simp⟩)]
 simp
 rw [if_pos (by omega)]
 simp [ended]
 exact ⟨_, rfl⟩
def pv (br : List Int) (i : Nat) : Nat → Int
 | 0 => 0
 | j + 1 => 3 * pv br i j + at0 br (i + j)
def fiveV (br : List Int) (i : Nat) : Int := pv br i 5
theorem at0_bd {br : List Int} (hb : ∀ x ∈ br, 0 ≤ x ∧ x ≤ 2) (i : Nat) : 0 ≤ at0 br i ∧ at0 br i ≤ 2 := by
 unfold at0
 rw [List.getD_eq_getElem?_getD]
 by_cases h : i < br.length
 ·rw [List.getElem?_eq_getElem h]
  exact hb _ (List.getElem_mem h)
 ·rw [List.getElem?_eq_none (by omega)]; simp
theorem pv_bd {br : List Int} (hb : ∀ x ∈ br, 0 ≤ x ∧ x ≤ 2) (i : Nat) : ∀ j, 0 ≤ pv br i j ∧ pv br i j < 3 ^ j
 | 0 => by simp [pv]
 | j + 1 => by
  have := pv_bd hb i j
  have h2 := at0_bd hb (i + j)
  simp only [pv, Int.pow_succ]
  omega
theorem pv_le {br : List Int} (hb : ∀ x ∈ br, 0 ≤ x ∧ x ≤ 2) (i j : Nat) (hj : j ≤ 5) : 0 ≤ pv br i j ∧ pv br i j ≤ 242 ∧ (j ≤ 4 → pv br i j ≤ 80) := by
 have h1 := pv_bd hb i j
 have : j = 0 ∨ j = 1 ∨ j = 2 ∨ j = 3 ∨ j = 4 ∨ j = 5 := by omega
 rcases this with rfl | rfl | rfl | rfl | rfl | rfl <;> simp at h1 <;> omega
def packB (br : List Int) (q : Nat) : List UInt8 := (List.range q).map fun i => byteI (fiveV br (5 * i))
theorem packB_succ (br : List Int) (q : Nat) : packB br (q + 1) = packB br q ++ [byteI (fiveV br (5 * q))] := by simp [packB, List.range_succ]
theorem packB_len (br : List Int) (q : Nat) : (packB br q).length = q := by simp [packB]
def packBody (X : Pan) : List UInt8 := [77, byteI X.1, byteI X.2.1] ++ packB X.2.2 ((X.2.2.length + 4) / 5)
def packP (X : Pan) : List UInt8 := ended (packBody X)
theorem three_bytes {h' : Heap} {W H : Int} (hW : 1 ≤ W ∧ W ≤ 8) (hH : 1 ≤ H ∧ H ≤ 8) : aBuildSlice 1 3 h' [(0, Value.agg #[U 0, U 0, U 0]), (1, U 77), (1001, U (IntKind.u8.wrap W)), (2001, U (IntKind.u8.wrap H))] =
  some (sl h'.length 0 3 1, h' ++ [⟨bytesV [77, byteI W, byteI H], true⟩]) := by
 rw [wrap8 (by omega) (by omega), wrap8 (by omega) (by omega)]
 simp [aBuildSlice, bytesV, byteI]
 omega
theorem one_byte {h' : Heap} {x : Int} (hx : 0 ≤ x ∧ x < 256) : aBuildSlice 1 1 h' [(0, Value.agg #[U 0]), (1, U x)] = some (sl h'.length 0 1 1, h' ++ [⟨bytesV [byteI x], true⟩]) := by
 simp [aBuildSlice, bytesV, byteI]
 omega
theorem c571 (v : Value) (X : Pan) (h : Heap) (hp : 0 < h.length) (hv : PtP h v X) (ok : OkP X) : ACall Gam 571 [v] h fun r h' => r = S (packP X) ∧ Grows h h' := by
 obtain ⟨b, o, s, rfl, h1, h2, h3, hs, hW, hH⟩ := hv
 obtain ⟨W, H, br⟩ := X
 obtain ⟨b2, o2, z, rfl, _, hm, hx, hc⟩ := hs.ints
 obtain ⟨qW, qH, qn, qb⟩ := ok
 have qi := inner_bd qW qH
 simp only at h1 h2 qW qH qn qb qi
 refine ACall_intro g571 rfl ?_
 unfold fn571
 simp (disch := omega) [h1, h2]
 rw [three_bytes qW qH]
 simp
 have g0 : Grows h (h ++ [⟨bytesV [77, byteI W, byteI H], true⟩]) := ⟨_, rfl⟩
 refine awp_loop (fun q σ h' => Grows h h' ∧ 5 * q ≤ br.length + 4 ∧ σ 0 = pt b o ∧ σ 4 = I ((5 * q : Nat) : Int) ∧ Buf h h' (σ 3) 1 (bytesV ([77, byteI W, byteI H] ++ packB br q))) (fun q => br.length + 4 - 5 * q) 0 ?_ ?_
 ·refine ⟨g0, by omega, by simp, by simp, ?_⟩
  simp [packB]
  exact .inr ⟨h.length, 3, rfl, by simp [bytesV], Nat.le_refl _, by simp⟩
 ·rintro q σ h' ⟨hg, hq, q0, q4, hb⟩
  have h3' := hg.cell h3
  simp (disch := omega) [q0, q4, h3']
  refine fork_dec (fun hlt => ?_) (fun hge => ?_)
  ·simp (disch := omega) [q0, q4]
   refine awp_loop (fun j σ' h'' => h'' = h' ∧ j ≤ 5 ∧ σ' 0 = pt b o ∧ σ' 3 = σ 3 ∧ σ' 4 = I ((5 * q : Nat) : Int) ∧ σ' 6 = I ((5 * q + j : Nat) : Int) ∧ σ' 5 = I (pv br (5 * q) j)) (fun j => 5 - j) 0 ?_ ?_
   ·simp [q0, q4, pv]
   ·rintro j σ' h'' ⟨rfl, hj, p0, p3, p4, p6, p5⟩
    simp (disch := omega) [p4, p6, wrap64]
    refine fork_dec (fun hlt2 => ?_) (fun hge2 => ?_)
    ·have hj4 : j ≤ 4 := by omega
     have hpv := pv_le qb (5 * q) j hj
     have hpv2 := pv_le qb (5 * q) (j + 1) (by omega)
     have e1 : pv br (5 * q) (j + 1) = 3 * pv br (5 * q) j + at0 br (5 * q + j) := rfl
     have ha := at0_bd qb (5 * q + j)
     simp (disch := omega) [p0, p5, p6, h3', wrap64]
     refine fork_dec (fun hlt3 => ?_) (fun hge3 => ?_)
     ·have k1 : 5 * q + j < br.length := by omega
      have hcell := ints_cell (hc.imp id (grows_cellsAt hg)) k1
      have eat : at0 br (5 * q + j) = br[5 * q + j] := by simp [at0, k1]
      have et : (5 * (q : Int) + j).toNat = 5 * q + j := by omega
      have c1 : (0 : Int) ≤ 5 * q + j := by omega
      have c2 : 5 * (q : Int) + j < br.length := by omega
      simp (disch := omega) [p0, p5, p6, h3', et, c1, c2, hcell, wrap64, p3, p4]
      refine ⟨j + 1, ⟨by omega, by omega, ?_⟩, by omega⟩
      rw [e1, eat]; omega
     ·have eat : at0 br (5 * q + j) = 0 := by
       unfold at0; rw [List.getD_eq_getElem?_getD, List.getElem?_eq_none (by omega)]; rfl
      simp (disch := omega) [p0, p5, p6, p3, p4, wrap64]
      exact ⟨j + 1, ⟨by omega, by omega, by omega⟩, by omega⟩
    ·have : j = 5 := by omega
     subst this
     have hpv := pv_le qb (5 * q) 5 (by omega)
     simp (disch := omega) [p0, p5, p3, p4, wrap64]
     rw [wrap8 (by omega) (by omega)]
     refine append_bytes hp (xs := [byteI (pv br (5 * q) 5)]) (by simp [packB_len]; omega) hg hb (by simp) rfl (one_byte (by omega)) ?_
     intro v' h2 g1 b1
     refine ⟨q + 1, ⟨g1, by omega, by omega, ?_⟩, by omega⟩
     rw [packB_succ]
     simpa [fiveV] using b1
  ·have e : q = (br.length + 4) / 5 := by omega
   simp (disch := omega) [q0, q4]
   refine callW_of (c568 _ (by simp [packB_len]; omega) h h' hp _ hg hb) ?_
   rintro v' h2 ⟨rfl, g2⟩
   simp [packP, packBody, ← e]
   exact g2
theorem c180 (v : Value) (X : Pan) (h : Heap) (hp : 0 < h.length) (hv : Vr h shPanel v X) (ok : OkP X) : ACall Gam 180 [v] h fun r h' => r = S (packP X) ∧ Grows h h' := by
 obtain ⟨W, H, br⟩ := X
 obtain ⟨s, rfl, hW, hH, hs⟩ := hv.panel
 obtain ⟨b2, o2, z, rfl, _, hm, hx, hc⟩ := hs.ints
 obtain ⟨qW, qH, qn, qb⟩ := ok
 have qi := inner_bd qW qH
 simp only at qW qH qn qb qi
 refine ACall_intro g180 rfl ?_
 unfold fn180
 simp (disch := omega)
 rw [three_bytes qW qH]
 simp
 have g0 : Grows h (h ++ [⟨bytesV [77, byteI W, byteI H], true⟩]) := ⟨_, rfl⟩
 refine awp_loop (fun q σ h' => Grows h h' ∧ 5 * q ≤ br.length + 4 ∧ σ 1 = .agg #[I W, I H, sl b2 o2 br.length z] ∧ σ 4 = I ((5 * q : Nat) : Int) ∧ Buf h h' (σ 3) 1 (bytesV ([77, byteI W, byteI H] ++ packB br q))) (fun q => br.length + 4 - 5 * q) 0 ?_ ?_
 ·refine ⟨g0, by omega, by simp, by simp, ?_⟩
  simp [packB]
  exact .inr ⟨h.length, 3, rfl, by simp [bytesV], Nat.le_refl _, by simp⟩
 ·rintro q σ h' ⟨hg, hq, q0, q4, hb⟩
  simp (disch := omega) [q0, q4]
  refine fork_dec (fun hlt => ?_) (fun hge => ?_)
  ·simp (disch := omega) [q0, q4]
   refine awp_loop (fun j σ' h'' => h'' = h' ∧ j ≤ 5 ∧ σ' 1 = .agg #[I W, I H, sl b2 o2 br.length z] ∧ σ' 3 = σ 3 ∧ σ' 4 = I ((5 * q : Nat) : Int) ∧ σ' 6 = I ((5 * q + j : Nat) : Int) ∧ σ' 5 = U (pv br (5 * q) j)) (fun j => 5 - j) 0 ?_ ?_
   ·simp [q0, q4, pv]
   ·rintro j σ' h'' ⟨rfl, hj, p0, p3, p4, p6, p5⟩
    simp (disch := omega) [p4, p6, wrap64]
    refine fork_dec (fun hlt2 => ?_) (fun hge2 => ?_)
    ·have hj4 : j ≤ 4 := by omega
     have hpv := pv_le qb (5 * q) j hj
     have hpv2 := pv_le qb (5 * q) (j + 1) (by omega)
     have e1 : pv br (5 * q) (j + 1) = 3 * pv br (5 * q) j + at0 br (5 * q + j) := rfl
     have ha := at0_bd qb (5 * q + j)
     simp (disch := omega) [p0, p5, p6, wrap64, wrap8]
     refine fork_dec (fun hlt3 => ?_) (fun hge3 => ?_)
     ·have k1 : 5 * q + j < br.length := by omega
      have hcell := ints_cell (hc.imp id (grows_cellsAt hg)) k1
      have eat : at0 br (5 * q + j) = br[5 * q + j] := by simp [at0, k1]
      have et : (5 * (q : Int) + j).toNat = 5 * q + j := by omega
      have c1 : (0 : Int) ≤ 5 * q + j := by omega
      have c2 : 5 * (q : Int) + j < br.length := by omega
      simp (disch := omega) [p0, p5, p6, et, c1, c2, hcell, wrap64, p3, p4]
      refine ⟨j + 1, ⟨by omega, by omega, ?_⟩, by omega⟩
      rw [wrap8 (n := br[5 * q + j]) (by rw [← eat]; omega) (by rw [← eat]; omega), wrap8 (by rw [← eat]; omega) (by rw [← eat]; omega), e1, eat]; omega
     ·have eat : at0 br (5 * q + j) = 0 := by
       unfold at0; rw [List.getD_eq_getElem?_getD, List.getElem?_eq_none (by omega)]; rfl
      simp (disch := omega) [p0, p5, p6, p3, p4, wrap64]
      exact ⟨j + 1, ⟨by omega, by omega, by omega⟩, by omega⟩
    ·have : j = 5 := by omega
     subst this
     have hpv := pv_le qb (5 * q) 5 (by omega)
     simp (disch := omega) [p0, p5, p3, p4, wrap64]
     refine append_bytes hp (xs := [byteI (pv br (5 * q) 5)]) (by simp [packB_len]; omega) hg hb (by simp) rfl (one_byte (by omega)) ?_
     intro v' h2 g1 b1
     refine ⟨q + 1, ⟨g1, by omega, by omega, ?_⟩, by omega⟩
     rw [packB_succ]
     simpa [fiveV] using b1
  ·have e : q = (br.length + 4) / 5 := by omega
   simp (disch := omega) [q0, q4]
   rw [text_buf hb]
   simp
   refine callW_of (c191 _ (by simp [packB_len]; omega) h') ?_
   rintro v' h2 ⟨rfl, g2⟩
   simp [packP, packBody, ← e]
   exact hg.trans g2
def fillB (f : Nat → Int) (P : Nat → Bool) (n : Nat) : List Int := (List.range n).map fun j => if P j then f j else 0
theorem fillB_len (f : Nat → Int) (P : Nat → Bool) (n : Nat) : (fillB f P n).length = n := by simp [fillB]
theorem fillB_set {f : Nat → Int} {P P' : Nat → Bool} {n k : Nat} (h : ∀ j, j < n → P' j = (P j || j == k)) : (fillB f P n).set k (f k) = fillB f P' n := by
 apply List.ext_getElem
 ·simp [fillB]
 ·intro i h1 h2
  simp [fillB] at h1 h2 ⊢
  rw [List.getElem_set]
  simp only [List.getElem_map, List.getElem_range]
  have := h i h2
  by_cases e : k = i
  ·subst e; simp [this]
  ·have e' : ¬ i = k := fun h => e h.symm
   simp [e, this, e']
theorem fillB_none (f : Nat → Int) (P : Nat → Bool) (n : Nat) (h : ∀ j, j < n → P j = false) : fillB f P n = List.replicate n 0 := by
 apply List.ext_getElem
 ·simp [fillB]
 ·intro i h1 h2
  simp [fillB] at h1 ⊢
  simp [h i h1]
theorem fillB_all (f : Nat → Int) (P : Nat → Bool) (n : Nat) (h : ∀ j, j < n → P j = true) : fillB f P n = (List.range n).map f := by
 apply List.map_congr_left
 intro i hi
 simp [h i (List.mem_range.1 hi)]
theorem fillB_same {f : Nat → Int} {P P' : Nat → Bool} {n : Nat} (h : ∀ j, j < n → P j = P' j) : fillB f P n = fillB f P' n := by
 apply List.map_congr_left
 intro i hi
 rw [h i (List.mem_range.1 hi)]
theorem store_fill {h : Heap} {b k n : Nat} {f : Nat → Int} {P P' : Nat → Bool} {v : Int} (hb : h[b]? = some ⟨ints (fillB f P n), true⟩) (hk : k < n) (hv : v = f k) (hp : ∀ j, j < n → P' j = (P j || j == k)) :
  storeAt h b k [I v] = some (h.set b ⟨ints (fillB f P' n), true⟩) := by
 rw [store_one hb (by simp [ints, fillB_len]; exact hk), ← fillB_set hp, hv]
 simp [ints, List.map_set]
def bn (s : List UInt8) (i : Nat) : Nat := (s.getD i 0).toNat
theorem bn_lt (s : List UInt8) (i : Nat) : bn s i < 256 := UInt8.toNat_lt _
theorem bn_at {s : List UInt8} {i : Nat} (h : i < s.length) : s[i]? = some s[i] ∧ s[i].toNat = bn s i := by simp [bn, h]
def dv (x j : Nat) : Nat := x / 3 ^ j
theorem dv_succ (x j : Nat) : dv x (j + 1) = dv x j / 3 := by unfold dv; rw [Nat.pow_succ, Nat.div_div_eq_div_mul]
theorem dv_zero (x : Nat) : dv x 0 = x := by simp [dv]
theorem dv_le (x j : Nat) : dv x j ≤ x := Nat.div_le_self _ _
def brk (s : List UInt8) (k : Nat) : Nat := dv (bn s (3 + k / 5)) (4 - k % 5) % 3
def unB (s : List UInt8) (n : Nat) : List Int := (List.range n).map fun k => ((brk s k : Nat) : Int)
def unP (s : List UInt8) : Pan := (bn s 1, bn s 2, unB s (inner (bn s 1) (bn s 2)).toNat)
theorem unP_ok {s : List UInt8} (h : okSz (bn s 1) (bn s 2) = true) : OkP (unP s) := by
 obtain ⟨hW, hH⟩ := okSz_iff.1 h
 have hi := inner_bd hW hH
 refine ⟨hW, hH, ?_, ?_⟩
 ·simp [unP, unB]; omega
 ·intro x hx
  obtain ⟨k, _, rfl⟩ := List.mem_map.1 hx
  have : brk s k < 3 := Nat.mod_lt _ (by decide)
  omega
def lenOk (s : List UInt8) : Bool := decide (5 ≤ s.length) && (okSz (bn s 1) (bn s 2) && decide ((s.length : Int) = packSize (bn s 1) (bn s 2)))
def unOk (s : List UInt8) : Bool := lenOk s && decide (packP (unP s) = s)
def sumOk (s : List UInt8) : Bool := decide (checksum (s.take (s.length - 2)) = 256 * (bn s (s.length - 2) : Int) + bn s (s.length - 1))
def fault (s : List UInt8) : Int := if s.length < 5 ∨ bn s 0 ≠ 77 ∨ okSz (bn s 1) (bn s 2) = false then 1 else if (s.length : Int) ≠ packSize (bn s 1) (bn s 2) then 2 else if sumOk s = false then 3 else if packP (unP s) ≠ s then 4 else 0
theorem bn_ended {l : List UInt8} {k : Nat} : bn (ended l) (l.length + k) = bn [byteI (checksum l / 256), byteI (checksum l % 256)] k := by
 unfold bn ended
 rw [List.getD_eq_getElem?_getD, List.getElem?_append_right (by omega), ← List.getD_eq_getElem?_getD]
 congr 2
 omega
theorem ended_sum (l : List UInt8) : sumOk (ended l) = true := by
 have hb := checksum_bd l
 have e0 : (ended l).length = l.length + 2 := ended_len l
 unfold sumOk
 rw [e0, show l.length + 2 - 2 = l.length + 0 by omega, show l.length + 2 - 1 = l.length + 1 by omega, bn_ended, bn_ended]
 have e1 : (ended l).take (l.length + 0) = l := by simp [ended]
 rw [e1]
 simp [bn, byteI]
 omega
theorem sum_ended {s : List UInt8} (h2 : 2 ≤ s.length) : ended (s.take (s.length - 2)) = s ↔ sumOk s = true := by
 constructor
 ·intro h
  rw [← h]; exact ended_sum _
 ·intro h
  have hb := checksum_bd (s.take (s.length - 2))
  unfold sumOk at h
  simp only [decide_eq_true_eq] at h
  have a := bn_lt s (s.length - 2)
  have b := bn_lt s (s.length - 1)
  have e : s = s.take (s.length - 2) ++ [s[s.length - 2]'(by omega), s[s.length - 1]'(by omega)] := by
   conv => lhs; rw [← List.take_append_drop (s.length - 2) s]
   congr 1
   rw [List.drop_eq_getElem_cons (by omega), List.drop_eq_getElem_cons (by omega), List.drop_eq_nil_of_le (by omega)]
   congr 2
   congr 1
   omega
  conv => rhs; rw [e]
  unfold ended
  have q1 : byteI (checksum (s.take (s.length - 2)) / 256) = s[s.length - 2]'(by omega) := by
   apply UInt8.toNat_inj.1
   have := (bn_at (s := s) (i := s.length - 2) (by omega)).2
   simp [byteI]; omega
  have q2 : byteI (checksum (s.take (s.length - 2)) % 256) = s[s.length - 1]'(by omega) := by
   apply UInt8.toNat_inj.1
   have := (bn_at (s := s) (i := s.length - 1) (by omega)).2
   simp [byteI]; omega
  rw [q1, q2]
theorem fault_zero (s : List UInt8) : fault s = 0 ↔ unOk s = true := by
 unfold unOk lenOk
 simp only [Bool.and_eq_true, decide_eq_true_eq]
 constructor
 ·intro h
  unfold fault at h
  split at h
  ·cases h
  ·rename_i h1
   split at h
   ·cases h
   ·rename_i h2
    split at h
    ·cases h
    ·split at h
     ·cases h
     ·rename_i h4
      refine ⟨⟨by omega, by
       cases hq : okSz (bn s 1) (bn s 2)
       ·exact absurd (.inr (.inr hq)) h1
       ·rfl, by simpa using h2⟩, by simpa using h4⟩
 ·rintro ⟨⟨h1, h2, h3⟩, h4⟩
  have hs : sumOk s = true := by rw [← h4]; exact ended_sum _
  have h0 : bn s 0 = 77 := by
   rw [← h4]
   rfl
  unfold fault
  rw [if_neg (by simp [h2, h0]; omega), if_neg (by simpa using h3), if_neg (by simp [hs]), if_neg (by simpa using h4)]
def unRes (s : List UInt8) : Pan := if lenOk s then unP s else (0, 0, [])
theorem c195 (h : Heap) (hp : 0 < h.length) (s : List UInt8) (hs : s.length ≤ 1048576) : ACall Gam 195 [S s] h fun r h' => Grows h h' ∧ ∃ r0, r = .tuple #[r0, B (unOk s)] ∧ Vo h' h.length h'.length shPanel r0 (unRes s) := by
 refine ACall_intro g195 rfl ?_
 unfold fn195
 simp (disch := omega)
 refine fork_dec (fun h5 => ?_) (fun h5 => ?_)
 ·have e : lenOk s = false := by simp [lenOk]; omega
  simp (disch := omega) [h5, resOf, resAll, resOne, aField, unOk, unRes, e]
  exact ⟨Grows.refl _, Vo.of_panel (by unfold I64; omega) (by unfold I64; omega) (Vo.of_ints (X := []) (.inr ⟨rfl, rfl⟩) (by simp) (by simp) (.inl rfl))⟩
 ·have l1 : 1 < s.length := by omega
  have l2 : 2 < s.length := by omega
  obtain ⟨a1, a2⟩ := bn_at l1
  obtain ⟨b1, b2⟩ := bn_at l2
  have t1 := bn_lt s 1
  have t2 := bn_lt s 2
  have i1 : (1 : Int) < s.length := by omega
  have i2 : (2 : Int) < s.length := by omega
  simp (disch := omega) [h5, i1, i2, a1, b1, a2, b2, wrap64]
  refine callW_of (c198 (bn s 1) (bn s 2) h) ?_
  rintro _ h' ⟨rfl, rfl⟩
  cases q : okSz (bn s 1) (bn s 2)
  ·have e : lenOk s = false := by simp [lenOk, q]
   simp (disch := omega) [resOf, resAll, resOne, aField, unOk, unRes, e]
   exact ⟨Grows.refl _, Vo.of_panel (by unfold I64; omega) (by unfold I64; omega) (Vo.of_ints (X := []) (.inr ⟨rfl, rfl⟩) (by simp) (by simp) (.inl rfl))⟩
  ·obtain ⟨qW, qH⟩ := okSz_iff.1 q
   have hi := inner_bd qW qH
   simp (disch := omega) [h5, i1, i2, a1, b1, a2, b2, wrap64]
   refine callW_of (c181 (bn s 1) (bn s 2) qW qH h') ?_
   rintro _ h' ⟨rfl, rfl⟩
   simp (disch := omega)
   refine fork_dec (fun hl => ?_) (fun hl => ?_)
   rotate_left
   ·have e : lenOk s = false := by simp [lenOk, hl]
    simp (disch := omega) [hl, resOf, resAll, resOne, aField, unOk, unRes, e]
    exact ⟨Grows.refl _, Vo.of_panel (by unfold I64; omega) (by unfold I64; omega) (Vo.of_ints (X := []) (.inr ⟨rfl, rfl⟩) (by simp) (by simp) (.inl rfl))⟩
   ·have e : lenOk s = true := by simp [lenOk, q, hl]; omega
    simp (disch := omega) [i1, i2, a1, b1, a2, b2, wrap64]
    refine callW_of (c177 h' (bn s 1) (bn s 2) qW qH hp) ?_
    rintro _ h1 ⟨g1, o1⟩
    obtain ⟨so, rfl, w1, w2, o1⟩ := o1.panel
    obtain ⟨bb, zz, rfl, hz, hm, hx, hc⟩ := o1.ints
    obtain ⟨n, hn⟩ : ∃ n, n = (inner (bn s 1) (bn s 2)).toNat := ⟨_, rfl⟩
    rw [← hn] at hz hc ⊢
    simp only [List.length_replicate] at hc ⊢
    have hps : (s.length : Int) = 5 + (inner (bn s 1) (bn s 2) + 4) / 5 := hl
    have hlen : s.length = 5 + (n + 4) / 5 := by omega
    have hn112 : n ≤ 112 := by omega
    simp (disch := omega)
    refine awp_loop (fun k σ hh => k ≤ n ∧ Grows h' hh ∧ σ 0 = S s ∧ σ 2 = .agg #[I 0, I 0, sl 0 0 0 0] ∧ σ 4 = .agg #[I (bn s 1), I (bn s 2), sl bb 0 n zz] ∧ σ 42 = I n ∧ σ 43 = I k ∧ (n = 0 ∨ hh[bb]? = some ⟨ints (fillB (fun j => (brk s j : Nat)) (fun j => decide (j < k)) n), true⟩)) (fun k => n - k) 0 ?_ ?_
    ·refine ⟨by omega, g1, by simp, by simp, by simp, by simp, by simp, ?_⟩
     rcases hc with hc | hc
     ·left; simpa using hc
     ·right; rw [fillB_none _ _ _ (by simp)]; exact hc.1
    ·rintro k σ hh ⟨hk, hg, q0, q2, q4, q42, q43, hb⟩
     simp (disch := omega) [q42, q43]
     refine fork_dec (fun hlt => ?_) (fun hge => ?_)
     ·have k1 : k < n := by omega
      have hb := hb.resolve_left (by omega)
      have hbb : h'.length ≤ bb := by
       rcases hc with hc | hc
       ·simp at hc; omega
       ·exact hc.2.1
      have lk : 3 + k / 5 < s.length := by omega
      obtain ⟨d1, d2⟩ := bn_at lk
      have t3 := bn_lt s (3 + k / 5)
      have ei : (3 + (k : Int) / 5).toNat = 3 + k / 5 := by omega
      have ec : 3 + (k : Int) / 5 < s.length := by omega
      have ec0 : 0 ≤ 3 + (k : Int) / 5 := by omega
      simp (disch := omega) [q0, q43, tdiv_pos, wrap64, tmod_pos, ei, ec, ec0, d1, d2]
      refine awp_loop (fun j σ' h'' => h'' = hh ∧ j ≤ 4 - k % 5 ∧ σ' 0 = S s ∧ σ' 2 = .agg #[I 0, I 0, sl 0 0 0 0] ∧ σ' 4 = .agg #[I (bn s 1), I (bn s 2), sl bb 0 n zz] ∧ σ' 5 = I k ∧ σ' 42 = I n ∧ σ' 43 = I k ∧ σ' 54 = I ((4 - k % 5 : Nat) : Int) ∧ σ' 55 = I j ∧ σ' 6 = I ((dv (bn s (3 + k / 5)) j : Nat) : Int)) (fun j => 4 - k % 5 - j) 0 ?_ ?_
      ·simp [q0, q2, q4, q42, q43, dv_zero]; omega
      ·rintro j σ' h'' ⟨rfl, hj, p0, p2, p4, p5, p42, p43, p54, p55, p6⟩
       simp (disch := omega) [p54, p55]
       refine fork_dec (fun hlt2 => ?_) (fun hge2 => ?_)
       ·obtain ⟨x, hx⟩ : ∃ x, x = dv (bn s (3 + k / 5)) j := ⟨_, rfl⟩
        have hxl : x < 256 := by rw [hx]; exact Nat.lt_of_le_of_lt (dv_le _ _) t3
        rw [← hx] at p6
        simp (disch := omega) [p0, p2, p4, p5, p42, p43, p54, p55, p6, tdiv_pos, wrap64]
        refine ⟨j + 1, ⟨by omega, by omega, ?_⟩, by omega⟩
        rw [dv_succ, ← hx]; omega
       ·have ej : j = 4 - k % 5 := by omega
        rw [ej] at p6
        obtain ⟨x, hx⟩ : ∃ x, x = dv (bn s (3 + k / 5)) (4 - k % 5) := ⟨_, rfl⟩
        have hxl : x < 256 := by rw [hx]; exact Nat.lt_of_le_of_lt (dv_le _ _) t3
        rw [← hx] at p6
        have hv : (x : Int) % 3 = ((brk s k : Nat) : Int) := by simp [brk, ← hx]
        have hst := store_fill (P' := fun j => decide (j < k + 1)) (v := (x : Int) % 3) hb k1 hv (by
         intro j _
         by_cases h1 : j < k
         ·simp [h1, show j < k + 1 by omega]
         ·by_cases h2 : j = k
          ·simp [h2]
          ·simp [h1, h2, show ¬ j < k + 1 by omega])
        simp (disch := omega) [p0, p2, p4, p5, p42, p43, p54, p55, p6, tmod_pos, k1, hst, wrap64]
        exact ⟨k + 1, ⟨by omega, hg.put hbb _, by omega, .inr (by simp [at_lt hb])⟩, by omega⟩
     ·have ek : k = n := by omega
      subst ek
      have hu : unP s = (((bn s 1 : Nat) : Int), ((bn s 2 : Nat) : Int), unB s k) := by rw [hn]; rfl
      have hul : (unB s k).length = k := by simp [unB]
      have hfill : fillB (fun j => ((brk s j : Nat) : Int)) (fun j => decide (j < k)) k = unB s k := fillB_all _ _ _ fun j hj => by simp [hj]
      have ho : Vo hh h'.length hh.length shInts (sl bb 0 k zz) (unB s k) := by
       have := Vo.of_ints (h := hh) (b := bb) (lo := h'.length) (hi := hh.length) (z := zz) (X := unB s k) (by
        rcases hz with e | ⟨e, e'⟩
        ·exact .inl e
        ·have : k = 0 := by simpa using e'
         exact .inr ⟨e, by rw [this]; rfl⟩) (by rw [hul, maxLen_eq]; omega) (by
        intro x hx
        obtain ⟨j, _, rfl⟩ := List.mem_map.1 hx
        have : brk s j < 3 := Nat.mod_lt _ (by decide)
        unfold I64; omega) (by
        rcases hb with e | e
        ·exact .inl (by rw [e]; rfl)
        ·rw [hfill] at e
         by_cases hk0 : k = 0
         ·exact .inl (by rw [hk0]; rfl)
         ·refine .inr ⟨e, ?_, at_lt e⟩
          rcases hc with hc | hc
          ·simp at hc; omega
          ·exact hc.2.1)
       rw [hul] at this
       exact this
      have hov := Vo.of_panel w1 w2 ho
      rw [← hu] at hov
      simp (disch := omega) [q0, q4]
      refine callW_of (c180 _ (unP s) hh (pos_of hp hg) hov.vr (unP_ok q)) ?_
      rintro _ h2 ⟨rfl, g2⟩
      refine ⟨fun _ => g2, ?_⟩
      have er : unRes s = unP s := by simp [unRes, e]
      have eo : unOk s = decide (packP (unP s) = s) := by simp [unOk, e]
      have hov2 := (hov.grow g2).wide (Nat.le_refl _) g2.le
      simp (disch := omega) [q0, q2, q4, resOf, resAll, resOne, aField, er, eo]
      exact ⟨hg.trans g2, hov2⟩
theorem Vo.zero_panel {h : Heap} {lo hi : Nat} : Vo h lo hi shPanel (.agg #[I 0, I 0, sl 0 0 0 0]) ((0, 0, []) : Pan) := Vo.of_panel (by unfold I64; omega) (by unfold I64; omega) (Vo.of_ints (X := []) (.inr ⟨rfl, rfl⟩) (by simp) (by simp) (.inl rfl))
theorem aSlice_hi {h : Heap} {l : List UInt8} {k : IntKind} {n : Int} (h0 : 0 ≤ n) (h1 : n.toNat ≤ l.length) : aSlice 0 h (S l) none (some (.int k n)) none = some (S (l.take n.toNat), h) := by
 simp [aSlice, bound, h0, ByteArray.size, h1]
theorem aSlice_lo {h : Heap} {l : List UInt8} {k : IntKind} {n : Int} (h0 : 0 ≤ n) (h1 : n.toNat ≤ l.length) : aSlice 0 h (S l) (some (.int k n)) none none = some (S (l.drop n.toNat), h) := by
 simp [aSlice, bound, h0, ByteArray.size, h1]
theorem store_box {h : Heap} {cs xs : List Value} (hl : xs.length = cs.length) : storeAt (h ++ [⟨cs, true⟩]) h.length 0 xs = some (h ++ [⟨xs, true⟩]) := by
 unfold storeAt
 simp [hl]
theorem PtP.at {h : Heap} {b : Nat} {W H : Int} {s : Value} {br : List Int} {r : Bool} (hb : h[b]? = some ⟨[I W, I H, s], r⟩) (hs : Vr h shInts s br) (hW : I64 W) (hH : I64 H) : PtP h (pt b 0) (W, H, br) :=
 ⟨b, 0, s, rfl, by simp [Am.cell, hb], by simp [Am.cell, hb], by simp [Am.cell, hb], hs, hW, hH⟩
theorem c566 (h : Heap) (s : List UInt8) (h2 : 2 ≤ s.length) (hs : s.length ≤ 1048576) : ACall Gam 566 [S s] h fun r h' => r = B (sumOk s) ∧ h' = h := by
 have l1 : s.length - 2 < s.length := by omega
 have l2 : s.length - 1 < s.length := by omega
 obtain ⟨a1, a2⟩ := bn_at l1
 obtain ⟨b1, b2⟩ := bn_at l2
 have t1 := bn_lt s (s.length - 2)
 have t2 := bn_lt s (s.length - 1)
 have e1 : ((s.length : Int) - 2).toNat = s.length - 2 := by omega
 have e2 : ((s.length : Int) - 1).toNat = s.length - 1 := by omega
 have e3 : ¬ (s.length : Int) < 2 := by omega
 have i1 : (s.length : Int) - 2 < s.length := by omega
 have i2 : (s.length : Int) - 1 < s.length := by omega
 have j1 : (0 : Int) ≤ (s.length : Int) - 2 := by omega
 have j2 : (0 : Int) ≤ (s.length : Int) - 1 := by omega
 have k1 : (2 : Int) ≤ s.length := by omega
 have k2 : (1 : Int) ≤ s.length := by omega
 have sl := aSlice_hi (h := h) (l := s) (k := .i64) j1 (by omega)
 rw [e1] at sl
 refine ACall_intro g566 rfl ?_
 unfold fn566
 simp (disch := omega) [e3, wrap64, sl]
 refine callW_of (c573 (s.take (s.length - 2)) (by simp; omega) h) ?_
 rintro _ h' ⟨rfl, rfl⟩
 simp (disch := omega) [e1, e2, i1, i2, j1, j2, k1, k2, a1, b1, a2, b2, wrap64]
 simp [sumOk]
theorem c574 (h : Heap) (hp : 0 < h.length) (s : List UInt8) (hs : s.length ≤ 1048576) : ACall Gam 574 [S s] h fun r h' => Grows h h' ∧ ∃ r0, r = .tuple #[r0, I (fault s)] ∧ Vo h' h.length h'.length shPanel r0 (if fault s = 0 then unP s else (0, 0, [])) := by
 have bad : ∀ c : Int, fault s = c → c ≠ 0 → (if fault s = 0 then unP s else ((0, 0, []) : Pan)) = (0, 0, []) := fun c hc hn => by rw [hc, if_neg hn]
 refine ACall_intro g574 rfl ?_
 unfold fn574
 simp (disch := omega)
 refine fork_dec (fun h5 => ?_) (fun h5 => ?_)
 ·have e : fault s = 1 := by unfold fault; rw [if_pos (.inl (by omega))]
  rw [bad 1 e (by decide), e]
  simp (disch := omega) [h5, resOf, resAll, resOne, aField]
  exact ⟨Grows.refl _, Vo.zero_panel⟩
 have l0 : 0 < s.length := by omega
 have l1 : 1 < s.length := by omega
 have l2 : 2 < s.length := by omega
 obtain ⟨z1, z2⟩ := bn_at l0
 obtain ⟨a1, a2⟩ := bn_at l1
 obtain ⟨b1, b2⟩ := bn_at l2
 have t0 := bn_lt s 0
 have t1 := bn_lt s 1
 have t2 := bn_lt s 2
 have i0 : (0 : Int) < s.length := by omega
 have i1 : (1 : Int) < s.length := by omega
 have i2 : (2 : Int) < s.length := by omega
 simp (disch := omega) [h5, l0, i1, i2, z1, z2, a1, b1, a2, b2, wrap64]
 refine fork_dec (fun hM => ?_) (fun hM => ?_)
 rotate_left
 ·have e : fault s = 1 := by unfold fault; rw [if_pos (.inr (.inl (by omega)))]
  rw [bad 1 e (by decide), e]
  simp (disch := omega) [h5, hM, resOf, resAll, resOne, aField]
  exact ⟨Grows.refl _, Vo.zero_panel⟩
 simp (disch := omega) [h5, hM, l0, i1, i2, z1, z2, a1, b1, a2, b2, wrap64]
 refine callW_of (c457 (bn s 1) h) ?_
 rintro _ h' ⟨rfl, rfl⟩
 cases q1 : inR (bn s 1) 1 8
 ·have e : fault s = 1 := by unfold fault; rw [if_pos (.inr (.inr (by simp [okSz, q1])))]
  rw [bad 1 e (by decide), e]
  simp (disch := omega) [resOf, resAll, resOne, aField]
  exact ⟨Grows.refl _, Vo.zero_panel⟩
 simp (disch := omega) [l0, i1, i2, z1, z2, a1, b1, a2, b2, wrap64]
 refine callW_of (c457 (bn s 2) h') ?_
 rintro _ h' ⟨rfl, rfl⟩
 cases q2 : inR (bn s 2) 1 8
 ·have e : fault s = 1 := by unfold fault; rw [if_pos (.inr (.inr (by simp [okSz, q2])))]
  rw [bad 1 e (by decide), e]
  simp (disch := omega) [resOf, resAll, resOne, aField]
  exact ⟨Grows.refl _, Vo.zero_panel⟩
 have qW := inR_iff.1 q1
 have qH := inR_iff.1 q2
 have q : okSz (bn s 1) (bn s 2) = true := by simp [okSz, q1, q2]
 have hi := inner_bd qW qH
 have n1 : ¬ (s.length < 5 ∨ bn s 0 ≠ 77 ∨ okSz (bn s 1) (bn s 2) = false) := by simp [q]; omega
 simp (disch := omega) [l0, i1, i2, z1, z2, a1, b1, a2, b2, wrap64]
 refine callW_of (c572 (bn s 1) (bn s 2) qW qH h') ?_
 rintro _ h' ⟨rfl, rfl⟩
 simp (disch := omega)
 refine fork_dec (fun hl => ?_) (fun hl => ?_)
 rotate_left
 ·have e : fault s = 2 := by unfold fault; rw [if_neg n1, if_pos hl]
  rw [bad 2 e (by decide), e]
  simp (disch := omega) [resOf, resAll, resOne, aField]
  exact ⟨Grows.refl _, Vo.zero_panel⟩
 simp (disch := omega)
 refine callW_of (c566 h' s (by omega) hs) ?_
 rintro _ h' ⟨rfl, rfl⟩
 cases q3 : sumOk s
 ·have e : fault s = 3 := by unfold fault; rw [if_neg n1, if_neg (by simpa using hl), if_pos q3]
  rw [bad 3 e (by decide), e]
  simp (disch := omega) [resOf, resAll, resOne, aField]
  exact ⟨Grows.refl _, Vo.zero_panel⟩
 simp (disch := omega)
 refine callW_of (c450 h' (bn s 1) (bn s 2) qW qH hp) ?_
 rintro _ h1 ⟨g1, o1⟩
 obtain ⟨so, rfl, w1, w2, o1⟩ := o1.panel
 obtain ⟨bb, zz, rfl, hz, hm, hx, hc⟩ := o1.ints
 obtain ⟨n, hn⟩ : ∃ n, n = (inner (bn s 1) (bn s 2)).toNat := ⟨_, rfl⟩
 rw [← hn] at hz hc ⊢
 simp only [List.length_replicate] at hc ⊢
 have hps : (s.length : Int) = 5 + (inner (bn s 1) (bn s 2) + 4) / 5 := hl
 have hlen : s.length = 5 + (n + 4) / 5 := by omega
 have hn112 : n ≤ 112 := by omega
 have hsb : storeAt (h1 ++ [⟨[I 0, I 0, sl 0 0 0 0], true⟩]) h1.length 0 [I (bn s 1), I (bn s 2), sl bb 0 n zz] = some (h1 ++ [⟨[I (bn s 1), I (bn s 2), sl bb 0 n zz], true⟩]) := store_box rfl
 simp (disch := omega) [hsb]
 obtain ⟨hB, ehB⟩ : ∃ hB, hB = h1 ++ [⟨[I (bn s 1), I (bn s 2), sl bb 0 n zz], true⟩] := ⟨_, rfl⟩
 rw [← ehB]
 have gB : Grows h1 hB := ⟨_, ehB⟩
 have lB : hB.length = h1.length + 1 := by rw [ehB]; simp
 have kB : hB[h1.length]? = some ⟨[I (bn s 1), I (bn s 2), sl bb 0 n zz], true⟩ := by rw [ehB]; simp
 refine awp_loop (fun (q : Nat) σ hh => 5 * q ≤ n + 4 ∧ Grows h' hh ∧ σ 0 = S s ∧ σ 2 = .agg #[I 0, I 0, sl 0 0 0 0] ∧ σ 6 = pt h1.length 0 ∧ σ 7 = I ((3 + q : Nat) : Int) ∧ hh[h1.length]? = some ⟨[I (bn s 1), I (bn s 2), sl bb 0 n zz], true⟩ ∧
  (n = 0 ∨ hh[bb]? = some ⟨ints (fillB (fun j => (brk s j : Nat)) (fun j => decide (j < 5 * q)) n), true⟩)) (fun q => n + 4 - 5 * q) 0 ?_ ?_
 ·refine ⟨by omega, g1.trans gB, by simp, by simp, by simp, by simp, kB, ?_⟩
  rcases hc with hc | hc
  ·left; simpa using hc
  ·right; rw [fillB_none _ _ _ (by simp)]; exact gB.at hc.1
 ·rintro k σ hh ⟨hk, hg, p0, p2, p6, p7, kb, hb⟩
  simp (disch := omega) [p0, p7, wrap64]
  refine fork_dec (fun hlt => ?_) (fun hge => ?_)
  ·have hnz : n ≠ 0 := by omega
   have hb := hb.resolve_left hnz
   have hbb : h'.length ≤ bb ∧ bb < h1.length := by
    rcases hc with hc | hc
    ·simp at hc; omega
    ·exact hc.2
   have lk : 3 + k < s.length := by omega
   obtain ⟨d1, d2⟩ := bn_at lk
   have t3 := bn_lt s (3 + k)
   have ei : (3 + (k : Int)).toNat = 3 + k := by omega
   have ec : 3 + (k : Int) < s.length := by omega
   have ec0 : (0 : Int) ≤ 3 + (k : Int) := by omega
   simp (disch := omega) [p0, p7, ei, ec, ec0, d1, d2, wrap64]
   refine awp_loop (fun (m : Nat) σ' h'' => m ≤ 5 ∧ Grows h' h'' ∧ σ' 0 = S s ∧ σ' 2 = .agg #[I 0, I 0, sl 0 0 0 0] ∧ σ' 6 = pt h1.length 0 ∧ σ' 7 = I ((3 + k : Nat) : Int) ∧ σ' 9 = I ((m : Int) - 1) ∧ σ' 8 = I ((dv (bn s (3 + k)) (5 - m) : Nat) : Int) ∧ h''[h1.length]? = some ⟨[I (bn s 1), I (bn s 2), sl bb 0 n zz], true⟩ ∧
    h''[bb]? = some ⟨ints (fillB (fun j => (brk s j : Nat)) (fun j => decide (j < 5 * k ∨ 5 * k + m ≤ j ∧ j < 5 * k + 5)) n), true⟩) (fun m => m) 5 ?_ ?_
   ·refine ⟨by omega, hg, by simp [p0], by simp [p2], by simp [p6], by simp [p7], by simp, by simp [dv_zero], kb, ?_⟩
    rw [hb]
    congr 3
    exact fillB_same fun j _ => by
     by_cases h1 : j < 5 * k
     ·simp [h1]
     ·simp [h1]
   ·rintro m σ' h'' ⟨hm5, hg', r0, r2, r6, r7, r9, r8, kb', hb'⟩
    simp (disch := omega) [r9]
    refine fork_dec (fun hm0 => ?_) (fun hm0 => ?_)
    ·obtain ⟨m, rfl⟩ : ∃ m', m = m' + 1 := ⟨m - 1, by omega⟩
     have ex : 5 - (m + 1) = 4 - m := by omega
     rw [ex] at r8
     obtain ⟨x, hx⟩ : ∃ x, x = dv (bn s (3 + k)) (4 - m) := ⟨_, rfl⟩
     have hxl : x < 256 := by rw [hx]; exact Nat.lt_of_le_of_lt (dv_le _ _) t3
     rw [← hx] at r8
     have hx2 : dv (bn s (3 + k)) (5 - m) = x / 3 := by
      have : 5 - m = 4 - m + 1 := by omega
      rw [this, dv_succ, ← hx]
     have em : ((m : Int) + 1 - 1) = m := by omega
     have e5 : 5 * (3 + (k : Int) - 3) + m = ((5 * k + m : Nat) : Int) := by omega
     have cl : cell h'' h1.length 2 = some (sl bb 0 n zz) := by simp [cell, kb']
     simp (disch := omega) [r6, r7, r9, em, cl, wrap64]
     have e6 : 5 * (3 + (k : Int) - 3) + (m : Int) = 5 * k + m := by omega
     rw [e6]
     refine fork_dec (fun hat => ?_) (fun hat => ?_)
     ·have hat' : 5 * k + m < n := by omega
      have hv : (x : Int) % 3 = ((brk s (5 * k + m) : Nat) : Int) := by
       have a : (5 * k + m) / 5 = k := by omega
       have b : (5 * k + m) % 5 = m := by omega
       unfold brk
       rw [a, b, ← hx]; simp
      have hst := store_fill (P' := fun j => decide (j < 5 * k ∨ 5 * k + m ≤ j ∧ j < 5 * k + 5)) (v := (x : Int) % 3) hb' hat' hv (by
       intro j _
       rw [Bool.eq_iff_iff]
       simp only [decide_eq_true_eq, Bool.or_eq_true, beq_iff_eq]
       omega)
      have et : (5 * (k : Int) + m).toNat = 5 * k + m := by omega
      have c0 : (0 : Int) ≤ 5 * k + m := by omega
      have c1 : 5 * (k : Int) + m < n := by omega
      simp (disch := omega) [r0, r2, r6, r7, r8, r9, em, cl, tmod_pos, et, c0, c1, hst, wrap64, e6, tdiv_pos]
      refine ⟨m, ⟨by omega, hg'.put hbb.1 _, rfl, by rw [hx2]; omega, ?_⟩, by omega⟩
      first
       | exact kb'
       | exact ⟨kb', by simp [at_lt hb']⟩
       | exact ⟨by rw [List.getElem?_set_ne (by omega)]; exact kb', by simp [at_lt hb']⟩
     ·simp (disch := omega) [r0, r2, r6, r7, r8, r9, em, cl, tdiv_pos, wrap64]
      refine ⟨m, ⟨by omega, hg', rfl, by rw [hx2]; omega, kb', ?_⟩, by omega⟩
      rw [hb']
      congr 3
      exact fillB_same fun j hj => by
       rw [Bool.eq_iff_iff]
       simp only [decide_eq_true_eq, Bool.or_eq_true, Bool.and_eq_true]
       omega
    ·have : m = 0 := by omega
     subst this
     simp (disch := omega) [r0, r2, r6, r7, wrap64]
     refine ⟨k + 1, ⟨by omega, hg', by omega, kb', .inr ?_⟩, by omega⟩
     rw [hb']
     congr 3
     exact fillB_same fun j hj => by
      rw [Bool.eq_iff_iff]
      simp only [decide_eq_true_eq, Bool.or_eq_true, Bool.and_eq_true]
      omega
  ·have hend : n ≤ 5 * k := by omega
   have hu : unP s = (((bn s 1 : Nat) : Int), ((bn s 2 : Nat) : Int), unB s n) := by rw [hn]; rfl
   have hul : (unB s n).length = n := by simp [unB]
   have hfill : fillB (fun j => ((brk s j : Nat) : Int)) (fun j => decide (j < 5 * k)) n = unB s n := fillB_all _ _ _ fun j hj => by
    rw [decide_eq_true_eq]; omega
   have ho : Vo hh h'.length hh.length shInts (sl bb 0 n zz) (unB s n) := by
    have := Vo.of_ints (h := hh) (b := bb) (lo := h'.length) (hi := hh.length) (z := zz) (X := unB s n) (by
     rcases hz with e | ⟨e, e'⟩
     ·exact .inl e
     ·have : n = 0 := by simpa using e'
      exact .inr ⟨e, by rw [this]; rfl⟩) (by rw [hul, maxLen_eq]; omega) (by
     intro x hx
     obtain ⟨j, _, rfl⟩ := List.mem_map.1 hx
     have : brk s j < 3 := Nat.mod_lt _ (by decide)
     unfold I64; omega) (by
     rcases hb with e | e
     ·exact .inl (by rw [e]; rfl)
     ·rw [hfill] at e
      by_cases hk0 : n = 0
      ·exact .inl (by rw [hk0]; rfl)
      ·refine .inr ⟨e, ?_, at_lt e⟩
       rcases hc with hc | hc
       ·simp at hc; omega
       ·exact hc.2.1)
    rw [hul] at this
    exact this
   have hov := Vo.of_panel w1 w2 ho
   rw [← hu] at hov
   have hpt : PtP hh (pt h1.length 0) (unP s) := by
    rw [hu]; exact PtP.at kb ho.vr w1 w2
   simp (disch := omega) [p0, p2, p6]
   refine callW_of (c571 _ (unP s) hh (pos_of hp hg) hpt (unP_ok q)) ?_
   rintro _ h2 ⟨rfl, g2⟩
   refine ⟨fun _ => g2, ?_⟩
   simp (disch := omega) [p0, p2, p6]
   refine fork_dec (fun hpk => ?_) (fun hpk => ?_)
   ·have e : fault s = 0 := by unfold fault; rw [if_neg n1, if_neg (by simpa using hl), if_neg (by simp [q3]), if_neg (by simpa using hpk)]
    have hov2 := (hov.grow g2).wide (Nat.le_refl _) g2.le
    have kb2 : cellsAt h2 h1.length 0 3 = some [I (bn s 1), I (bn s 2), sl bb 0 n zz] := by rw [cellsAt_of (g2.at kb) (by simp)]; simp
    rw [e, if_pos rfl]
    simp (disch := omega) [p0, p2, p6, kb2, resOf, resAll, resOne, aField]
    exact ⟨hg.trans g2, hov2⟩
   ·have e : fault s = 4 := by unfold fault; rw [if_neg n1, if_neg (by simpa using hl), if_neg (by simp [q3]), if_pos hpk]
    rw [bad 4 e (by decide), e]
    simp (disch := omega) [p0, p2, p6, resOf, resAll, resOne, aField]
    exact ⟨hg.trans g2, Vo.zero_panel⟩
end Am

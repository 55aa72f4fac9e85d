/- Contracts: AmY4, AmY9, AmY10, AmY11. -/
import Derived.Test.YtbljglfnbjbknaaGreatAmK4
set_option linter.unusedVariables false
set_option linter.unusedSimpArgs false
set_option maxHeartbeats 4000000
set_option maxRecDepth 40000
namespace Am
open Go
theorem c152 (h : Heap) (a b : Int) : ACall Gam 152 [I a, I b] h fun r h' => r = I (cmpI a b) ∧ h' = h := by
 refine ACall_intro g152 rfl ?_
 unfold fn152
 simp (disch := omega)
 refine fork_dec (fun h1 => ?_) (fun h1 => ?_)
 ·simp [cmpI, h1]
 ·simp (disch := omega)
  refine fork_dec (fun h2 => ?_) (fun h2 => ?_)
  ·simp [cmpI, h1, h2]
  ·simp [cmpI, h1, h2]
theorem c60 (h : Heap) (a : Int) : ACall Gam 60 [I a] h fun r h' => r = B false ∧ h' = h := by
 refine ACall_intro g60 rfl ?_
 unfold fn60
 simp (disch := omega)
theorem c59 (h : Heap) (a b : Int) : ACall Gam 59 [I a, I b] h fun r h' => r = I (cmpI a b) ∧ h' = h := by
 refine ACall_intro g59 rfl ?_
 unfold fn59
 simp (disch := omega)
 refine callW_of (c60 h a) ?_
 rintro _ h' ⟨rfl, rfl⟩
 simp (disch := omega)
 refine callW_of (c60 h' b) ?_
 rintro _ h' ⟨rfl, rfl⟩
 simp (disch := omega)
 refine fork_dec (fun h1 => ?_) (fun h1 => ?_)
 ·simp [cmpI, h1]
 ·simp (disch := omega)
  refine fork_dec (fun h2 => ?_) (fun h2 => ?_)
  ·simp [cmpI, h1, h2]
  ·simp [cmpI, h1, h2]
theorem take_more {X Y : List Int} {k : Nat} (ht : X.take k = Y.take k) (h1 : k < X.length) (h2 : k < Y.length) (e : X[k] = Y[k]) : X.take (k + 1) = Y.take (k + 1) := by
 rw [List.take_succ_eq_append_getElem h1, List.take_succ_eq_append_getElem h2, ht, e]
theorem c309 (h : Heap) (v w : Value) (X Y : List Int) (hv : Vr h shInts v X) (hw : Vr h shInts w Y) : ACall Gam 309 [v, w] h fun r h' => r = I (cmpL X Y) ∧ h' = h := by
 obtain ⟨b1, o1, z1, rfl, _, hm1, _, hc1⟩ := hv.ints
 obtain ⟨b2, o2, z2, rfl, _, hm2, _, hc2⟩ := hw.ints
 rw [maxLen_eq] at hm1 hm2
 refine ACall_intro g309 rfl ?_
 unfold fn309
 simp (disch := omega)
 refine awp_loop (fun k σ h' => h' = h ∧ k ≤ X.length ∧ k ≤ Y.length ∧ X.take k = Y.take k ∧ σ 0 = sl b1 o1 X.length z1 ∧ σ 1 = sl b2 o2 Y.length z2 ∧ σ 9 = sl b1 o1 X.length z1 ∧ σ 10 = I X.length ∧ σ 11 = I k) (fun k => X.length - k) 0 ?_ ?_
 ·simp
 ·rintro k σ h' ⟨rfl, hk, hk2, ht, q0, q1, q9, q10, q11⟩
  simp (disch := omega) [q10, q11]
  refine fork_dec (fun hlt => ?_) (fun hge => ?_)
  ·have k1 : k < X.length := by omega
   have d1 := ints_cell hc1 k1
   simp (disch := omega) [q0, q1, q9, q10, q11, k1, d1]
   refine fork_dec (fun hle => ?_) (fun hle => ?_)
   ·have ek : k = Y.length := by omega
    have := cmpL_end ht hk hk2 (.inr ek)
    simp (disch := omega)
    rw [this]
    unfold cmpI; rw [if_neg (by omega), if_pos (by omega)]
   ·have k2 : k < Y.length := by omega
    have d2 := ints_cell hc2 k2
    simp (disch := omega) [q0, q1, q9, q10, q11, k1, k2, d1, d2]
    refine callW_of (c59 h' X[k] Y[k]) ?_
    rintro _ h' ⟨rfl, rfl⟩
    simp (disch := omega) [q0, q1, q9, q10, q11]
    refine fork_dec (fun hz => ?_) (fun hz => ?_)
    ·have he := cmpI_zero.1 hz
     simp (disch := omega) [q0, q1, q9, q10, q11, wrap64]
     exact ⟨k + 1, ⟨by omega, by omega, take_more ht k1 k2 he, by omega⟩, by omega⟩
    ·simp (disch := omega)
     rw [cmpL_at ht k1 k2 (fun e => hz (cmpI_zero.2 e))]
  ·have ek : k = X.length := by omega
   have hce := cmpL_end ht hk hk2 (.inl ek)
   simp (disch := omega) [q0, q1]
   refine fork_dec (fun hlt => ?_) (fun hge => ?_)
   ·simp (disch := omega)
    rw [hce]; unfold cmpI; rw [if_pos (by omega)]
   ·simp (disch := omega)
    rw [hce, cmpI_same (by omega)]
theorem c478 (h : Heap) (v w : Value) (X Y : List Int) (hv : Vr h shInts v X) (hw : Vr h shInts w Y) : ACall Gam 478 [v, w] h fun r h' => r = I (cmpL X Y) ∧ h' = h := by
 obtain ⟨b1, o1, z1, rfl, _, hm1, _, hc1⟩ := hv.ints
 obtain ⟨b2, o2, z2, rfl, _, hm2, _, hc2⟩ := hw.ints
 rw [maxLen_eq] at hm1 hm2
 refine ACall_intro g478 rfl ?_
 unfold fn478
 simp (disch := omega)
 refine awp_loop (fun k σ h' => h' = h ∧ k ≤ X.length ∧ k ≤ Y.length ∧ X.take k = Y.take k ∧ σ 0 = sl b1 o1 X.length z1 ∧ σ 1 = sl b2 o2 Y.length z2 ∧ σ 5 = I k) (fun k => X.length - k) 0 ?_ ?_
 ·simp
 ·rintro k σ h' ⟨rfl, hk, hk2, ht, q0, q1, q5⟩
  have out : (k = X.length ∨ k = Y.length) → cmpL X Y = cmpI X.length Y.length := fun e => cmpL_end ht hk hk2 e
  have fin : ∀ e : k = X.length ∨ k = Y.length, cmpI (X.length : Int) Y.length = cmpL X Y := fun e => (out e).symm
  by_cases hlt : k < X.length
  ·have hl1 : (k : Int) < X.length := by omega
   by_cases hlt2 : k < Y.length
   ·have hl2 : (k : Int) < Y.length := by omega
    have d1 := ints_cell hc1 hlt
    have d2 := ints_cell hc2 hlt2
    simp (disch := omega) [q0, q1, q5, hl1, hl2, hlt, hlt2, d1, d2]
    refine fork_dec (fun hl => ?_) (fun hl => ?_)
    ·simp (disch := omega)
     rw [cmpL_at ht hlt hlt2 (by omega)]; unfold cmpI; rw [if_pos hl]
    ·simp (disch := omega) [q0, q1, q5, hlt, hlt2, d1, d2]
     refine fork_dec (fun hg => ?_) (fun hg => ?_)
     ·simp (disch := omega)
      rw [cmpL_at ht hlt hlt2 (by omega)]; unfold cmpI; rw [if_neg hl, if_pos hg]
     ·simp (disch := omega) [q0, q1, q5, wrap64]
      exact ⟨k + 1, ⟨by omega, by omega, take_more ht hlt hlt2 (by omega), by omega⟩, by omega⟩
   ·have hl2 : ¬ (k : Int) < Y.length := by omega
    have e := fin (.inr (by omega))
    have g1 : ¬ (X.length : Int) < Y.length := by omega
    have g2 : (Y.length : Int) < X.length := by omega
    simp (disch := omega) [q0, q1, q5, hl1, hl2, g1, g2]
    rw [← e]; unfold cmpI; rw [if_neg (by omega), if_pos (by omega)]
  ·have hl1 : ¬ (k : Int) < X.length := by omega
   have e := fin (.inl (by omega))
   by_cases g1 : (X.length : Int) < Y.length
   ·simp (disch := omega) [q0, q1, q5, hl1, g1]
    rw [← e]; unfold cmpI; rw [if_pos (by omega)]
   ·have g2 : ¬ (Y.length : Int) < X.length := by omega
    simp (disch := omega) [q0, q1, q5, hl1, g1, g2]
    rw [← e, cmpI_same (by omega)]
theorem c70 (h : Heap) (v w : Value) (X Y : Pan) (hv : Vr h shPanel v X) (hw : Vr h shPanel w Y) : ACall Gam 70 [v, w] h fun r h' => r = I (cmpP X Y) ∧ h' = h := by
 obtain ⟨W, H, br⟩ := X
 obtain ⟨W', H', br'⟩ := Y
 obtain ⟨s, rfl, w1, w2, r⟩ := hv.panel
 obtain ⟨s', rfl, w1', w2', r'⟩ := hw.panel
 refine ACall_intro g70 rfl ?_
 unfold fn70
 simp (disch := omega)
 refine callW_of (c152 h W W') ?_
 rintro _ h' ⟨rfl, rfl⟩
 simp (disch := omega)
 refine fork_dec (fun h1 => ?_) (fun h1 => ?_)
 ·simp (disch := omega)
  refine callW_of (c152 h' H H') ?_
  rintro _ h' ⟨rfl, rfl⟩
  simp (disch := omega)
  refine fork_dec (fun h2 => ?_) (fun h2 => ?_)
  ·simp (disch := omega)
   refine callW_of (c309 h' _ _ br br' r r') ?_
   rintro _ h' ⟨rfl, rfl⟩
   simp [cmpP, h1, h2]
  ·simp [cmpP, h1, h2]
 ·simp [cmpP, h1]
theorem cmpL_two (a b c d : Int) : cmpL [a, b] [c, d] = if cmpI a c ≠ 0 then cmpI a c else cmpI b d := by
 simp only [cmpL]
 by_cases h1 : cmpI a c = 0
 ·by_cases h2 : cmpI b d = 0
  ·simp [h1, h2]
  ·simp [h1, h2]
 ·simp [h1]
theorem c474 (h : Heap) (v w : Value) (X Y : Pan) (hv : PtP h v X) (hw : PtP h w Y) : ACall Gam 474 [v, w] h fun r h' => r = I (cmpP X Y) ∧ Grows h h' := by
 have hv0 := hv
 have hw0 := hw
 obtain ⟨W, H, br⟩ := X
 obtain ⟨W', H', br'⟩ := Y
 obtain ⟨b, o, s, rfl, x1, x2, x3, r, w1, w2⟩ := hv
 obtain ⟨b', o', s', rfl, y1, y2, y3, r', w1', w2'⟩ := hw
 simp only at x1 x2 x3 r w1 w2 y1 y2 y3 r' w1' w2'
 refine ACall_intro g474 rfl ?_
 unfold fn474
 have gy : Grows h (h ++ [⟨[Value.int .i64 W, Value.int .i64 H], true⟩]) := ⟨_, rfl⟩
 have y1' := gy.cell y1
 have y2' := gy.cell y2
 simp (disch := omega) [x1, x2, y1', y2', aBuildSlice]
 obtain ⟨h2, e2⟩ : ∃ h2, h2 = h ++ [⟨[I W, I H], true⟩, ⟨[I W', I H'], true⟩] := ⟨_, rfl⟩
 have k1 : h2[h.length]? = some ⟨ints [W, H], true⟩ := by rw [e2]; simp [ints]
 have k2 : h2[h.length + 1]? = some ⟨ints [W', H'], true⟩ := by rw [e2]; simp [ints]
 have g2 : Grows h h2 := ⟨_, e2⟩
 rw [← e2]
 have vr : ∀ (c : Nat) (p q : Int), I64 p → I64 q → h2[c]? = some ⟨ints [p, q], true⟩ → Vr h2 shInts (sl c 0 2 1) [p, q] := by
  intro c p q hp hq hc
  exact Vr.of_ints (b := c) (o := 0) (z := 1) (X := [p, q]) (.inl rfl) (by simp [maxLen_eq]) (by
   intro x hx
   simp at hx
   rcases hx with e | e <;> rw [e] <;> assumption) (.inr (by rw [cellsAt_of hc (by simp [ints])]; simp [ints]))
 refine callW_of (c478 h2 _ _ [W, H] [W', H'] (vr _ _ _ w1 w2 k1) (vr _ _ _ w1' w2' k2)) ?_
 rintro _ h3 ⟨rfl, rfl⟩
 simp (disch := omega)
 rw [cmpL_two]
 obtain ⟨z, ez⟩ : ∃ z, z = (if cmpI W W' ≠ 0 then cmpI W W' else cmpI H H') := ⟨_, rfl⟩
 have e1 : cmpP (W, H, br) (W', H', br') = if z = 0 then cmpL br br' else z := by
  rw [ez]; unfold cmpP
  by_cases h1 : cmpI W W' = 0 <;> by_cases h2 : cmpI H H' = 0 <;> simp [h1, h2]
 rw [e1, ← ez]
 by_cases hz : z = 0
 ·have x3' := g2.cell x3
  have y3' := g2.cell y3
  simp (disch := omega) [hz, x3', y3']
  refine callW_of (c478 h3 _ _ br br' (r.grow g2) (r'.grow g2)) ?_
  rintro _ h4 ⟨rfl, rfl⟩
  simp (disch := omega)
  exact g2
 ·simp (disch := omega) [hz]
  exact g2
theorem c147 (h : Heap) (hp : 0 < h.length) (v : Value) (X : Pan) (hv : Vr h shPanel v X) (ok : OkP X) : ACall Gam 147 [v] h fun r h' => Grows h h' ∧ Vo h' h.length h'.length shPanel r (canonP X) := by
 have hv0 := hv
 obtain ⟨W, H, br⟩ := X
 obtain ⟨s0, rfl, w1, w2, r0⟩ := hv.panel
 refine ACall_intro g147 rfl ?_
 unfold fn147
 simp (disch := omega)
 refine callW_of (c173 h hp _ (W, H, br) 0 hv0 ok (by omega)) ?_
 rintro v1 h1 ⟨g1, o1⟩
 rw [mapP_none ok] at o1
 obtain ⟨s1, rfl, _, _, _⟩ := o1.panel
 simp (disch := omega)
 refine awp_loop (fun (k : Nat) σ h' => k ≤ 7 ∧ Grows h h' ∧ σ 1 = .agg #[I W, I H, s0] ∧ σ 2 = .agg #[I 0, I 0, sl 0 0 0 0] ∧ σ 4 = I ((k : Int) + 1) ∧ Vo h' h.length h'.length shPanel (σ 3) (canonF (W, H, br) k)) (fun k => 7 - k) 0 ?_ ?_
 ·exact ⟨by omega, g1, by simp, by simp, by simp, by simpa [canonF] using o1⟩
 ·rintro k σ h' ⟨hk, g, q1, q2, q4, o⟩
  simp (disch := omega) [q4]
  refine fork_dec (fun hlt => ?_) (fun hge => ?_)
  ·have hl := g.le
   simp (disch := omega) [q1, q4]
   have hc := c173 h' (by omega) _ (W, H, br) (k + 1) (hv0.grow g) ok (by omega)
   rw [show ((k + 1 : Nat) : Int) = (k : Int) + 1 by omega] at hc
   refine callW_of hc ?_
   rintro v2 h2 ⟨g2, o2⟩
   obtain ⟨Y, hY⟩ : ∃ Y, Y = mapP (W, H, br) (k + 1) := ⟨_, rfl⟩
   obtain ⟨Z, hZ⟩ : ∃ Z, Z = canonF (W, H, br) k := ⟨_, rfl⟩
   have hn : canonF (W, H, br) (k + 1) = if cmpP Y Z < 0 then Y else Z := by rw [hY, hZ]; rfl
   rw [← hY] at o2
   rw [← hZ] at o
   have o' := o.grow g2
   obtain ⟨a, b, c, ev2⟩ := o2.vr.panel3
   obtain ⟨a', b', c', ev3⟩ := o.vr.panel3
   subst ev2
   simp (disch := omega) [q1, q2, q4, ev3]
   refine callW_of (c70 h2 _ _ Y Z o2.vr (by rw [← ev3]; exact o'.vr)) ?_
   rintro _ h2 ⟨rfl, rfl⟩
   simp (disch := omega)
   refine fork_dec (fun hc => ?_) (fun hc => ?_)
   ·rw [if_pos hc] at hn
    simp (disch := omega) [q1, q2, q4, ev3, wrap64]
    refine ⟨k + 1, ⟨by omega, g.trans g2, by omega, ?_⟩, by omega⟩
    rw [hn]; exact o2.wide (by omega) (Nat.le_refl _)
   ·rw [if_neg hc] at hn
    simp (disch := omega) [q1, q2, q4, ev3, wrap64]
    refine ⟨k + 1, ⟨by omega, g.trans g2, by omega, ?_⟩, by omega⟩
    rw [hn, ← ev3]; exact o'.wide (Nat.le_refl _) g2.le
  ·have hk7 : k = 7 := by omega
   subst hk7
   obtain ⟨a', b', c', ev3⟩ := o.vr.panel3
   simp (disch := omega) [q2, ev3]
   rw [ev3] at o
   exact ⟨g, o⟩
theorem c476 (h : Heap) (hp : 0 < h.length) (v : Value) (X : Pan) (hv : PtP h v X) (ok : OkP X) : ACall Gam 476 [v] h fun r h' => Grows h h' ∧ Vo h' h.length h'.length shPanel r (canonP X) := by
 have hv0 := hv
 have h128 := ok.siz
 obtain ⟨b0, o0, s0, rfl, _⟩ := hv
 refine ACall_intro g476 rfl ?_
 unfold fn476
 simp (disch := omega)
 refine callW_of (c453 h _ X hp hv0 (by omega)) ?_
 rintro v1 h1 ⟨g1, o1⟩
 refine ⟨fun e => (by cases e), ?_⟩
 obtain ⟨a1, b1, c1, e1⟩ := o1.vr.panel3
 subst e1
 have st1 := store_box (h := h1) (cs := [I 0, I 0, sl 0 0 0 0]) (xs := [a1, b1, c1]) rfl
 simp (disch := omega) [st1]
 have gb1 : Grows h1 (h1 ++ [⟨[a1, b1, c1], true⟩]) := ⟨_, rfl⟩
 obtain ⟨bo, hbo⟩ : ∃ bo, bo = h1.length := ⟨_, rfl⟩
 have hlb : h.length ≤ bo := by rw [hbo]; exact g1.le
 rw [← hbo]
 refine awp_loop (fun (k : Nat) σ h' => k ≤ 7 ∧ Grows h h' ∧ σ 0 = pt b0 o0 ∧ σ 2 = .agg #[I 0, I 0, sl 0 0 0 0] ∧ σ 3 = pt bo 0 ∧ σ 4 = I ((k : Int) + 1) ∧ ∃ a b c lo hi, h'[bo]? = some ⟨[a, b, c], true⟩ ∧ h.length ≤ lo ∧ hi ≤ h'.length ∧ (hi ≤ bo ∨ bo + 1 ≤ lo) ∧ Vo h' lo hi shPanel (.agg #[a, b, c]) (canonF X k)) (fun k => 7 - k) 0 ?_ ?_
 ·exact ⟨by omega, g1.trans gb1, by simp, by simp, by simp, by simp, a1, b1, c1, h.length, h1.length, by simp [hbo], Nat.le_refl _, by simp, .inl (by omega), by simpa [canonF] using o1.grow gb1⟩
 ·rintro k σ h' ⟨hk, g, q0, q2, q3, q4, a, b, c, lo, hi, kb, hlo, hhi, hd, o⟩
  have hp' := h128
  have ptp : ∀ {h : Heap} {bo : Nat} {a b c : Value} {Y : Pan}, h[bo]? = some ⟨[a, b, c], true⟩ → Vr h shPanel (.agg #[a, b, c]) Y → PtP h (pt bo 0) Y := by
   intro h bo a b c Y hb hv
   obtain ⟨W, H, br⟩ := Y
   obtain ⟨s, e, w1, w2, r⟩ := hv.panel
   simp at e
   obtain ⟨rfl, rfl, rfl⟩ := e
   exact PtP.at hb r w1 w2
  simp (disch := omega) [q4]
  refine fork_dec (fun hlt => ?_) (fun hge => ?_)
  ·have hl := g.le
   simp (disch := omega) [q0, q4]
   have hc := c477 h' (by omega) _ X (k + 1) (hv0.grow g) ok (by omega)
   rw [show ((k + 1 : Nat) : Int) = (k : Int) + 1 by omega] at hc
   refine callW_of hc ?_
   rintro v2 h2 ⟨g2, o2⟩
   refine ⟨fun e => (by cases e), ?_⟩
   obtain ⟨Y, hY⟩ : ∃ Y, Y = mapP X (k + 1) := ⟨_, rfl⟩
   obtain ⟨Z, hZ⟩ : ∃ Z, Z = canonF X k := ⟨_, rfl⟩
   have hn : canonF X (k + 1) = if cmpP Y Z < 0 then Y else Z := by rw [hY, hZ]; rfl
   rw [← hY] at o2
   rw [← hZ] at o
   obtain ⟨a2, b2, c2, e2⟩ := o2.vr.panel3
   subst e2
   have st2 := store_box (h := h2) (cs := [I 0, I 0, sl 0 0 0 0]) (xs := [a2, b2, c2]) rfl
   simp (disch := omega) [q3, st2]
   have gb2 : Grows h2 (h2 ++ [⟨[a2, b2, c2], true⟩]) := ⟨_, rfl⟩
   have kx : (h2 ++ [⟨[a2, b2, c2], true⟩])[h2.length]? = some ⟨[a2, b2, c2], true⟩ := by simp
   have kb2 := gb2.at (g2.at kb)
   have g3 := g2.trans gb2
   refine callW_of (c474 _ _ _ Y Z (ptp kx (o2.vr.grow gb2)) (ptp kb2 (o.vr.grow g3))) ?_
   rintro _ h3 ⟨rfl, g4⟩
   have kx3 := g4.at kx
   have kb3 := g4.at kb2
   have hl2 := g2.le
   have hl3 := g4.le
   rw [List.length_append] at hl3
   have hblt := at_lt kb
   have cx3 : cellsAt h3 h2.length 0 3 = some [a2, b2, c2] := cellsAt_all kx3 rfl
   simp (disch := omega)
   refine fork_dec (fun hc => ?_) (fun hc => ?_)
   ·rw [if_pos hc] at hn
    have st3 : storeAt h3 bo 0 [a2, b2, c2] = some (h3.set bo ⟨[a2, b2, c2], true⟩) := by simp [storeAt, kb3, splice]
    simp (disch := omega) [q0, q2, q3, q4, cx3, st3, wrap64]
    refine ⟨k + 1, ⟨by omega, (g.trans (g3.trans g4)).put hlb _, by omega, a2, b2, c2, by first | trivial | simp [at_lt kb3] | (intro; rfl), h'.length, by omega, h2.length, by first | omega | (simp; omega), .inr (by omega), ?_⟩, by omega⟩
    rw [hn]
    have hm : Mod bo (bo + 1) h3 (h3.set bo ⟨[a2, b2, c2], true⟩) := (Mod.refl _ _ _).put (by omega) _
    exact ((o2.grow gb2).grow g4).mod hm (.inr (by omega))
   ·rw [if_neg hc] at hn
    have kv3 : h3[bo]'(at_lt kb3) = ⟨[a, b, c], true⟩ := (List.getElem?_eq_some_iff.1 kb3).2
    simp (disch := omega) [q0, q2, q3, q4, wrap64]
    refine ⟨k + 1, ⟨by omega, g.trans (g3.trans g4), by omega, a, b, c, kv3, lo, hlo, hi, by omega, hd, ?_⟩, by omega⟩
    rw [hn]; exact (o.grow g3).grow g4
  ·have hk7 : k = 7 := by omega
   subst hk7
   have cb : cellsAt h' bo 0 3 = some [a, b, c] := cellsAt_all kb rfl
   simp (disch := omega) [q2, q3, cb]
   exact ⟨g, o.wide hlo hhi⟩
theorem c440 (c : UInt8) (h : Heap) : ACall Gam 440 [U c.toNat] h fun r h' => r = B (small c) ∧ h' = h := by
 refine ACall_intro g440 rfl ?_
 unfold fn440
 by_cases h1 : (97 : Int) ≤ c.toNat
 ·simp (disch := omega) [h1, small]
 ·simp (disch := omega) [h1, small]
theorem take_all {s : List UInt8} {k : Nat} (hk : k < s.length) : (s.take (k + 1)).all nameC = ((s.take k).all nameC && nameC (at8 s k)) := by
 rw [List.take_succ_eq_append_getElem hk, List.all_append, at8_eq hk]; simp
theorem take_not {s : List UInt8} {k : Nat} (hk : k < s.length) (h : nameC (at8 s k) = false) : s.all nameC = false := by
 rw [List.all_eq_false]
 exact ⟨s[k], List.getElem_mem hk, by rw [at8_eq hk, h]; simp⟩
theorem nameOk_not {s : List UInt8} {k : Nat} (hk : k < s.length) (h : nameC (at8 s k) = false) : nameOk s = false := by
 unfold nameOk; rw [take_not hk h]; simp
theorem name_dash (c : UInt8) : decide (c = 45) = decide ((c.toNat : Int) = 45) := by
 have : (c.toNat : Int) = 45 ↔ c = 45 := by
  have := u8_eq (a := c) (b := 45)
  exact this
 simp [this]
theorem c383 (h : Heap) (s : List UInt8) (hs : s.length ≤ 1048576) : ACall Gam 383 [S s] h fun r h' => r = B (nameOk s) ∧ h' = h := by
 refine ACall_intro g383 rfl ?_
 unfold fn383
 by_cases e0 : s = []
 ·subst e0
  simp (disch := omega) [nameOk]
 have l0 : 0 < s.length := List.length_pos_iff.2 e0
 by_cases e1 : ¬ s.length ≤ 12
 ·have e1' : (12 : Int) < s.length := by omega
  simp (disch := omega) [e0, e1', nameOk, e1]
 have e1' : ¬ (12 : Int) < s.length := by omega
 have e1 : s.length ≤ 12 := by omega
 have ha0 := at8_of l0
 simp (disch := omega) [e0, e1', l0, ha0, at8_eq l0]
 refine callW_of (c440 _ h) ?_
 rintro _ h' ⟨rfl, rfl⟩
 cases hsm : small (at8 s 0)
 ·simp (disch := omega) [nameOk, hsm]
 ·simp (disch := omega)
  refine awp_loop (fun (k : Nat) σ h'' => h'' = h' ∧ k ≤ s.length ∧ σ 0 = S s ∧ σ 3 = I k ∧ (s.take k).all nameC = true) (fun k => s.length - k) 0 ?_ ?_
  ·simp
  ·rintro k σ h'' ⟨rfl, hk, q0, q3, ha⟩
   simp (disch := omega) [q0, q3]
   refine fork_dec (fun hlt => ?_) (fun hge => ?_)
   ·have k1 : k < s.length := by omega
    have hat := at8_of k1
    have ht := take_all k1
    have hn := name_dash (at8 s k)
    simp (disch := omega) [q0, q3, k1, hat, at8_eq k1]
    refine callW_of (c440 _ h'') ?_
    rintro _ h' ⟨rfl, rfl⟩
    cases q1 : small (at8 s k)
    ·simp (disch := omega) [q0, q3, k1, hat, at8_eq k1]
     refine callW_of (c438 _ h') ?_
     rintro _ h' ⟨rfl, rfl⟩
     cases q2 : isDig (at8 s k)
     ·by_cases q4 : ((at8 s k).toNat : Int) = 45
      ·have hc : nameC (at8 s k) = true := by unfold nameC; rw [hn, q1, q2]; simp [q4]
       rw [ha, hc] at ht
       simp (disch := omega) [q0, q3, k1, hat, at8_eq k1, q4, wrap64]
       exact ⟨k + 1, ⟨by omega, by omega, by simpa using ht⟩, by omega⟩
      ·have hc : nameC (at8 s k) = false := by unfold nameC; rw [hn, q1, q2]; simp [q4]
       have := nameOk_not k1 hc
       simp (disch := omega) [q0, q3, k1, hat, at8_eq k1, q4, wrap64, this]
     ·have hc : nameC (at8 s k) = true := by unfold nameC; rw [q1, q2]; simp
      rw [ha, hc] at ht
      simp (disch := omega) [q0, q3, wrap64]
      exact ⟨k + 1, ⟨by omega, by omega, by simpa using ht⟩, by omega⟩
    ·have hc : nameC (at8 s k) = true := by unfold nameC; rw [q1]; simp
     rw [ha, hc] at ht
     simp (disch := omega) [q0, q3, wrap64]
     exact ⟨k + 1, ⟨by omega, by omega, by simpa using ht⟩, by omega⟩
   ·have : k = s.length := by omega
    subst this
    rw [List.take_length] at ha
    simp only [List.all_eq_true] at ha
    simp (disch := omega) [nameOk, hsm, e1]
    exact ⟨by omega, ha⟩
theorem isDig_eq (c : UInt8) : isDig c = (!(decide ((c.toNat : Int) < 48) || decide ((57 : Int) < c.toNat))) := by
 unfold isDig
 by_cases a : (48 : Int) ≤ c.toNat <;> by_cases b : (c.toNat : Int) ≤ 57
 all_goals
  simp [a, b]
  try omega
theorem c90 (h : Heap) (s : List UInt8) (hs : s.length ≤ 1048576) : ACall Gam 90 [S s] h fun r h' => r = B (nameOk s) ∧ h' = h := by
 refine ACall_intro g90 rfl ?_
 unfold fn90
 by_cases e0 : s.length < 1
 ·have e0' : (s.length : Int) < 1 := by omega
  simp (disch := omega) [nameOk, e0', show ¬ 1 ≤ s.length by omega]
 have e0' : ¬ (s.length : Int) < 1 := by omega
 by_cases e1 : ¬ s.length ≤ 12
 ·have e1' : (12 : Int) < s.length := by omega
  simp (disch := omega) [e0', e1', nameOk, e1]
 have e1' : ¬ (12 : Int) < s.length := by omega
 have e1 : s.length ≤ 12 := by omega
 simp (disch := omega) [e0', e1']
 refine awp_loop (fun (k : Nat) σ h'' => h'' = h ∧ k ≤ s.length ∧ σ 0 = S s ∧ σ 14 = I s.length ∧ σ 15 = I k ∧ (s.take k).all nameC = true ∧ (0 < k → small (at8 s 0) = true)) (fun k => s.length - k) 0 ?_ ?_
 ·simp
 ·rintro k σ h'' ⟨rfl, hk, q0, q14, q15, ha, hsm⟩
  simp (disch := omega) [q14, q15]
  refine fork_dec (fun hlt => ?_) (fun hge => ?_)
  ·have k1 : k < s.length := by omega
   have hat := at8_of k1
   have ht := take_all k1
   have hn := name_dash (at8 s k)
   have hd := isDig_eq (at8 s k)
   obtain ⟨c, hc⟩ : ∃ c : Int, c = ((at8 s k).toNat : Int) := ⟨_, rfl⟩
   have hnot : nameC (at8 s k) = false ∨ k = 0 ∧ small (at8 s k) = false → nameOk s = false := by
    rintro (q | ⟨q, q'⟩)
    ·exact nameOk_not k1 q
    ·subst q; unfold nameOk; rw [q']; simp
   have hyes : nameC (at8 s k) = true → (s.take (k + 1)).all nameC = true := by intro q; rw [ht, ha, q]; rfl
   have hsmall : small (at8 s k) = (decide ((97 : Int) ≤ c) && decide (c ≤ 122)) := by rw [hc]; rfl
   rw [← hc] at hn hd
   by_cases p1 : (97 : Int) ≤ c ∧ c ≤ 122
   ·have hs1 : small (at8 s k) = true := by rw [hsmall]; simp [p1.1, p1.2]
    have hnc : nameC (at8 s k) = true := by unfold nameC; rw [hs1]; rfl
    simp (disch := omega) [q0, q14, q15, k1, hat, at8_eq k1, ← hc, p1.1, p1.2, wrap64]
    refine ⟨k + 1, ⟨by omega, by omega, by simpa using hyes hnc, fun _ => ?_⟩, by omega⟩
    by_cases e : k = 0
    ·subst e; exact hs1
    ·exact hsm (by omega)
   ·have hs1 : small (at8 s k) = false := by
     rw [hsmall]; rw [Bool.and_eq_false_iff]; simp only [decide_eq_false_iff_not]; omega
    have step : ∀ {x : Int} {K : Prop}, True := fun {_ _} => trivial
    by_cases e : k = 0
    ·subst e
     have := hnot (.inr ⟨rfl, hs1⟩)
     by_cases p2 : (97 : Int) ≤ c
     ·have p3 : ¬ c ≤ 122 := fun x => p1 ⟨p2, x⟩
      simp (disch := omega) [q0, q14, q15, k1, hat, at8_eq k1, ← hc, p2, p3, this]
     ·simp (disch := omega) [q0, q14, q15, k1, hat, at8_eq k1, ← hc, p2, this]
    ·have e' : ¬ (k : Int) = 0 := by omega
     by_cases p4 : c = 45
     ·have hnc : nameC (at8 s k) = true := by unfold nameC; rw [hn]; simp [p4]
      have hy := hyes hnc
      by_cases p2 : (97 : Int) ≤ c
      ·omega
      ·simp (disch := omega) [q0, q14, q15, k1, hat, at8_eq k1, ← hc, p2, e, e', p4, wrap64]
       exact ⟨k + 1, ⟨by omega, by omega, by simpa using hy, fun _ => hsm (by omega)⟩, by omega⟩
     ·by_cases p5 : c < 48
      ·have hnc : nameC (at8 s k) = false := by unfold nameC; rw [hn, hs1, hd]; simp [p4, p5]
       have := hnot (.inl hnc)
       by_cases p2 : (97 : Int) ≤ c
       ·omega
       ·simp (disch := omega) [q0, q14, q15, k1, hat, at8_eq k1, ← hc, p2, e, e', p4, p5, this]
      ·by_cases p6 : 57 < c
       ·have hnc : nameC (at8 s k) = false := by unfold nameC; rw [hn, hs1, hd]; simp [p4, p5, p6]
        have := hnot (.inl hnc)
        by_cases p2 : (97 : Int) ≤ c
        ·have p3 : ¬ c ≤ 122 := fun x => p1 ⟨p2, x⟩
         simp (disch := omega) [q0, q14, q15, k1, hat, at8_eq k1, ← hc, p2, p3, e, e', p4, p5, p6, this]
        ·simp (disch := omega) [q0, q14, q15, k1, hat, at8_eq k1, ← hc, p2, e, e', p4, p5, p6, this]
       ·have hnc : nameC (at8 s k) = true := by unfold nameC; rw [hn, hs1, hd]; simp [p4, p5, p6]
        have hy := hyes hnc
        by_cases p2 : (97 : Int) ≤ c
        ·omega
        ·simp (disch := omega) [q0, q14, q15, k1, hat, at8_eq k1, ← hc, p2, e, e', p4, p5, p6, wrap64]
         exact ⟨k + 1, ⟨by omega, by omega, by simpa using hy, fun _ => hsm (by omega)⟩, by omega⟩
  ·have : k = s.length := by omega
   subst this
   rw [List.take_length] at ha
   have := hsm (by omega)
   simp only [List.all_eq_true] at ha
   simp (disch := omega) [nameOk, this, e1]
   exact ⟨by omega, ha⟩
/-- A library's entries are there. -/
def KAt (h : Heap) (b o z : Nat) (X : Lib) : Prop := (X.length ≤ maxLen ∧ (z = 4 ∨ b = 0)) ∧ ∀ i (hi : i < X.length), ∃ s, cellsAt h b (o + i * 4) 4 = some [S X[i].1, I X[i].2.1, I X[i].2.2.1, s] ∧ Vr h shInts s X[i].2.2.2 ∧ I64 X[i].2.1 ∧ I64 X[i].2.2.1 ∧ X[i].1.length ≤ 9223372036854775807
theorem Vr.kat {h : Heap} {v : Value} {X : Lib} (x : Vr h shKepts v X) : ∃ b o z, v = sl b o X.length z ∧ KAt h b o z X := by
 have x0 := x
 obtain ⟨b, o, z, rfl, hm, hel⟩ := kepts_at x
 have hz : z = 4 ∨ b = 0 := by
  obtain ⟨b', o', z', e, hz', _⟩ := x0.slice
  simp at e
  obtain ⟨⟨rfl, rfl⟩, rfl⟩ := e
  exact hz'.imp id fun q => q.1
 refine ⟨b, o, z, rfl, ⟨hm, hz⟩, fun i hi => ?_⟩
 obtain ⟨s, c1, r1, vk⟩ := hel i hi
 obtain ⟨_, _, w0, w1, w2, _⟩ := vk.kept
 exact ⟨s, c1, r1, w1, w2, w0⟩
theorem KAt.grow {h h' : Heap} {b o z : Nat} {X : Lib} (x : KAt h b o z X) (g : Grows h h') : KAt h' b o z X :=
 ⟨x.1, fun i hi => by
  obtain ⟨s, c, r, w⟩ := x.2 i hi
  exact ⟨s, g.cellsAt c, r.grow g, w⟩⟩
theorem KAt.take {h : Heap} {b o z : Nat} {X : Lib} (x : KAt h b o z X) (i : Nat) : KAt h b o z (X.take i) :=
 ⟨⟨by rw [List.length_take]; have := x.1.1; omega, x.1.2⟩, fun j hj => by
  have hj' : j < X.length := by rw [List.length_take] at hj; omega
  obtain ⟨s, c, r, w⟩ := x.2 j hj'
  refine ⟨s, ?_, ?_, ?_⟩ <;> simp only [List.getElem_take] <;> assumption⟩
theorem KAt.cells {h : Heap} {b o z : Nat} {X : Lib} (x : KAt h b o z X) {i : Nat} (hi : i < X.length) : ∃ s, cellsAt h b (o + i * 4) 4 = some [S X[i].1, I X[i].2.1, I X[i].2.2.1, s] ∧ cell h b (o + i * 4) = some (S X[i].1) ∧ Vr h shPanel (.agg #[I X[i].2.1, I X[i].2.2.1, s]) X[i].2 ∧ PtP h (pt b (o + i * 4 + 1)) X[i].2 ∧ Vr h shInts s X[i].2.2.2 ∧ I64 X[i].2.1 ∧ I64 X[i].2.2.1 := by
 obtain ⟨s, c, r, w1, w2, w0⟩ := x.2 i hi
 have a1 := (cell_in (i := 0) c (by omega)).1
 have a2 := (cell_in (i := 1) c (by omega)).1
 have a3 := (cell_in (i := 2) c (by omega)).1
 have a4 := (cell_in (i := 3) c (by omega)).1
 refine ⟨s, c, by simpa using a1, Vr.of_panel w1 w2 r, ⟨b, o + i * 4 + 1, s, rfl, by simpa using a2, by simpa [Nat.add_assoc] using a3, by simpa [Nat.add_assoc] using a4, r, w1, w2⟩, r, w1, w2⟩
theorem like_at {X : Lib} {p : Pan} {k : Nat} (hk : k < X.length) (h : X[k].2 = p) (hn : ∀ j (hj : j < X.length), j < k → X[j].2 ≠ p) : likeN X p = k := by
 unfold likeN
 rw [List.findIdx_eq hk]
 exact ⟨by simp [h], fun j hj => by simp [hn j (by omega) hj]⟩
theorem like_none {X : Lib} {p : Pan} (hn : ∀ j (hj : j < X.length), X[j].2 ≠ p) : likeN X p = X.length := by
 unfold likeN
 rw [List.findIdx_eq_length]
 intro x hx
 obtain ⟨j, hj, rfl⟩ := List.getElem_of_mem hx
 simp [hn j hj]
theorem name_at {X : Lib} {p : List UInt8} {k : Nat} (hk : k < X.length) (h : X[k].1 = p) (hn : ∀ j (hj : j < X.length), j < k → X[j].1 ≠ p) : nameN X p = k := by
 unfold nameN
 rw [List.findIdx_eq hk]
 exact ⟨by simp [h], fun j hj => by simp [hn j (by omega) hj]⟩
theorem name_none {X : Lib} {p : List UInt8} (hn : ∀ j (hj : j < X.length), X[j].1 ≠ p) : nameN X p = X.length := by
 unfold nameN
 rw [List.findIdx_eq_length]
 intro x hx
 obtain ⟨j, hj, rfl⟩ := List.getElem_of_mem hx
 simp [hn j hj]
theorem c539 (h : Heap) (b o z : Nat) (X : Lib) (hX : KAt h b o z X) (w : Value) (p : Pan) (hw : PtP h w p) : ACall Gam 539 [sl b o X.length z, w] h fun r h' => r = I (ixI (likeN X p) X.length) ∧ h' = h := by
 have hm := hX.1.1
 rw [maxLen_eq] at hm
 refine ACall_intro g539 rfl ?_
 unfold fn539
 simp (disch := omega)
 refine awp_loop (fun k σ h' => h' = h ∧ k ≤ X.length ∧ (∀ j (hj : j < X.length), j < k → X[j].2 ≠ p) ∧ σ 0 = sl b o X.length z ∧ σ 1 = w ∧ σ 5 = I k) (fun k => X.length - k) 0 ?_ ?_
 ·simp
 ·rintro k σ h' ⟨rfl, hk, hn, q0, q1, q5⟩
  simp (disch := omega) [q0, q5]
  refine fork_dec (fun hlt => ?_) (fun hge => ?_)
  ·have k1 : k < X.length := by omega
   obtain ⟨s, c, c1, vp, pp, _⟩ := hX.cells k1
   simp (disch := omega) [q0, q1, q5, k1]
   refine callW_of (c456 h' _ _ X[k].2 p pp hw) ?_
   rintro _ h' ⟨rfl, rfl⟩
   refine ⟨fun e => (by cases e), ?_⟩
   show fork Gam (.bool (decide (X[k].2 = p))) _ _
   refine fork_dec (fun he => ?_) (fun he => ?_)
   ·have := like_at k1 he hn
    simp (disch := omega) [q5, this, ixI, k1]
   ·simp (disch := omega) [q0, q1, q5, wrap64]
    refine ⟨k + 1, ⟨by omega, fun j hj hlt => ?_, by omega⟩, by omega⟩
    by_cases e : j = k
    ·subst e; exact he
    ·exact hn j hj (by omega)
  ·have := like_none fun j hj => hn j hj (by omega)
   simp (disch := omega) [ixI, this]
theorem c538 (h : Heap) (b o z : Nat) (X : Lib) (hX : KAt h b o z X) (p : List UInt8) : ACall Gam 538 [sl b o X.length z, S p] h fun r h' => r = I (ixI (nameN X p) X.length) ∧ h' = h := by
 have hm := hX.1.1
 rw [maxLen_eq] at hm
 refine ACall_intro g538 rfl ?_
 unfold fn538
 simp (disch := omega)
 refine awp_loop (fun k σ h' => h' = h ∧ k ≤ X.length ∧ (∀ j (hj : j < X.length), j < k → X[j].1 ≠ p) ∧ σ 0 = sl b o X.length z ∧ σ 1 = S p ∧ σ 5 = I k) (fun k => X.length - k) 0 ?_ ?_
 ·simp
 ·rintro k σ h' ⟨rfl, hk, hn, q0, q1, q5⟩
  simp (disch := omega) [q0, q5]
  refine fork_dec (fun hlt => ?_) (fun hge => ?_)
  ·have k1 : k < X.length := by omega
   obtain ⟨s, c, c1, vp, pp, _⟩ := hX.cells k1
   simp (disch := omega) [q0, q1, q5, k1, c1]
   refine fork_dec (fun he => ?_) (fun he => ?_)
   ·have := name_at k1 he hn
    simp (disch := omega) [q5, this, ixI, k1]
   ·simp (disch := omega) [q0, q1, q5, wrap64]
    refine ⟨k + 1, ⟨by omega, fun j hj hlt => ?_, by omega⟩, by omega⟩
    by_cases e : j = k
    ·subst e; exact he
    ·exact hn j hj (by omega)
  ·have := name_none fun j hj => hn j hj (by omega)
   simp (disch := omega) [ixI, this]
/-- A test that a list's entries are put to. -/
theorem c315 (h : Heap) (b o z : Nat) (X : Lib) (hX : KAt h b o z X) (F : Nat) (cap : Value) (T : Kpt → Bool) (hT : ∀ i (hi : i < X.length) s, cellsAt h b (o + i * 4) 4 = some [S X[i].1, I X[i].2.1, I X[i].2.2.1, s] → ACall Gam F [.agg #[S X[i].1, I X[i].2.1, I X[i].2.2.1, s], cap] h fun r h' => r = B (T X[i]) ∧ h' = h) :
  ACall Gam 315 [sl b o X.length z, .func (.func F) #[] #[cap]] h fun r h' => r = I (ixI (X.findIdx T) X.length) ∧ h' = h := by
 have hm := hX.1.1
 rw [maxLen_eq] at hm
 refine ACall_intro g315 rfl ?_
 unfold fn315
 simp (disch := omega)
 refine awp_loop (fun k σ h' => h' = h ∧ k ≤ X.length ∧ (∀ j (hj : j < X.length), j < k → T X[j] = false) ∧ σ 0 = sl b o X.length z ∧ σ 1 = .func (.func F) #[] #[cap] ∧ σ 7 = I X.length ∧ σ 8 = I k) (fun k => X.length - k) 0 ?_ ?_
 ·simp
 ·rintro k σ h' ⟨rfl, hk, hn, q0, q1, q7, q8⟩
  simp (disch := omega) [q7, q8]
  refine fork_dec (fun hlt => ?_) (fun hge => ?_)
  ·have k1 : k < X.length := by omega
   obtain ⟨s, c, c1, vp, pp, _⟩ := hX.cells k1
   simp (disch := omega) [q0, q1, q8, k1, c]
   refine callW_of (hT k k1 s c) ?_
   rintro _ h' ⟨rfl, rfl⟩
   cases he : T X[k]
   ·simp (disch := omega) [q0, q1, q7, q8, wrap64]
    refine ⟨k + 1, ⟨by omega, fun j hj hlt => ?_, by omega⟩, by omega⟩
    by_cases e : j = k
    ·subst e; exact he
    ·exact hn j hj (by omega)
   ·have : X.findIdx T = k := by
     rw [List.findIdx_eq k1]
     exact ⟨he, fun j hj => hn j (by omega) hj⟩
    simp (disch := omega) [q8, this, ixI, k1]
  ·have : X.findIdx T = X.length := by
    rw [List.findIdx_eq_length]
    intro x hx
    obtain ⟨j, hj, rfl⟩ := List.getElem_of_mem hx
    exact hn j hj (by omega)
   simp (disch := omega) [ixI, this]
theorem c162 (h : Heap) (n : List UInt8) (W H : Int) (s : Value) (b o : Nat) (s' : Value) (X p : Pan) (hv : Vr h shPanel (.agg #[I W, I H, s]) X) (cl : cellsAt h b o 3 = some [I p.1, I p.2.1, s']) (hw : Vr h shPanel (.agg #[I p.1, I p.2.1, s']) p) : ACall Gam 162 [.agg #[S n, I W, I H, s], pt b o] h fun r h' => r = B (decide (X = p)) ∧ h' = h := by
 refine ACall_intro g162 rfl ?_
 unfold fn162
 simp (disch := omega) [cl]
 refine callW_of (c130 h _ _ X p hv hw) ?_
 rintro _ h' ⟨rfl, rfl⟩
 simp [samP]
theorem c160 (h : Heap) (n : List UInt8) (W H : Int) (s : Value) (b o : Nat) (p : List UInt8) (cl : cell h b o = some (S p)) : ACall Gam 160 [.agg #[S n, I W, I H, s], pt b o] h fun r h' => r = B (decide (n = p)) ∧ h' = h := by
 refine ACall_intro g160 rfl ?_
 unfold fn160
 simp (disch := omega) [cl]
theorem c161 (h : Heap) (b o z : Nat) (X : Lib) (hX : KAt h b o z X) (w : Value) (p : Pan) (hw : Vr h shPanel w p) : ACall Gam 161 [sl b o X.length z, w] h fun r h' => r = I (ixI (likeN X p) X.length) ∧ Grows h h' := by
 obtain ⟨W, H, br⟩ := p
 obtain ⟨s', rfl, w1, w2, r⟩ := hw.panel
 refine ACall_intro g161 rfl ?_
 unfold fn161
 simp (disch := omega)
 obtain ⟨h1, e1⟩ : ∃ h1, h1 = h ++ [⟨[I W, I H, s'], true⟩] := ⟨_, rfl⟩
 rw [← e1]
 have g1 : Grows h h1 := ⟨_, e1⟩
 have kb : h1[h.length]? = some ⟨[I W, I H, s'], true⟩ := by rw [e1]; simp
 refine callW_of (c315 h1 b o z X (hX.grow g1) 162 (pt h.length 0) (fun k => decide (k.2 = (W, H, br))) fun i hi s c => ?_) ?_
 ·obtain ⟨s2, c2, _, vp, _⟩ := (hX.grow g1).cells hi
  rw [c] at c2
  simp at c2
  subst c2
  exact c162 h1 _ _ _ s h.length 0 s' X[i].2 (W, H, br) vp (cellsAt_all kb rfl) (Vr.of_panel w1 w2 (r.grow g1))
 ·rintro _ h2 ⟨rfl, rfl⟩
  simp (disch := omega)
  exact ⟨rfl, g1⟩
theorem c159 (h : Heap) (b o z : Nat) (X : Lib) (hX : KAt h b o z X) (p : List UInt8) : ACall Gam 159 [sl b o X.length z, S p] h fun r h' => r = I (ixI (nameN X p) X.length) ∧ Grows h h' := by
 refine ACall_intro g159 rfl ?_
 unfold fn159
 simp (disch := omega)
 obtain ⟨h1, e1⟩ : ∃ h1, h1 = h ++ [⟨[S p], true⟩] := ⟨_, rfl⟩
 rw [← e1]
 have g1 : Grows h h1 := ⟨_, e1⟩
 have kb : h1[h.length]? = some ⟨[S p], true⟩ := by rw [e1]; simp
 refine callW_of (c315 h1 b o z X (hX.grow g1) 160 (pt h.length 0) (fun k => decide (k.1 = p)) fun i hi s c => ?_) ?_
 ·exact c160 h1 _ _ _ s h.length 0 p (by simp [cell, kb])
 ·rintro _ h2 ⟨rfl, rfl⟩
  simp (disch := omega)
  exact ⟨rfl, g1⟩
theorem ent_eq {X : Lib} {k : Nat} (hk : k < X.length) : entOk X k = (nameOk X[k].1 && (okP X[k].2 && ((decide (k = 0) || lexLt (kN X (k - 1)) X[k].1) && (samP (canonP X[k].2) X[k].2 && decide (likeN (X.take k) X[k].2 = k))))) := by
 unfold entOk; rw [kN_of hk, kP_of hk]
theorem like_take {X : Lib} {k : Nat} (hk : k ≤ X.length) {p : Pan} (hn : ∀ j (hj : j < X.length), j < k → X[j].2 ≠ p) : likeN (X.take k) p = k := by
 have : likeN (X.take k) p = (X.take k).length := like_none fun j hj => by
  rw [List.length_take] at hj
  rw [List.getElem_take]; exact hn j (by omega) (by omega)
 rw [this, List.length_take]; omega
theorem like_took {X : Lib} {k j : Nat} (hk : k < X.length) (hj : j < k) (he : X[j].2 = X[k].2) : likeN (X.take k) X[k].2 ≠ k := by
 have : likeN (X.take k) X[k].2 < (X.take k).length := by
  rw [likeN_lt]
  exact ⟨X[j], List.mem_take_iff_getElem.2 ⟨j, by omega, rfl⟩, he⟩
 rw [List.length_take] at this
 omega
theorem KAt.short {X : Lib} (hs : siz shKepts X ≤ 1048576) {k : Nat} (hk : k < X.length) : X[k].1.length ≤ 1048576 := by
 have h1 := sizL_take hk
 have h2 := sizL_le X (k + 1)
 rw [siz_kepts] at hs
 have h3 : siz shKept X[k] = X[k].1.length + X[k].2.2.2.length := siz_kept _ _ _ _
 omega
theorem c541 (h : Heap) (hp : 0 < h.length) (b o z : Nat) (X : Lib) (hX : KAt h b o z X) (hs : ∀ k (hk : k < X.length), X[k].1.length ≤ 1048576) : ACall Gam 541 [sl b o X.length z] h fun r h' => r = B (keptOk X) ∧ Grows h h' := by
 have hm := hX.1.1
 rw [maxLen_eq] at hm
 refine ACall_intro g541 rfl ?_
 unfold fn541
 simp (disch := omega)
 refine awp_loop (fun k σ h' => Grows h h' ∧ k ≤ X.length ∧ allEnt X k = true ∧ σ 0 = sl b o X.length z ∧ σ 3 = I k) (fun k => X.length - k) 0 ?_ ?_
 ·exact ⟨Grows.refl _, by omega, rfl, by simp, by simp⟩
 ·rintro k σ h' ⟨g, hk, ha, q0, q3⟩
  simp (disch := omega) [q0, q3]
  refine fork_dec (fun hlt => ?_) (fun hge => ?_)
  ·have k1 : k < X.length := by omega
   have hX' := hX.grow g
   obtain ⟨s, c, c1, vp, pp, _⟩ := hX'.cells k1
   have bad : entOk X k = false → keptOk X = false := fun e => keptOk_not k1 e
   rw [ent_eq k1] at bad
   simp (disch := omega) [q0, q3, k1, c1]
   refine callW_of (c383 h' X[k].1 (hs k k1)) ?_
   rintro _ h1 ⟨rfl, rfl⟩
   cases e1 : nameOk X[k].1
   ·have := bad (by rw [e1]; rfl)
    simp (disch := omega) [this, g]
   simp (disch := omega)
   refine callW_of (c452 _ X[k].2 h1 pp) ?_
   rintro _ h1 ⟨rfl, rfl⟩
   cases e2 : okP X[k].2
   ·have := bad (by rw [e1, e2]; rfl)
    simp (disch := omega) [this, g]
   have ok := okP_iff.1 e2
   refine ⟨fun e => (by cases e), ?_⟩
   generalize hK : seqQ Gam (Code.cond (Operand.tmp 45) _ _) _ = K
   have main : (k = 0 ∨ lexLt (kN X (k - 1)) X[k].1 = true) → ∀ σ, σ 0 = sl b o X.length z → σ 3 = I k → σ 4 = pt b (o + k * 4) → σ 45 = B false → K 0 σ h1 := by
    intro hord σ p0 p3 p4 p45
    have hordb : (decide (k = 0) || lexLt (kN X (k - 1)) X[k].1) = true := by
     rcases hord with q | q
     ·simp [q]
     ·simp [q]
    subst hK
    simp (disch := omega) [p4, p45]
    have hl1 := g.le
    refine callW_of (c476 h1 (by omega) _ X[k].2 pp ok) ?_
    rintro v2 h2 ⟨g2, o2⟩
    refine ⟨fun e => (by cases e), ?_⟩
    obtain ⟨Y, hY⟩ : ∃ Y, Y = canonP X[k].2 := ⟨_, rfl⟩
    rw [← hY] at o2 bad
    obtain ⟨W2, H2, br2⟩ := Y
    obtain ⟨s2, rfl, u1, u2, r2⟩ := o2.panel
    have st2 := store_box (h := h2) (cs := [I 0, I 0, sl 0 0 0 0]) (xs := [I W2, I H2, s2]) rfl
    simp (disch := omega) [st2, p4]
    obtain ⟨h3, e3⟩ : ∃ h3, h3 = h2 ++ [⟨[I W2, I H2, s2], true⟩] := ⟨_, rfl⟩
    rw [← e3]
    have g23 : Grows h2 h3 := ⟨_, e3⟩
    have g13 := g2.trans g23
    have kb3 : h3[h2.length]? = some ⟨[I W2, I H2, s2], true⟩ := by rw [e3]; simp
    refine callW_of (c456 h3 _ _ (W2, H2, br2) X[k].2 (PtP.at kb3 (r2.vr.grow g23) u1 u2) (pp.grow g13)) ?_
    rintro _ h3 ⟨rfl, rfl⟩
    cases e4 : samP (W2, H2, br2) X[k].2
    ·have := bad (by rw [e1, e2, hordb, e4]; rfl)
     simp (disch := omega) [this]
     exact g.trans g13
    have g3 := g.trans g13
    simp (disch := omega)
    refine awp_loop (fun j σ h'' => h'' = h3 ∧ j ≤ k ∧ (∀ i (hi : i < X.length), i < j → X[i].2 ≠ X[k].2) ∧ σ 0 = sl b o X.length z ∧ σ 3 = I k ∧ σ 4 = pt b (o + k * 4) ∧ σ 6 = I j) (fun j => k - j) 0 ?_ ?_
    ·simp [p0, p3, p4]
    ·rintro j σ h'' ⟨rfl, hj, hn, r0, r3, r4, r6⟩
     simp (disch := omega) [r3, r6]
     refine fork_dec (fun hjlt => ?_) (fun hjge => ?_)
     ·have j1 : j < X.length := by omega
      obtain ⟨sj, _, _, _, ppj, _⟩ := hX'.cells j1
      simp (disch := omega) [r0, r4, r6, j1]
      refine callW_of (c456 h'' _ _ X[j].2 X[k].2 (ppj.grow g13) (pp.grow g13)) ?_
      rintro _ h'' ⟨rfl, rfl⟩
      refine ⟨fun e => (by cases e), ?_⟩
      show fork Gam (.bool (decide (X[j].2 = X[k].2))) _ _
      refine fork_dec (fun he => ?_) (fun he => ?_)
      ·have hne := like_took k1 (show j < k by omega) he
       have := bad (by rw [e1, e2, hordb, e4]; simp [hne])
       simp (disch := omega) [this, g3]
      ·simp (disch := omega) [r0, r3, r4, r6, wrap64]
       refine ⟨j + 1, ⟨by omega, fun i hi hlt => ?_, by omega⟩, by omega⟩
       by_cases e : i = j
       ·subst e; exact he
       ·exact hn i hi (by omega)
     ·have hjk : j = k := by omega
      subst hjk
      have hlk := like_take hk hn
      have hent : entOk X j = true := by
       rw [ent_eq k1, e1, e2, hordb, ← hY, e4, hlk]; simp
      have hall := allEnt_succ X j
      rw [ha, hent] at hall
      simp (disch := omega) [r0, r3, wrap64]
      exact ⟨j + 1, ⟨g3, by omega, by simpa using hall, by omega⟩, by omega⟩
   by_cases hk0 : k = 0
   ·subst hk0
    simp (disch := omega) [q3]
    exact main (.inl rfl) _ (by simp [q0]) (by simp [q3]) (by simp) (by simp)
   ·obtain ⟨q, rfl⟩ : ∃ q, k = q + 1 := ⟨k - 1, by omega⟩
    rw [Nat.add_sub_cancel] at bad main
    have k2 : q < X.length := by omega
    obtain ⟨s', c', c1', _⟩ := hX'.cells (i := q) k2
    have i1 : (q : Int) + 1 - 1 = q := by omega
    have i2 : (0 : Int) < (q : Int) + 1 := by omega
    cases e3 : lexLt X[q].1 X[q + 1].1
    ·have := bad (by rw [e1, e2, kN_of k2, e3]; simp)
     simp (disch := omega) [q0, q3, wrap64, i1, i2, k2, c1, c1', e3]
     subst hK
     simp (disch := omega) [this, g]
    ·simp (disch := omega) [q0, q3, wrap64, i1, i2, k2, c1, c1', e3]
     exact main (.inr (by rw [kN_of k2]; exact e3)) _ (by simp [q0]) (by simp [q3]) (by simp) (by simp)
  ·have : k = X.length := by omega
   subst this
   simp (disch := omega) [q0]
   refine ⟨?_, g⟩
   simp [keptOk, ha]
   omega
theorem c139 (h : Heap) (hp : 0 < h.length) (b o z : Nat) (X : Lib) (hX : KAt h b o z X) (hs : ∀ k (hk : k < X.length), X[k].1.length ≤ 1048576) : ACall Gam 139 [sl b o X.length z] h fun r h' => r = B (keptOk X) ∧ Grows h h' := by
 have hm := hX.1.1
 rw [maxLen_eq] at hm
 have hz0 := hX.1.2
 refine ACall_intro g139 rfl ?_
 unfold fn139
 by_cases h40 : (40 : Int) < X.length
 ·have : ¬ X.length ≤ 40 := by omega
  simp (disch := omega) [h40, keptOk, this]
  exact Grows.refl _
 simp (disch := omega) [h40]
 refine awp_loop (fun k σ h' => Grows h h' ∧ k ≤ X.length ∧ allEnt X k = true ∧ σ 0 = sl b o X.length z ∧ σ 8 = sl b o X.length z ∧ σ 9 = I X.length ∧ σ 10 = I k) (fun k => X.length - k) 0 ?_ ?_
 ·exact ⟨Grows.refl _, by omega, rfl, by simp, by simp, by simp, by simp⟩
 ·rintro k σ h' ⟨g, hk, ha, q0, q8, q9, q10⟩
  simp (disch := omega) [q9, q10]
  refine fork_dec (fun hlt => ?_) (fun hge => ?_)
  ·have k1 : k < X.length := by omega
   have hX' := hX.grow g
   obtain ⟨s, c, c1, vp, pp, _⟩ := hX'.cells k1
   have bad : entOk X k = false → keptOk X = false := fun e => keptOk_not k1 e
   rw [ent_eq k1] at bad
   simp (disch := omega) [q0, q8, q9, q10, k1, c]
   refine callW_of (c90 h' X[k].1 (hs k k1)) ?_
   rintro _ h1 ⟨rfl, rfl⟩
   cases e1 : nameOk X[k].1
   ·have := bad (by rw [e1]; rfl)
    simp (disch := omega) [this, g]
   have q3 : True := trivial
   have q4 : True := trivial
   by_cases hk0 : k = 0
   ·have hordb : (decide (k = 0) || lexLt (kN X (k - 1)) X[k].1) = true := by simp [hk0]
    have i0 : ¬ 0 < k := by omega
    simp (disch := omega) [q0, q8, q9, q10, i0]
    refine callW_of (c140 _ X[k].2 h1 vp) ?_
    rintro _ h1 ⟨rfl, rfl⟩
    cases e2 : okP X[k].2
    ·have := bad (by rw [e1, e2]; rfl)
     simp (disch := omega) [this, g]
    have ok := okP_iff.1 e2
    simp (disch := omega) [q4]
    refine callW_of (c147 h1 (by have := g.le; omega) _ X[k].2 vp ok) ?_
    rintro v2 h2 ⟨g2, o2⟩
    refine ⟨fun e => (by cases e), ?_⟩
    obtain ⟨Y, hY⟩ : ∃ Y, Y = canonP X[k].2 := ⟨_, rfl⟩
    rw [← hY] at o2 bad
    refine callW_of (c130 h2 _ _ X[k].2 Y (vp.grow g2) o2.vr) ?_
    rintro _ h2 ⟨rfl, rfl⟩
    have hsm : samP X[k].2 Y = samP Y X[k].2 := by simp [samP, eq_comm]
    rw [hsm]
    have g3 := g.trans g2
    cases e4 : samP Y X[k].2
    ·have := bad (by rw [e1, e2, hordb, e4]; rfl)
     simp (disch := omega) [this, g3]
    have hX3 := (hX'.grow g2).take (k)
    have hlt' : (X.take (k)).length = k := by rw [List.length_take]; omega
    have hc := c161 h2 b o z (X.take (k)) hX3 _ X[k].2 (vp.grow g2)
    rw [hlt'] at hc
    have hz1 : z = 9 / 2 ∨ b = 0 := hz0
    simp (disch := omega) [q0, q3, q4, aSlice, bound, hz1, hz0, show (k) ≤ X.length by omega]
    have hkz : sl b o k z = sl b o 0 z := by rw [hk0]
    rw [hkz] at hc
    refine callW_of hc ?_
    rintro _ h3 ⟨rfl, g4⟩
    have g5 := g3.trans g4
    by_cases e5 : likeN (X.take (k)) X[k].2 = k
    ·have hent : entOk X (k) = true := by
      rw [ent_eq k1, e1, e2, hordb, ← hY, e4, e5]; simp
     have hall := allEnt_succ X (k)
     rw [ha, hent] at hall
     have e6 : ixI (likeN (X.take (k)) X[k].2) (k) = -1 := by rw [e5]; unfold ixI; rw [if_neg (by omega)]
     simp (disch := omega) [e6, q0, q8, q9, q10, wrap64]
     exact ⟨k + 1, ⟨g5, by omega, by simpa using hall, by omega⟩, by omega⟩
    ·have hle := likeN_le (X.take (k)) X[k].2
     rw [hlt'] at hle
     have := bad (by rw [e1, e2, hordb, e4]; simp [e5])
     exfalso; omega
   ·obtain ⟨q, rfl⟩ : ∃ q, k = q + 1 := ⟨k - 1, by omega⟩
    have k2 : q < X.length := by omega
    obtain ⟨s', c', c1', _⟩ := hX'.cells (i := q) k2
    have i1 : (q : Int) + 1 - 1 = q := by omega
    have i2 : (0 : Int) < (q : Int) + 1 := by omega
    have hnot := lexLt_not X[q].1 X[q + 1].1
    cases e3 : (lexLt X[q + 1].1 X[q].1 || decide (X[q + 1].1 = X[q].1))
    ·rw [e3] at hnot
     have hordb : (decide (q + 1 = 0) || lexLt (kN X (q + 1 - 1)) X[q + 1].1) = true := by
      rw [Nat.add_sub_cancel, kN_of k2, hnot]; rfl
     simp only [Bool.or_eq_false_iff, decide_eq_false_iff_not] at e3
     simp (disch := omega) [q0, q8, q9, q10, wrap64, i1, i2, k2, c1', e3.1, e3.2]
     refine callW_of (c140 _ X[q + 1].2 h1 vp) ?_
     rintro _ h1 ⟨rfl, rfl⟩
     cases e2 : okP X[q + 1].2
     ·have := bad (by rw [e1, e2]; rfl)
      simp (disch := omega) [this, g]
     have ok := okP_iff.1 e2
     simp (disch := omega) [q4]
     refine callW_of (c147 h1 (by have := g.le; omega) _ X[q + 1].2 vp ok) ?_
     rintro v2 h2 ⟨g2, o2⟩
     refine ⟨fun e => (by cases e), ?_⟩
     obtain ⟨Y, hY⟩ : ∃ Y, Y = canonP X[q + 1].2 := ⟨_, rfl⟩
     rw [← hY] at o2 bad
     refine callW_of (c130 h2 _ _ X[q + 1].2 Y (vp.grow g2) o2.vr) ?_
     rintro _ h2 ⟨rfl, rfl⟩
     have hsm : samP X[q + 1].2 Y = samP Y X[q + 1].2 := by simp [samP, eq_comm]
     rw [hsm]
     have g3 := g.trans g2
     cases e4 : samP Y X[q + 1].2
     ·have := bad (by rw [e1, e2, hordb, e4]; rfl)
      simp (disch := omega) [this, g3]
     have hX3 := (hX'.grow g2).take (q + 1)
     have hlt' : (X.take (q + 1)).length = q + 1 := by rw [List.length_take]; omega
     have hc := c161 h2 b o z (X.take (q + 1)) hX3 _ X[q + 1].2 (vp.grow g2)
     rw [hlt'] at hc
     have hz1 : z = 9 / 2 ∨ b = 0 := hz0
     have hq0 : (0 : Int) ≤ (q : Int) + 1 := by omega
     simp (disch := omega) [q0, q3, q4, aSlice, bound, hz1, hz0, hq0, show (q + 1) ≤ X.length by omega]
     refine callW_of hc ?_
     rintro _ h3 ⟨rfl, g4⟩
     have g5 := g3.trans g4
     by_cases e5 : likeN (X.take (q + 1)) X[q + 1].2 = q + 1
     ·have hent : entOk X (q + 1) = true := by
       rw [ent_eq k1, e1, e2, hordb, ← hY, e4, e5]; simp
      have hall := allEnt_succ X (q + 1)
      rw [ha, hent] at hall
      have e6 : ixI (likeN (X.take (q + 1)) X[q + 1].2) (q + 1) = -1 := by rw [e5]; unfold ixI; rw [if_neg (by omega)]
      simp (disch := omega) [e6, q0, q8, q9, q10, wrap64]
      exact ⟨q + 1 + 1, ⟨g5, by omega, by simpa using hall, by omega⟩, by omega⟩
     ·have hle := likeN_le (X.take (q + 1)) X[q + 1].2
      rw [hlt'] at hle
      have := bad (by rw [e1, e2, hordb, e4]; simp [e5])
      obtain ⟨m, hm⟩ : ∃ m, m = likeN (X.take (q + 1)) X[q + 1].2 := ⟨_, rfl⟩
      rw [← hm] at hle e5 ⊢
      have e6 : ixI m (q + 1) = (m : Int) := by unfold ixI; rw [if_pos (by omega)]
      have e7 : (0 : Int) ≤ (m : Int) := by omega
      simp (disch := omega) [e6, e7, this, g5]
    ·rw [e3] at hnot
     have := bad (by rw [e1, Nat.add_sub_cancel, kN_of k2, hnot]; cases okP X[q + 1].2 <;> rfl)
     have e3' : lexLt X[q + 1].1 X[q].1 = true ∨ X[q + 1].1 = X[q].1 := by simpa using e3
     rcases e3' with e | e
     ·simp (disch := omega) [q0, q8, q9, q10, wrap64, i1, i2, k2, c1', e, this, g]
     ·simp (disch := omega) [q0, q8, q9, q10, wrap64, i1, i2, k2, c1', e, this, g]
  ·have : k = X.length := by omega
   subst this
   simp (disch := omega)
   refine ⟨?_, g⟩
   simp [keptOk, ha]
   omega
end Am

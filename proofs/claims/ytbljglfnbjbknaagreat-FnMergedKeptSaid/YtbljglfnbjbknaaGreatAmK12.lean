/- Contracts: AmG7, AmS10, AmS11, AmS13, AmR1, AmR2, AmR3, AmR4, AmR5, AmR6, AmR7, AmR8, AmR9, AmR10, AmR11, AmR12, AmR13, AmM1, AmM2, AmV1, AmV2. -/
import Derived.Test.YtbljglfnbjbknaaGreatAmK3
import Derived.Test.YtbljglfnbjbknaaGreatAmK7
import Derived.Test.YtbljglfnbjbknaaGreatAmK4
import Derived.Test.YtbljglfnbjbknaaGreatAmK1
import Derived.Test.YtbljglfnbjbknaaGreatAmK10
import Derived.Test.YtbljglfnbjbknaaGreatAmK11
import Derived.Test.YtbljglfnbjbknaaGreatAmK2
import Derived.Test.YtbljglfnbjbknaaGreatAmK6
import Derived.Test.YtbljglfnbjbknaaGreatAmK9
import Derived.Test.YtbljglfnbjbknaaGreatAmK8
import Derived.Test.YtbljglfnbjbknaaGreatAmTab
set_option linter.unusedVariables false
set_option linter.unusedSimpArgs false
set_option maxHeartbeats 4000000
set_option maxRecDepth 40000
namespace Am
open Go
theorem store_bt {h : Heap} {b k : Nat} {l : List UInt8} {c : UInt8} {x : Int} (hx : x = c.toNat) (hb : h[b]? = some ⟨bytesV l, true⟩) (hk : k < l.length) : storeAt h b k [U x] = some (h.set b ⟨bytesV (l.set k c), true⟩) := by
 subst hx
 rw [store_one hb (by simpa [bytesV] using hk)]
 simp [bytesV, List.map_set]
theorem text_pre {h : Heap} {b n : Nat} {l : List UInt8} (hb : h[b]? = some ⟨bytesV l, true⟩) (hn : n ≤ l.length) : aConv 21 (sl b 0 n 1) h = some (S (l.take n), h) := by
 simp only [aConv]
 by_cases h0 : n = 0
 ·subst h0; simp
 ·have hc := cellsAt_of (o := 0) (n := n) hb (by simpa [bytesV] using hn)
  have e : (List.drop 0 (bytesV l)).take n = bytesV (l.take n) := by simp [bytesV, List.map_take]
  rw [e] at hc
  simp [h0, hc, asInts_bytes]
theorem slice_sl {h : Heap} {b n m : Nat} (hm : m ≤ n) : aSlice 3 h (sl b 0 n 1) none (some (.int .i64 m)) none = some (sl b 0 m 1, h) := by
 have : bound n (some (.int .i64 (m : Int))) = some m := by simp [bound]
 simp [aSlice, sl, bound, hm]
/-- One symmetry after another. -/
def cmpS (s t : Nat) : Nat := if 4 ≤ t then (if 4 ≤ s then 0 else 4) + 2 * ((s % 2 + t / 2 % 2) % 2) + (s / 2 % 2 + t % 2) % 2 else (if 4 ≤ s then 4 else 0) + 2 * ((s / 2 % 2 + t / 2 % 2) % 2) + (s % 2 + t % 2) % 2
theorem cmpS_lt (s t : Nat) : cmpS s t < 8 := by
 unfold cmpS
 split <;> split <;> omega
theorem cmpS_all : ∀ s < 8, ∀ u < 8, ∃ t, t < 8 ∧ cmpS s t = u := by decide
theorem map_comp {W H x y s t : Nat} (hs : s < 8) (ht : t < 8) (hx : 1 ≤ x ∧ x < 2 * W) (hy : 1 ≤ y ∧ y < 2 * H) :
  mapX (mapW W H s) (mapH W H s) (mapX W H x y s) (mapY W H x y s) t = mapX W H x y (cmpS s t) ∧ mapY (mapW W H s) (mapH W H s) (mapX W H x y s) (mapY W H x y s) t = mapY W H x y (cmpS s t) ∧ mapW (mapW W H s) (mapH W H s) t = mapW W H (cmpS s t) ∧ mapH (mapW W H s) (mapH W H s) t = mapH W H (cmpS s t) := by
 have h1 : s = 0 ∨ s = 1 ∨ s = 2 ∨ s = 3 ∨ s = 4 ∨ s = 5 ∨ s = 6 ∨ s = 7 := by omega
 have h2 : t = 0 ∨ t = 1 ∨ t = 2 ∨ t = 3 ∨ t = 4 ∨ t = 5 ∨ t = 6 ∨ t = 7 := by omega
 rcases h1 with rfl | rfl | rfl | rfl | rfl | rfl | rfl | rfl <;> rcases h2 with rfl | rfl | rfl | rfl | rfl | rfl | rfl | rfl <;>
  (simp [mapX, mapY, mapW, mapH, cmpS]; try omega)
theorem kind_comp {k : Int} {s t : Nat} (hs : s < 8) (ht : t < 8) (hk : 0 ≤ k ∧ k ≤ 2) : kindM (kindM k s) t = kindM k (cmpS s t) := by
 have h1 : s = 0 ∨ s = 1 ∨ s = 2 ∨ s = 3 ∨ s = 4 ∨ s = 5 ∨ s = 6 ∨ s = 7 := by omega
 have h2 : t = 0 ∨ t = 1 ∨ t = 2 ∨ t = 3 ∨ t = 4 ∨ t = 5 ∨ t = 6 ∨ t = 7 := by omega
 have h3 : k = 0 ∨ k = 1 ∨ k = 2 := by omega
 rcases h1 with rfl | rfl | rfl | rfl | rfl | rfl | rfl | rfl <;> rcases h2 with rfl | rfl | rfl | rfl | rfl | rfl | rfl | rfl <;> rcases h3 with rfl | rfl | rfl <;> decide
theorem cmpS_inv : ∀ u < 8, ∃ v, v < 8 ∧ cmpS v u = 0 ∧ cmpS u v = 0 := by decide
theorem map_zero (W H x y : Nat) : mapX W H x y 0 = x ∧ mapY W H x y 0 = y ∧ mapW W H 0 = W ∧ mapH W H 0 = H := by simp [mapX, mapY, mapW, mapH]
theorem map_inj {W H x y x2 y2 s : Nat} (hs : s < 8) (hx : 1 ≤ x ∧ x < 2 * W) (hy : 1 ≤ y ∧ y < 2 * H) (hx2 : 1 ≤ x2 ∧ x2 < 2 * W) (hy2 : 1 ≤ y2 ∧ y2 < 2 * H) (e1 : mapX W H x y s = mapX W H x2 y2 s) (e2 : mapY W H x y s = mapY W H x2 y2 s) : x = x2 ∧ y = y2 := by
 obtain ⟨v, hv, _, e⟩ := cmpS_inv s hs
 obtain ⟨a1, a2, _⟩ := map_comp (t := v) hs hv hx hy
 obtain ⟨b1, b2, _⟩ := map_comp (t := v) hs hv hx2 hy2
 rw [e] at a1 a2 b1 b2
 rw [e1, e2] at a1 a2
 obtain ⟨z1, z2, _⟩ := map_zero W H x y
 obtain ⟨w1, w2, _⟩ := map_zero W H x2 y2
 omega
theorem at_set {l : List Int} {i j : Nat} {x : Int} (hi : i < l.length) : at0 (l.set i x) j = if j = i then x else at0 l j := by
 unfold at0
 rw [List.getD_eq_getElem?_getD, List.getD_eq_getElem?_getD, List.getElem?_set]
 by_cases q : i = j
 ·subst q; simp [hi]
 ·rw [if_neg q, if_neg (fun e => q e.symm)]
theorem ext_at {a b : List Int} (hl : a.length = b.length) (h : ∀ j < a.length, at0 a j = at0 b j) : a = b := by
 apply List.ext_getElem hl
 intro k h1 h2
 have := h k h1
 rwa [at0_of h1, at0_of h2] at this
theorem at_map {W H x y s : Nat} {br : List Int} (hs : s < 8) (w1 : 1 ≤ W) (h1 : 1 ≤ H) (hx : 1 ≤ x ∧ x < 2 * W) (hy : 1 ≤ y ∧ y < 2 * H) (hp : (x + y) % 2 = 1) : ∀ k, k ≤ rowN W (2 * H) → numP W x y < k → at0 (mapSt W H s br k) (numP (mapW W H s) (mapX W H x y s) (mapY W H x y s)) = kindM (at0 br (numP W x y)) s
 | 0, _, h => by omega
 | k + 1, hk, h => by
  obtain ⟨xk, yk, hP⟩ := IsPt.ex w1 h1 (show k < rowN W (2 * H) by omega)
  obtain ⟨bx1, bx2, bp⟩ := hP.bd
  have by1 := hP.y1
  have by2 := hP.y2
  have ek : idxM W H s k = numP (mapW W H s) (mapX W H xk yk s) (mapY W H xk yk s) := by unfold idxM; rw [thePt_eq hP]
  obtain ⟨m1, m2, m3⟩ := map_pt (s := s) ⟨bx1, bx2⟩ ⟨by1, by2⟩ bp
  obtain ⟨n1, n2, n3⟩ := map_pt (s := s) hx hy hp
  have hlt := numP_lt m1 m2 m3
  rw [mapSt, at_set (by rw [mapSt_len, ek]; exact hlt), ek]
  by_cases e : numP W x y = k
  ·have hP2 := numP_pt hx hy hp
   rw [e] at hP2
   obtain ⟨q1, q2⟩ := hP.uniq hP2
   rw [q1, q2, if_pos rfl, e]
  ·have hne : ¬ numP (mapW W H s) (mapX W H x y s) (mapY W H x y s) = numP (mapW W H s) (mapX W H xk yk s) (mapY W H xk yk s) := by
    intro en
    have a := numP_pt n1 n2 n3
    have b := numP_pt m1 m2 m3
    rw [en] at a
    obtain ⟨q1, q2⟩ := a.uniq b
    obtain ⟨r1, r2⟩ := map_inj hs hx hy ⟨bx1, bx2⟩ ⟨by1, by2⟩ q1 q2
    subst r1; subst r2
    exact e hP.num
   rw [if_neg hne]
   exact at_map hs w1 h1 hx hy hp k (by omega) (by omega)
theorem mapW_pos {W H s : Nat} (w : 1 ≤ W) (h : 1 ≤ H) : 1 ≤ mapW W H s ∧ 1 ≤ mapH W H s := by
 unfold mapW mapH; split <;> omega
theorem mapSt_comp {W H s t : Nat} {br : List Int} (hs : s < 8) (ht : t < 8) (w1 : 1 ≤ W) (h1 : 1 ≤ H) (hb : ∀ x ∈ br, 0 ≤ x ∧ x ≤ 2) :
  mapSt (mapW W H s) (mapH W H s) t (mapSt W H s br (rowN W (2 * H))) (rowN (mapW W H s) (2 * mapH W H s)) = mapSt W H (cmpS s t) br (rowN W (2 * H)) := by
 obtain ⟨u, hu⟩ : ∃ u, u = cmpS s t := ⟨_, rfl⟩
 have u8 : u < 8 := by rw [hu]; exact cmpS_lt s t
 obtain ⟨p1, p2⟩ := mapW_pos (s := s) w1 h1
 obtain ⟨_, _, eW, eH⟩ := map_comp (W := W) (H := H) (x := 1) (y := 1) hs ht (by omega) (by omega)
 rw [← hu] at eW eH ⊢
 apply ext_at
 ·rw [mapSt_len, mapSt_len, eW, eH]
 ·intro j hj
  rw [mapSt_len, eW, eH] at hj
  obtain ⟨q1, q2⟩ := mapW_pos (s := u) w1 h1
  obtain ⟨x2, y2, hP⟩ := IsPt.ex q1 q2 hj
  obtain ⟨bx1, bx2, bp⟩ := hP.bd
  have by1 := hP.y1
  have by2 := hP.y2
  obtain ⟨v, hv, e1, e2⟩ := cmpS_inv u u8
  obtain ⟨_, _, vW, vH⟩ := map_comp (W := W) (H := H) (x := 1) (y := 1) u8 hv (by omega) (by omega)
  rw [e2] at vW vH
  obtain ⟨_, _, z3, z4⟩ := map_zero W H 0 0
  rw [z3] at vW
  rw [z4] at vH
  obtain ⟨m1, m2, m3⟩ := map_pt (s := v) ⟨bx1, bx2⟩ ⟨by1, by2⟩ bp
  obtain ⟨c1, c2, _, _⟩ := map_comp (t := u) hv u8 (W := mapW W H u) (H := mapH W H u) ⟨bx1, bx2⟩ ⟨by1, by2⟩
  rw [e1] at c1 c2
  obtain ⟨z1, z2, _, _⟩ := map_zero (mapW W H u) (mapH W H u) x2 y2
  rw [z1] at c1
  rw [z2] at c2
  rw [vW] at m1
  rw [vH] at m2
  rw [vW, vH] at c1 c2
  obtain ⟨x, hx⟩ : ∃ x, x = mapX (mapW W H u) (mapH W H u) x2 y2 v := ⟨_, rfl⟩
  obtain ⟨y, hy⟩ : ∃ y, y = mapY (mapW W H u) (mapH W H u) x2 y2 v := ⟨_, rfl⟩
  rw [← hx, ← hy] at c1 c2 m3
  rw [← hx] at m1
  rw [← hy] at m2
  have nj : j = numP (mapW W H u) (mapX W H x y u) (mapY W H x y u) := by rw [c1, c2, hP.num]
  have hn := numP_lt m1 m2 m3
  obtain ⟨n1, n2, n3⟩ := map_pt (s := s) m1 m2 m3
  obtain ⟨d1, d2, _, _⟩ := map_comp hs ht m1 m2
  rw [← hu] at d1 d2
  have r := at_map (br := br) u8 w1 h1 m1 m2 m3 (rowN W (2 * H)) (Nat.le_refl _) hn
  have l1 := at_map (br := br) hs w1 h1 m1 m2 m3 (rowN W (2 * H)) (Nat.le_refl _) hn
  have l2 := at_map (br := mapSt W H s br (rowN W (2 * H))) ht p1 p2 n1 n2 n3 (rowN (mapW W H s) (2 * mapH W H s)) (Nat.le_refl _) (numP_lt n1 n2 n3)
  rw [l1, d1, d2, eW, kind_comp hs ht (at0_rng hb _), ← hu] at l2
  rw [nj, l2, r]
theorem mapP_comp {X : Pan} (ok : OkP X) {s t : Nat} (hs : s < 8) (ht : t < 8) : mapP (mapP X s) t = mapP X (cmpS s t) := by
 have h1 := ok.w; have h2 := ok.h
 have hr := ok.row
 have hl : (mapSt X.1.toNat X.2.1.toNat s X.2.2 X.2.2.length).length = rowN (mapW X.1.toNat X.2.1.toNat s) (2 * mapH X.1.toNat X.2.1.toNat s) := mapSt_len _
 obtain ⟨_, _, eW, eH⟩ := map_comp (W := X.1.toNat) (H := X.2.1.toNat) (x := 1) (y := 1) hs ht (by omega) (by omega)
 have e := mapSt_comp (W := X.1.toNat) (H := X.2.1.toNat) (br := X.2.2) hs ht (by omega) (by omega) ok.b
 unfold mapP
 simp only [Int.toNat_natCast]
 rw [hl, eW, eH]
 rw [hr]
 rw [e]
def keyP (X : Pan) : List Int := X.1 :: X.2.1 :: X.2.2
theorem keyP_inj {X Y : Pan} (h : keyP X = keyP Y) : X = Y := by
 obtain ⟨a, b, c⟩ := X
 obtain ⟨d, e, f⟩ := Y
 unfold keyP at h
 simp only [List.cons.injEq] at h
 obtain ⟨rfl, rfl, rfl⟩ := h
 rfl
theorem cmpP_key (X Y : Pan) : cmpP X Y = cmpL (keyP X) (keyP Y) := by
 unfold cmpP keyP
 simp only [cmpL]
 by_cases h1 : cmpI X.1 Y.1 = 0
 ·rw [if_neg (by simp [h1]), if_pos h1]
  by_cases h2 : cmpI X.2.1 Y.2.1 = 0
  ·rw [if_neg (by simp [h2]), if_pos h2]
  ·rw [if_pos h2, if_neg h2]
 ·rw [if_pos h1, if_neg h1]
theorem cmpL_trans : ∀ {a b c : List Int}, cmpL a b ≤ 0 → cmpL b c ≤ 0 → cmpL a c ≤ 0
 | [], b, [], _, _ => by simp [cmpL]
 | [], b, _ :: _, _, _ => by simp [cmpL]
 | _ :: _, [], c, h, _ => by simp [cmpL] at h
 | _ :: _, _ :: _, [], _, h => by simp [cmpL] at h
 | a :: l, b :: m, c :: n, h1, h2 => by
  simp only [cmpL] at h1 h2 ⊢
  have ih := @cmpL_trans l m n
  unfold cmpI at *
  repeat' split at h1
  all_goals (repeat' split at h2)
  all_goals (repeat' split)
  all_goals first | omega | (exact ih (by assumption) (by assumption)) | skip
theorem cmpL_anti : ∀ {a b : List Int}, cmpL a b ≤ 0 → cmpL b a ≤ 0 → a = b
 | [], [], _, _ => rfl
 | [], _ :: _, _, h => by simp [cmpL] at h
 | _ :: _, [], h, _ => by simp [cmpL] at h
 | a :: l, b :: m, h1, h2 => by
  simp only [cmpL] at h1 h2
  have ih := @cmpL_anti l m
  unfold cmpI at *
  repeat' split at h1
  all_goals (repeat' split at h2)
  all_goals first | omega | skip
  all_goals (have e : a = b := by omega)
  all_goals (subst e; rw [ih (by assumption) (by assumption)])
theorem cmpL_same : ∀ a : List Int, cmpL a a = 0
 | [] => rfl
 | a :: l => by simp only [cmpL, cmpI_same rfl, if_true]; exact cmpL_same l
theorem cmpL_flip : ∀ a b : List Int, cmpL b a = - cmpL a b
 | [], [] => rfl
 | [], _ :: _ => rfl
 | _ :: _, [] => rfl
 | a :: l, b :: m => by
  simp only [cmpL]
  have ih := cmpL_flip l m
  unfold cmpI
  repeat' split
  all_goals first | omega | assumption | skip
theorem canonF_spec {X : Pan} (ok : OkP X) : ∀ s, (∃ u, u ≤ s ∧ canonF X s = mapP X u) ∧ ∀ u, u ≤ s → cmpP (canonF X s) (mapP X u) ≤ 0
 | 0 => by
  refine ⟨⟨0, Nat.le_refl _, by rw [mapP_none ok]; rfl⟩, fun u hu => ?_⟩
  have : u = 0 := by omega
  subst this
  rw [mapP_none ok, cmpP_key]
  show cmpL (keyP X) (keyP X) ≤ 0
  rw [cmpL_same]; omega
 | s + 1 => by
  obtain ⟨⟨u0, h0, e0⟩, h⟩ := canonF_spec ok s
  simp only [canonF]
  split
  ·rename_i hlt
   refine ⟨⟨s + 1, Nat.le_refl _, rfl⟩, fun u hu => ?_⟩
   by_cases e : u = s + 1
   ·subst e; rw [cmpP_key, cmpL_same]; omega
   ·have := h u (by omega)
    rw [cmpP_key] at this hlt ⊢
    exact cmpL_trans (by omega) this
  ·rename_i hlt
   refine ⟨⟨u0, by omega, e0⟩, fun u hu => ?_⟩
   by_cases e : u = s + 1
   ·subst e
    have := cmpL_flip (keyP (mapP X (s + 1))) (keyP (canonF X s))
    rw [cmpP_key] at hlt ⊢
    omega
   ·exact h u (by omega)
theorem canon_map {X : Pan} (ok : OkP X) {s : Nat} (hs : s < 8) : canonP (mapP X s) = canonP X := by
 obtain ⟨⟨u, hu, eu⟩, lu⟩ := canonF_spec ok 7
 obtain ⟨⟨w, hw, ew⟩, lw⟩ := canonF_spec (mapP_ok ok s) 7
 unfold canonP
 have a : cmpP (canonF X 7) (canonF (mapP X s) 7) ≤ 0 := by
  rw [ew, mapP_comp ok hs (by omega)]
  exact lu _ (by have := cmpS_lt s w; omega)
 have b : cmpP (canonF (mapP X s) 7) (canonF X 7) ≤ 0 := by
  obtain ⟨t, ht, e⟩ := cmpS_all s hs u (by omega)
  have := lw t (by omega)
  rw [mapP_comp ok hs ht, e, ← eu] at this
  exact this
 rw [cmpP_key] at a b
 exact (keyP_inj (cmpL_anti a b)).symm
theorem canon_idem {X : Pan} (ok : OkP X) : canonP (canonP X) = canonP X := by
 obtain ⟨⟨u, hu, eu⟩, _⟩ := canonF_spec ok 7
 have e : canonP X = mapP X u := eu
 rw [e, canon_map ok (by omega), e]
structure KGood (X : Lib) : Prop where
 len : X.length ≤ 40
 ent : ∀ x ∈ X, nameOk x.1 = true ∧ OkP x.2 ∧ canonP x.2 = x.2
 srt : SortK X
 dif : X.Pairwise fun a b => a.2 ≠ b.2
theorem good_iff {X : Lib} : KeptOk X ↔ KGood X := by
 constructor
 ·intro ok
  refine ⟨ok.len, fun x hx => ?_, ok.sorted, ok.diff.p⟩
  obtain ⟨i, hi, rfl⟩ := List.getElem_of_mem hx
  have e := ok.ent i hi
  have h1 := e.name
  have h2 := e.ok
  have h3 := e.canon
  rw [kN_of hi] at h1
  rw [kP_of hi] at h2 h3
  exact ⟨h1, h2, h3⟩
 ·intro g
  refine ⟨g.len, fun i hi => ?_⟩
  obtain ⟨h1, h2, h3⟩ := g.ent _ (List.getElem_mem hi)
  have hs := g.srt
  unfold SortK at hs
  rw [List.pairwise_iff_getElem] at hs
  have hd := g.dif
  rw [List.pairwise_iff_getElem] at hd
  refine ⟨by rw [kN_of hi]; exact h1, by rw [kP_of hi]; exact h2, ?_, by rw [kP_of hi]; exact h3, ?_⟩
  ·by_cases e : i = 0
   ·exact .inl e
   ·right
    rw [kN_of hi, kN_of (show i - 1 < X.length by omega)]
    exact hs (i - 1) i (by omega) hi (by omega)
  ·rw [kP_of hi]
   have h1 := likeN_le (X.take i) X[i].2
   rw [List.length_take] at h1
   have h2 : ¬ likeN (X.take i) X[i].2 < (X.take i).length := by
    rw [likeN_lt]
    rintro ⟨e, he, q⟩
    rw [List.mem_take_iff_getElem] at he
    obtain ⟨j, hj, rfl⟩ := he
    exact hd j i (by omega) hi (by omega) q
   rw [List.length_take] at h2
   omega
theorem insK_good {X : Lib} {s : List UInt8} {p : Pan} (g : KGood X) (hs : nameOk s = true) (hp : OkP p) (hc : canonP p = p) (hn : ∀ y ∈ X, y.1 ≠ s ∧ y.2 ≠ p) (hl : X.length < 40) : KGood (insK (s, p) X) := by
 refine ⟨by rw [insK_len]; omega, fun x hx => ?_, insK_sorted g.srt fun y hy => (hn y hy).1, mrg_eq.ins_pw (f := fun k : Kpt => k.2) g.dif fun y hy => (hn y hy).2⟩
 rcases mem_insK.1 hx with rfl | hx
 ·exact ⟨hs, hp, hc⟩
 ·exact g.ent x hx
theorem KGood.sub {X Y : Lib} (g : KGood X) (h : Y.Sublist X) : KGood Y :=
 ⟨by have := h.length_le; have := g.len; omega, fun x hx => g.ent x (h.subset hx), List.Pairwise.sublist h g.srt, List.Pairwise.sublist h g.dif⟩
theorem add_good {X Y : Lib} {s : List UInt8} {P : Pan} (h : addAns X s P = (Y, 0)) : KGood Y ∧ KGood X ∧ Y = insK (s, canonP P) X ∧ OkP P ∧ (∀ y ∈ X, y.1 ≠ s ∧ y.2 ≠ canonP P) ∧ nameOk s = true ∧ X.length < 40 := by
 unfold addAns at h
 split at h
 ·rename_i h1
  simp only [Bool.and_eq_true] at h1
  have ok := keptOk_iff.1 h1.1
  have okp := okP_iff.1 h1.2
  split at h
  ·rename_i h2
   split at h
   ·simp at h
   ·rename_i h3
    split at h
    ·simp at h
    ·rename_i h4
     simp only [Prod.mk.injEq, and_true] at h
     simp only [not_or] at h3
     have hn : ∀ y ∈ X, y.1 ≠ s ∧ y.2 ≠ canonP P := fun y hy => ⟨fun e => h3.1 (nameN_lt.2 ⟨y, hy, e⟩), fun e => h3.2 (likeN_lt.2 ⟨y, hy, e⟩)⟩
     have g := good_iff.1 ok
     rw [← h]
     exact ⟨insK_good g h2 (canonP_ok okp) (canon_idem okp) hn (by omega), g, rfl, okp, hn, h2, by omega⟩
  ·simp at h
 ·simp at h
theorem zero_map {W H s : Nat} {br : List Int} (hb : ∀ x ∈ br, x = 0) : ∀ k, ∀ x ∈ mapSt W H s br k, x = 0
 | 0 => by intro x hx; exact List.eq_of_mem_replicate hx
 | k + 1 => by
  intro x hx
  rcases List.mem_or_eq_of_mem_set hx with e | e
  ·exact zero_map hb k x e
  ·rw [e]
   have : at0 br k = 0 := by
    by_cases q : k < br.length
    ·rw [at0_of q]; exact hb _ (List.getElem_mem q)
    ·unfold at0; rw [List.getD_eq_getElem?_getD, List.getElem?_eq_none (by omega)]; rfl
   rw [this]; unfold kindM; simp
theorem canon_eq {A B : Pan} (a : OkP A) (b : OkP B) (e : canonP A = canonP B) : ∃ s, s < 8 ∧ B = mapP A s := by
 obtain ⟨⟨u, hu, eu⟩, _⟩ := canonF_spec a 7
 obtain ⟨⟨w, hw, ew⟩, _⟩ := canonF_spec b 7
 obtain ⟨v, hv, _, e2⟩ := cmpS_inv w (by omega)
 have e1 : mapP A u = mapP B w := by rw [← eu, ← ew]; exact e
 refine ⟨cmpS u v, cmpS_lt _ _, ?_⟩
 rw [← mapP_comp a (by omega) hv, e1, mapP_comp b (by omega) hv, e2, mapP_none b]
theorem std_good : KGood stdK := by
 have ok : ∀ k ∈ stdX, nameOk k.1 = true ∧ okP k.2 = true := by decide
 refine ⟨by simp [stdK, stdX], ?_, ?_, ?_⟩
 ·intro x hx
  unfold stdK at hx
  obtain ⟨k, hk, rfl⟩ := List.mem_map.1 hx
  obtain ⟨h1, h2⟩ := ok k hk
  exact ⟨h1, canonP_ok (okP_iff.1 h2), canon_idem (okP_iff.1 h2)⟩
 ·unfold SortK stdK
  rw [List.pairwise_map]
  exact (by decide : stdX.Pairwise fun a b => lexLt a.1 b.1 = true)
 ·unfold stdK
  rw [List.pairwise_map]
  have key : stdX.Pairwise fun a b => okP a.2 = true ∧ okP b.2 = true ∧ (a.2.1 + a.2.2.1 ≠ b.2.1 + b.2.2.1 ∨ ((∀ x ∈ a.2.2.2, x = 0) ∧ ¬ ∀ x ∈ b.2.2.2, x = 0)) := by decide
  refine key.imp ?_
  rintro a b ⟨h1, h2, h3⟩ e
  obtain ⟨s, _, es⟩ := canon_eq (okP_iff.1 h1) (okP_iff.1 h2) e
  rcases h3 with h3 | ⟨h3, h4⟩
  ·apply h3
   rw [es]
   have w := (okP_iff.1 h1).w
   have hh := (okP_iff.1 h1).h
   unfold mapP mapW mapH
   simp only
   split <;> omega
  ·apply h4
   rw [es]
   exact zero_map h3 _
theorem sort_uniq : ∀ {X Y : Lib}, SortK X → SortK Y → (∀ e, e ∈ X ↔ e ∈ Y) → X = Y
 | [], [], _, _, _ => rfl
 | [], y :: Y, _, _, h => by have := (h y).2 (by simp); simp at this
 | x :: X, [], _, _, h => by have := (h x).1 (by simp); simp at this
 | x :: X, y :: Y, hX, hY, h => by
  have pX := List.pairwise_cons.1 hX
  have pY := List.pairwise_cons.1 hY
  have e : x = y := by
   rcases List.mem_cons.1 ((h x).1 (by simp)) with q | q
   ·exact q
   ·rcases List.mem_cons.1 ((h y).2 (by simp)) with q2 | q2
    ·exact q2.symm
    ·have a := pY.1 x q
     have b := pX.1 y q2
     rw [lexLt_asym a] at b
     cases b
  subst e
  rw [sort_uniq pX.2 pY.2 fun e => ?_]
  constructor
  ·intro he
   rcases List.mem_cons.1 ((h e).1 (by simp [he])) with q | q
   ·subst q
    have := pX.1 e he
    rw [lexLt_irr] at this
    cases this
   ·exact q
  ·intro he
   rcases List.mem_cons.1 ((h e).2 (by simp [he])) with q | q
   ·subst q
    have := pY.1 e he
    rw [lexLt_irr] at this
    cases this
   ·exact q
def Compat (A B : Lib) : Prop := ∀ a ∈ A, ∀ b ∈ B, a.1 = b.1 ↔ a.2 = b.2
theorem Compat.symm {A B : Lib} (h : Compat A B) : Compat B A := fun b hb a ha => ⟨fun e => ((h a ha b hb).1 e.symm).symm, fun e => ((h a ha b hb).2 e.symm).symm⟩
theorem mrgS_spec : ∀ {B out x : Lib}, SortK out → Diff out → Diff B → mrgS out B = some x → SortK x ∧ Diff x ∧ (∀ e, e ∈ x ↔ e ∈ out ∨ e ∈ B) ∧ Compat out B
 | [], out, x, h1, h2, h3, h => by
  simp only [mrgS, Option.some.injEq] at h
  subst h
  exact ⟨h1, h2, by simp, by intro a _ b hb; simp at hb⟩
 | b :: B, out, x, h1, h2, h3, h => by
  have dB : Diff B := ⟨(List.pairwise_cons.1 h3.n).2, (List.pairwise_cons.1 h3.p).2⟩
  simp only [mrgS] at h
  split at h
  ·rename_i hc
   have sa := (same_at h2).1 hc
   split at h
   ·rename_i hlt
    obtain ⟨e0, he0, hn0⟩ := nameN_lt.1 hlt
    have hb : b ∈ out := by
     rcases sa with q | ⟨e, he, q1, q2⟩
     ·exact absurd hn0 (q e0 he0).1
     ·have : e = b := Prod.ext q1 q2
      exact this ▸ he
    obtain ⟨r1, r2, r3, r4⟩ := mrgS_spec h1 h2 dB h
    refine ⟨r1, r2, fun e => ?_, fun a ha c hc => ?_⟩
    ·rw [r3, List.mem_cons]
     constructor
     ·rintro (q | q)
      ·exact .inl q
      ·exact .inr (.inr q)
     ·rintro (q | q | q)
      ·exact .inl q
      ·exact .inl (q ▸ hb)
      ·exact .inr q
    ·rcases List.mem_cons.1 hc with rfl | hc
     ·obtain ⟨i, hi, rfl⟩ := List.getElem_of_mem ha
      obtain ⟨j, hj, hjb⟩ := List.getElem_of_mem hb
      rw [← hjb]
      constructor
      ·intro q
       have := pw_inj (f := fun k : Kpt => k.1) h2.n hi hj q
       subst this; rfl
      ·intro q
       have := pw_inj (f := fun k : Kpt => k.2) h2.p hi hj q
       subst this; rfl
     ·exact r4 a ha c hc
   ·rename_i hge
    have hne : ∀ e ∈ out, e.1 ≠ b.1 ∧ e.2 ≠ b.2 := by
     rcases sa with q | ⟨e, he, q1, q2⟩
     ·exact q
     ·exact absurd (nameN_lt.2 ⟨e, he, q1⟩) hge
    obtain ⟨r1, r2, r3, r4⟩ := mrgS_spec (insK_sorted h1 fun y hy => (hne y hy).1) (mrg_eq.ins_diff h2 hne) dB h
    refine ⟨r1, r2, fun e => ?_, fun a ha c hc => ?_⟩
    ·rw [r3, mem_insK, List.mem_cons]
     constructor
     ·rintro ((q | q) | q)
      ·exact .inr (.inl q)
      ·exact .inl q
      ·exact .inr (.inr q)
     ·rintro (q | q | q)
      ·exact .inl (.inr q)
      ·exact .inl (.inl q)
      ·exact .inr q
    ·rcases List.mem_cons.1 hc with rfl | hc
     ·have := hne a ha
      exact ⟨fun q => absurd q this.1, fun q => absurd q this.2⟩
     ·exact r4 a (mem_insK.2 (.inr ha)) c hc
  ·cases h
theorem mrgS_some : ∀ {B out : Lib}, Diff out → Diff B → Compat out B → ∃ x, mrgS out B = some x
 | [], out, _, _, _ => ⟨out, rfl⟩
 | b :: B, out, h2, h3, hc => by
  have dB : Diff B := ⟨(List.pairwise_cons.1 h3.n).2, (List.pairwise_cons.1 h3.p).2⟩
  have sa : SameAt out b.1 b.2 := by
   by_cases q : ∃ e ∈ out, e.1 = b.1
   ·obtain ⟨e, he, q⟩ := q
    exact .inr ⟨e, he, q, (hc e he b (by simp)).1 q⟩
   ·refine .inl fun e he => ⟨fun r => q ⟨e, he, r⟩, fun r => q ⟨e, he, (hc e he b (by simp)).2 r⟩⟩
  simp only [mrgS]
  rw [if_pos ((same_at h2).2 sa)]
  split
  ·exact mrgS_some h2 dB fun a ha c hcm => hc a ha c (by simp [hcm])
  ·rename_i hge
   have hne : ∀ e ∈ out, e.1 ≠ b.1 ∧ e.2 ≠ b.2 := by
    rcases sa with q | ⟨e, he, q1, q2⟩
    ·exact q
    ·exact absurd (nameN_lt.2 ⟨e, he, q1⟩) hge
   refine mrgS_some (mrg_eq.ins_diff h2 hne) dB fun a ha c hcm => ?_
   rcases mem_insK.1 ha with rfl | ha
   ·have p1 := (List.pairwise_cons.1 h3.n).1 c hcm
    have p2 := (List.pairwise_cons.1 h3.p).1 c hcm
    exact ⟨fun q => absurd q p1, fun q => absurd q p2⟩
   ·exact hc a ha c (by simp [hcm])
theorem merge_both {A B x : Lib} (h : mergeAnsK A B = (x, 0)) : mergeAnsK B A = (x, 0) ∧ keptOk x = true := by
 unfold mergeAnsK at h
 split at h
 ·rename_i hk
  simp only [Bool.and_eq_true] at hk
  have a := keptOk_iff.1 hk.1
  have b := keptOk_iff.1 hk.2
  rw [merge_spec a b] at h
  unfold mergeRes at h
  split at h
  ·simp at h
  ·rename_i y hy
   split at h
   ·simp at h
   ·rename_i hle
    simp only [Prod.mk.injEq, and_true] at h
    subst h
    obtain ⟨s1, d1, m1, c1⟩ := mrgS_spec a.sorted a.diff b.diff hy
    obtain ⟨z, hz⟩ := mrgS_some b.diff a.diff c1.symm
    obtain ⟨s2, d2, m2, c2⟩ := mrgS_spec b.sorted b.diff a.diff hz
    have e : z = y := sort_uniq s2 s1 fun e => by rw [m1, m2]; exact Or.comm
    subst e
    refine ⟨?_, keptOk_iff.2 (good_iff.2 ⟨by omega, fun e he => ?_, s1, d1.p⟩)⟩
    ·unfold mergeAnsK
     rw [if_pos (by rw [hk.1, hk.2]; rfl), merge_spec b a, hz]
     unfold mergeRes
     simp only
     rw [if_neg hle]
    ·rcases (m1 e).1 he with q | q
     ·exact (good_iff.1 a).ent e q
     ·exact (good_iff.1 b).ent e q
 ·simp at h
def lnK (k : Kpt) : List UInt8 := k.1 ++ 32 :: pTxt k.2
theorem pTxt_free {X : Pan} (ok : OkP X) : (10 : UInt8) ∉ pTxt X := by
 rw [pTxt_ok ok]
 have h1 := dgB_toNat ok.w
 have h2 := dgB_toNat ok.h
 have e32 : (10 : UInt8).toNat = 10 := rfl
 intro h
 simp only [List.mem_cons, List.mem_map] at h
 rcases h with h | h | h | h | ⟨x, _, h⟩
 ·rw [← h] at h1; omega
 ·exact absurd h (by decide)
 ·rw [← h] at h2; omega
 ·exact absurd h (by decide)
 ·unfold signB at h; split at h
  ·exact absurd h (by decide)
  ·split at h <;> exact absurd h (by decide)
theorem name_free {s : List UInt8} (h : nameOk s = true) : (10 : UInt8) ∉ s ∧ (32 : UInt8) ∉ s := by
 simp only [nameOk, Bool.and_eq_true, List.all_eq_true] at h
 have k := h.2.2.2
 constructor
 ·intro q; exact absurd (k _ q) (by decide)
 ·intro q; exact absurd (k _ q) (by decide)
theorem split_lines : ∀ {X : Lib}, (∀ x ∈ X, nameOk x.1 = true ∧ OkP x.2) → splitS 10 (kTxt X) = X.map lnK ++ [[]]
 | [], _ => rfl
 | x :: X, h => by
  obtain ⟨h1, h2⟩ := h x (by simp)
  have e : kTxt (x :: X) = lnK x ++ 10 :: kTxt X := by simp [kTxt, lineK, lnK]
  have f : (10 : UInt8) ∉ lnK x := by
   unfold lnK
   intro q
   rcases List.mem_append.1 q with q | q
   ·exact (name_free h1).1 q
   ·rcases List.mem_cons.1 q with q | q
    ·exact absurd q (by decide)
    ·exact pTxt_free h2 q
  have ih := split_lines (X := X) fun y hy => h y (by simp [hy])
  unfold splitS at ih ⊢
  rw [e, splitG_one f, ih]
  simp
theorem ent_line {k : Kpt} (h1 : nameOk k.1 = true) (h2 : OkP k.2) : entO (lnK k) = some k := by
 rw [← entSO]
 have e : splitS 32 (lnK k) = [k.1, pTxt k.2] := by
  unfold splitS lnK
  rw [splitG_one (name_free h1).2, splitG_none (no_space h2)]
  simp
 unfold entS
 rw [e]
 have e1 : nth [k.1, pTxt k.2] 1 = pTxt k.2 := rfl
 have e0 : nth [k.1, pTxt k.2] 0 = k.1 := rfl
 rw [e1, e0, readAns_some h2]
 simp
theorem ents_lines : ∀ {X : Lib}, (∀ x ∈ X, nameOk x.1 = true ∧ OkP x.2) → entsO (X.map lnK) = some X
 | [], _ => rfl
 | x :: X, h => by
  obtain ⟨h1, h2⟩ := h x (by simp)
  simp only [List.map_cons, entsO, ent_line h1 h2, ents_lines (X := X) fun y hy => h y (by simp [hy]), Option.map_some]
theorem read_text {X : Lib} (ok : keptOk X = true) : readK (kTxt X) = (X, true) := by
 have g := good_iff.1 (keptOk_iff.1 ok)
 have h : ∀ x ∈ X, nameOk x.1 = true ∧ OkP x.2 := fun x hx => ⟨(g.ent x hx).1, (g.ent x hx).2.1⟩
 have el : linesP (kTxt X) = some (X.map lnK) := by
  unfold linesP
  rw [split_lines h]
  simp [nth]
 have hl := g.len
 unfold readK
 rw [el]
 simp only
 rw [if_neg (by rw [List.length_map]; omega), ents_lines h]
 simp only [ok, if_true]
/-- A drawn library: its own block from lo' on, its rows' blocks from lo on. -/
structure DK (h : Heap) (lo lo' : Nat) (v : Value) (L : List Row) : Prop where
 out : (L = [] ∧ ∃ y, v = sl 0 0 0 y) ∨ ∃ b, v = sl b 0 L.length 4 ∧ lo' ≤ b ∧ h[b]? = some ⟨rowsC L, true⟩
 row : ∀ r ∈ L, EntO h r ∧ ∀ c ∈ rowB r, lo ≤ c
theorem DK.nil {h : Heap} {lo lo' y : Nat} : DK h lo lo' (sl 0 0 0 y) [] := ⟨.inl ⟨rfl, y, rfl⟩, by simp⟩
theorem DK.low {h : Heap} {lo lo' a a' : Nat} {v : Value} {L : List Row} (d : DK h lo lo' v L) (h1 : a ≤ lo) (h2 : a' ≤ lo') : DK h a a' v L := by
 refine ⟨?_, fun r hr => ⟨(d.row r hr).1, fun c hc => by have := (d.row r hr).2 c hc; omega⟩⟩
 rcases d.out with x | ⟨b, e, e1, e2⟩
 ·exact .inl x
 ·exact .inr ⟨b, e, by omega, e2⟩
theorem DK.same {h h' : Heap} {lo lo' : Nat} {v : Value} {L : List Row} (d : DK h lo lo' v L) (f : ∀ c, c < h.length → (lo ≤ c ∨ lo' ≤ c) → h'[c]? = h[c]?) : DK h' lo lo' v L := by
 refine ⟨?_, fun r hr => ?_⟩
 ·rcases d.out with x | ⟨b, e, e1, e2⟩
  ·exact .inl x
  ·exact .inr ⟨b, e, e1, by rw [f b (at_lt e2) (.inr e1)]; exact e2⟩
 ·obtain ⟨e, hc⟩ := d.row r hr
  exact ⟨e.frame fun c hcm => f c (e.lt c hcm) (.inl (hc c hcm)), hc⟩
theorem DK.mod {h h' : Heap} {lo lo' s : Nat} {v : Value} {L : List Row} (d : DK h lo lo' v L) (m : Mod s (s + 1) h h') (h1 : s < lo) (h2 : s < lo') : DK h' lo lo' v L :=
 d.same fun c hc hn => m.2 c hc (by omega)
theorem DK.grow {h h' : Heap} {lo lo' : Nat} {v : Value} {L : List Row} (d : DK h lo lo' v L) (g : Grows h h') : DK h' lo lo' v L :=
 d.same fun c hc _ => g.look hc
theorem DK.sl {h : Heap} {lo lo' : Nat} {v : Value} {L : List Row} (d : DK h lo lo' v L) : ∃ b z, v = Am.sl b 0 L.length z ∧ (z = 4 ∨ b = 0) ∧ (L = [] ∨ z = 4 ∧ lo' ≤ b ∧ h[b]? = some ⟨rowsC L, true⟩) := by
 rcases d.out with ⟨e, y, e2⟩ | ⟨b, e, e1, e2⟩
 ·subst e; exact ⟨0, y, e2, .inr rfl, .inl rfl⟩
 ·exact ⟨b, 4, e, .inl rfl, .inr ⟨rfl, e1, e2⟩⟩
theorem rd_rows {h : Heap} : ∀ {L : List Row}, (∀ r ∈ L, EntO h r) → All2 (fun c y => Rd h shKept c y) (L.map rowC) (L.map (·.1))
 | [], _ => trivial
 | r :: L, f => ⟨(f r (by simp)).ow.rd, rd_rows fun q hq => f q (by simp [hq])⟩
theorem DK.vr {h : Heap} {lo lo' : Nat} {v : Value} {L : List Row} (d : DK h lo lo' v L) (hl : L.length ≤ 1000) : Vr h shKepts v (L.map (·.1)) := by
 have hlen := rowsC_len L
 obtain ⟨b, z, e, hz, hb⟩ := d.sl
 refine ⟨[v], ⟨b, 0, z, L.map rowC, ?_, ?_, ?_, rd_rows fun r hr => (d.row r hr).1, ?_⟩, rfl⟩
 ·rw [e]; simp
 ·rcases hb with x | x
  ·subst x
   exact hz.imp id fun q => ⟨q, rfl⟩
  ·exact .inl x.1
 ·rw [maxLen_eq, List.length_map]; omega
 ·rcases hb with x | x
  ·left; subst x; rfl
  ·right
   have := cellsAt_all (n := L.length * 4) x.2.2 (by rw [hlen])
   rw [List.length_map]
   exact this
theorem DK.of_vo {h : Heap} {lo hi : Nat} {v : Value} {X : Lib} (x : Vo h lo hi shKepts v X) (hne : X ≠ []) : ∃ L : List Row, L.map (·.1) = X ∧ DK h lo lo v L := by
 obtain ⟨b, z, L, rfl, e, k⟩ := x.rows
 refine ⟨L, e.symm, ?_, fun r hr => ⟨k.el r hr, fun c hc => (k.rg r hr c hc).1⟩⟩
 have hl : X.length = L.length := by rw [e]; simp
 have h0 : L ≠ [] := by intro q; subst q; exact hne e
 right
 obtain ⟨k1, k2, k3⟩ := k.blk.resolve_left h0
 refine ⟨b, ?_, k2, k1⟩
 rcases k.z with q | q
 ·rw [q, hl]
 ·exact absurd q.2 h0
theorem row_first {h : Heap} {b : Nat} {L : List Row} {r : Row} (e : EntO h r) (hb : h[b]? = some ⟨rowsC L, true⟩) (hne : L ≠ []) : b ∉ rowB r := by
 intro hm
 unfold rowB at hm
 split at hm
 ·simp at hm
 ·rename_i h0
  simp at hm
  have e1 := e.b.resolve_left h0
  rw [← hm, hb] at e1
  simp only [Option.some.injEq, Blk.mk.injEq, and_true] at e1
  cases L with
  | nil => exact hne rfl
  | cons q L =>
   rw [rowsC_cons] at e1
   cases hx : rbr r with
   | nil => exact h0 hx
   | cons a l => rw [hx] at e1; simp [ints, rowC] at e1
/-- A row at the end of a drawn library. -/
theorem dk_app {h : Heap} {lo lo' : Nat} {v : Value} {L : List Row} {r : Row} {K : Value → Heap → Prop} (hp : 0 < lo') (hlo : lo' ≤ h.length) (d : DK h lo lo' v L) (hr : EntO h r ∧ ∀ c ∈ rowB r, lo ≤ c) (hl : L.length ≤ 1000)
  (hK : ∀ v' h', Mod lo' h.length h h' → DK h' lo lo' v' (L ++ [r]) → K v' h') :
  bindW (aBuildSlice 4 1 h [(0, .agg #[S [], I 0, I 0, sl 0 0 0 0]), (4, .agg #[S r.1.1, I r.1.2.1, I r.1.2.2.1, rowS r])]) fun y h' => bindW (aAppend 4 h' y v) K := by
 have e : aBuildSlice 4 1 h [(0, .agg #[S [], I 0, I 0, sl 0 0 0 0]), (4, .agg #[S r.1.1, I r.1.2.1, I r.1.2.2.1, rowS r])] = some (sl h.length 0 1 4, h ++ [⟨rowC r, true⟩]) := by
  simp [aBuildSlice, rowC, rowS]
 rw [e]
 simp only [bindW_some]
 obtain ⟨h1, e1⟩ : ∃ h1, h1 = h ++ [⟨rowC r, true⟩] := ⟨_, rfl⟩
 have g1 : Grows h h1 := ⟨_, e1⟩
 have l1 : h1.length = h.length + 1 := by rw [e1]; simp
 rw [← e1]
 have hnew : newCells 4 h1 (sl h.length 0 1 4) = some (rowC r) := by
  rw [e1]
  simp [newCells]
  rw [cellsAt_of (k := ⟨rowC r, true⟩) (by simp) (by simp [rowC])]
  simp [rowC]
 have rl : (rowC r).length = 4 := rfl
 have rne : rowC r ≠ [] := by simp [rowC]
 have hlen := rowsC_len L
 have d1 := d.grow g1
 have hr1 : EntO h1 r := hr.1.frame fun c hc => g1.look (hr.1.lt c hc)
 rcases d1.out with ⟨q1, y, q2⟩ | ⟨b, q1, q2, q3⟩
 ·subst q1
  have ea : aAppend 4 h1 (sl h.length 0 1 4) v = some (sl h1.length 0 1 4, h1 ++ [⟨rowC r, true⟩]) := by
   rw [q2]
   unfold aAppend
   simp only [Am.sl] at hnew ⊢
   simp only [hnew]
   rw [if_neg (by omega), if_neg rne, if_neg (by simp [maxSize, rl])]
   simp [rl]
  rw [ea]
  simp only [bindW_some]
  have g2 : Grows h1 (h1 ++ [⟨rowC r, true⟩]) := ⟨_, rfl⟩
  refine hK _ _ (g1.trans g2).mod ⟨.inr ⟨h1.length, by simp, by omega, by simp [rowsC]⟩, ?_⟩
  intro q hq
  simp at hq; subst hq
  exact ⟨hr1.frame fun c hc => g2.look (hr1.lt c hc), hr.2⟩
 ·have hb := at_lt q3
  by_cases h0 : L = []
  ·subst h0
   have hb0 : ¬ b = 0 := by omega
   have ea : aAppend 4 h1 (sl h.length 0 1 4) v = some (sl h1.length 0 1 4, h1.set b ⟨[], false⟩ ++ [⟨rowC r, true⟩]) := by
    rw [q1]
    unfold aAppend
    simp only [Am.sl] at hnew ⊢
    simp only [hnew, q3]
    rw [if_neg (by omega), if_neg rne, if_neg (by simp [maxSize, rl]), if_neg hb0, if_pos (by simp)]
    have : cellsAt h1 b 0 0 = some [] := by
     have := cellsAt_all (n := 0) q3 (by simp [rowsC]); simpa [rowsC] using this
    simp [this, rl]
   rw [ea]
   simp only [bindW_some]
   have hbr : b ∉ rowB r := by
    intro hm
    unfold rowB at hm
    split at hm
    ·simp at hm
    ·rename_i h0
     simp at hm
     have e1 := hr1.b.resolve_left h0
     rw [← hm, q3] at e1
     simp only [Option.some.injEq, Blk.mk.injEq, and_true] at e1
     have := congrArg List.length e1
     simp [rowsC, ints] at this
     exact h0 (List.eq_nil_of_length_eq_zero this.symm)
   refine hK _ _ ⟨by simp; omega, fun c hc hn => ?_⟩ ⟨.inr ⟨h1.length, by simp, by omega, by rw [List.getElem?_append_right (by simp)]; simp [rowsC]⟩, ?_⟩
   ·rw [List.getElem?_append_left (by simp; omega), set_other (by omega), g1.look hc]
   ·intro q hq
    simp at hq; subst hq
    refine ⟨hr1.frame fun c hc => ?_, hr.2⟩
    rw [List.getElem?_append_left (by simpa using hr1.lt c hc), set_other (fun e => hbr (by rw [← e]; exact hc))]
  ·have hb0 : ¬ b = 0 := by omega
   have ea : aAppend 4 h1 (sl h.length 0 1 4) v = some (sl h1.length 0 (L.length + 1) 4, h1.set b ⟨[], false⟩ ++ [⟨rowsC L ++ rowC r, true⟩]) := by
    rw [q1]
    unfold aAppend
    have hold := cellsAt_all (n := L.length * 4) q3 (by rw [hlen])
    simp only [Am.sl] at hnew ⊢
    simp only [hnew, q3]
    rw [if_neg (by omega), if_neg rne, if_neg (by simp [maxSize, rl]; omega), if_neg hb0, if_pos (by simp)]
    simp [hold, rl]
   rw [ea]
   simp only [bindW_some]
   have frame : ∀ q ∈ L ++ [r], EntO h1 q := by
    intro q hq
    rcases List.mem_append.1 hq with hq | hq
    ·exact (d1.row q hq).1
    ·simp at hq; subst hq; exact hr1
   refine hK _ _ ⟨by simp; omega, fun c hc hn => ?_⟩ ⟨.inr ⟨h1.length, by simp, by omega, by rw [List.getElem?_append_right (by simp), rowsC_append]; simp [rowsC]⟩, ?_⟩
   ·rw [List.getElem?_append_left (by simp; omega), set_other (by omega), g1.look hc]
   ·intro q hq
    have eq := frame q hq
    have nb := row_first eq q3 h0
    refine ⟨eq.frame fun c hc => ?_, ?_⟩
    ·rw [List.getElem?_append_left (by simpa using eq.lt c hc), set_other (fun e => nb (by rw [← e]; exact hc))]
    ·rcases List.mem_append.1 hq with hq | hq
     ·exact (d.row q hq).2
     ·simp at hq; subst hq; exact hr.2
theorem c540 (h : Heap) (b m : Nat) (hs : Src h b m) (hm : m ≤ 10000000) (hb : b < h.length) : ACall Gam 540 [pt b 0] h fun r h' => ∃ s : List UInt8, r = S s ∧ s.length ≤ 10 ∧ Mod b (b + 1) h h' ∧ Src h' b (m + 10) := by
 refine ACall_intro g540 rfl ?_
 unfold fn540
 rw [awp_seq, awp_reg]
 generalize hK : seqQ Gam _ _ 0 = K
 simp (disch := omega)
 subst hK
 simp only [seqQ_zero]
 rw [awp_seq]
 generalize hK : seqQ Gam _ _ = K
 simp (disch := omega)
 refine callW_of (c6 h b m 12 hs (by omega) (by unfold I64; omega)) ?_
 rintro _ h1 ⟨w, rfl, md1, l1, hs1⟩
 try refine ⟨fun e => (by cases e), ?_⟩
 cases w
 ·simp (disch := omega)
  subst hK
  simp only [seqQ_zero]
  simp (disch := omega) [aBuildSlice]
  obtain ⟨N, hN⟩ : ∃ N : List (List UInt8), N = [[98, 114, 105, 99, 107], [99, 97, 114, 112, 101, 116], [109, 105, 110, 101], [114, 105, 110, 103, 115], [120, 45, 49], [116, 119, 111], [97], [122, 122]] := ⟨_, rfl⟩
  obtain ⟨h3, e3⟩ : ∃ h3, h3 = h1 ++ [⟨N.map S, true⟩] := ⟨_, rfl⟩
  have g3 : Grows h1 h3 := ⟨_, e3⟩
  have b3 : h3[h1.length]? = some ⟨N.map S, true⟩ := by rw [e3]; simp
  rw [hN] at e3
  simp only [List.map_cons, List.map_nil] at e3
  rw [← e3]
  have nl : N.length = 8 := by rw [hN]; rfl
  have hc := c8 h3 b _ h1.length N (hs1.grow g3) (by omega) b3 (by omega) (by omega) (by omega)
  rw [nl] at hc
  refine callW_of hc ?_
  rintro _ h4 ⟨x, hx, rfl, md4, l4, hs4⟩
  try refine ⟨fun e => (by cases e), ?_⟩
  simp (disch := omega)
  refine ⟨?_, (md1.trans g3.mod).trans md4, hs4.mono (by omega)⟩
  rw [hN] at hx
  have key : ∀ y ∈ ([[98, 114, 105, 99, 107], [99, 97, 114, 112, 101, 116], [109, 105, 110, 101], [114, 105, 110, 103, 115], [120, 45, 49], [116, 119, 111], [97], [122, 122]] : List (List UInt8)), y.length ≤ 10 := by decide
  exact key x hx
 ·simp (disch := omega) [aBuildSlice]
  obtain ⟨N, hN⟩ : ∃ N : List (List UInt8), N = [[], [66, 114, 105, 99, 107], [50, 120]] := ⟨_, rfl⟩
  obtain ⟨h3, e3⟩ : ∃ h3, h3 = h1 ++ [⟨N.map S, true⟩] := ⟨_, rfl⟩
  have g3 : Grows h1 h3 := ⟨_, e3⟩
  have b3 : h3[h1.length]? = some ⟨N.map S, true⟩ := by rw [e3]; simp
  rw [hN] at e3
  simp only [List.map_cons, List.map_nil] at e3
  rw [← e3]
  have nl : N.length = 3 := by rw [hN]; rfl
  have hc := c8 h3 b _ h1.length N (hs1.grow g3) (by omega) b3 (by omega) (by omega) (by omega)
  rw [nl] at hc
  refine callW_of hc ?_
  rintro _ h4 ⟨x, hx, rfl, md4, l4, hs4⟩
  try refine ⟨fun e => (by cases e), ?_⟩
  subst hK
  simp (disch := omega)
  refine ⟨?_, (md1.trans g3.mod).trans md4, hs4.mono (by omega)⟩
  rw [hN] at hx
  have key : ∀ y ∈ ([[], [66, 114, 105, 99, 107], [50, 120]] : List (List UInt8)), y.length ≤ 10 := by decide
  exact key x hx
theorem rowsC_cells {h : Heap} {b : Nat} {L : List Row} (hb : h[b]? = some ⟨rowsC L, true⟩) {i : Nat} (hi : i < L.length) : cellsAt h b (i * 4) 4 = some (rowC L[i]) := by
 have e : L = L.take i ++ L[i] :: L.drop (i + 1) := by rw [← List.drop_eq_getElem_cons hi, List.take_append_drop]
 have e2 : rowsC L = rowsC (L.take i) ++ (rowC L[i] ++ rowsC (L.drop (i + 1))) := by
  conv => lhs; rw [e]
  rw [rowsC_append, rowsC_cons]
 have l1 : (rowsC (L.take i)).length = i * 4 := by rw [rowsC_len, List.length_take]; omega
 have l2 := rowsC_len L
 rw [cellsAt_of hb (by rw [l2]; omega)]
 simp only
 rw [e2, ← l1, List.drop_left, List.take_append_of_le_length (by simp [rowC])]
 rfl
theorem rowC_agg (r : Row) : (rowC r) = [S r.1.1, I r.1.2.1, I r.1.2.2.1, rowS r] := rfl
theorem good_siz {X : Lib} (g : KGood X) : siz shKepts X ≤ 1048576 := by
 have ok := good_iff.2 g
 have := small_siz (n := 40) ok.len ok.small
 omega
/-- Blocks below a bound, but one, are as they were. -/
def Below2 (n b : Nat) (h h' : Heap) : Prop := h.length ≤ h'.length ∧ ∀ c, c < n → c ≠ b → h'[c]? = h[c]?
theorem c537 (h : Heap) (b m : Nat) (hs : Src h b m) (hm : m ≤ 1000000) (hb : b < h.length) (hp : 0 < b) : ACall Gam 537 [pt b 0] h fun r h' => ∃ L : List Row, KGood (L.map (·.1)) ∧ Mod b (b + 1) h h' ∧ DK h' h.length h.length r L ∧ Src h' b (m + 5000) := by
 refine ACall_intro g537 rfl ?_
 unfold fn537
 rw [awp_seq, awp_reg]
 generalize hK : seqQ Gam _ _ 0 = K
 simp (disch := omega)
 subst hK
 simp only [seqQ_zero]
 rw [awp_seq, awp_reg]
 generalize hK : seqQ Gam _ _ 0 = K
 simp (disch := omega)
 subst hK
 simp only [seqQ_zero]
 rw [awp_seq, awp_reg]
 generalize hK : seqQ Gam _ _ 0 = K
 simp (disch := omega)
 refine callW_of (c422 h (by omega)) ?_
 rintro v4 h2 ⟨g2, o2, _⟩
 try refine ⟨fun e => (by first | exact g2 | cases e), ?_⟩
 have hs2 := hs.grow g2
 have le2 := g2.le
 have sl6 : stdK.length = 6 := by simp [stdK, stdX]
 obtain ⟨A, eA, dA⟩ := DK.of_vo o2 (by intro e; rw [e] at sl6; simp at sl6)
 have Al : A.length = 6 := by rw [← sl6, ← eA]; simp
 obtain ⟨ab, az, rfl, _, hab⟩ := dA.sl
 obtain ⟨rfl, ab1, ab2⟩ := hab.resolve_left (by intro e; subst e; simp at Al)
 have ab3 := at_lt ab2
 try simp (disch := omega)
 subst hK
 simp only [seqQ_zero]
 rw [awp_seq]
 generalize hK : seqQ Gam _ _ = K
 simp (disch := omega)
 refine awp_loop (fun i σ h' => i ≤ 6 ∧ Mod b (b + 1) h h' ∧ Src h' b (m + 3 * i) ∧ Below2 h2.length b h2 h' ∧ σ 0 = pt b 0 ∧ σ 2 = sl 0 0 0 0 ∧ σ 4 = sl ab 0 A.length 4 ∧ σ 5 = I i ∧ ∃ L, DK h' h.length h2.length (σ 3) L ∧ (L.map (·.1)).Sublist (stdK.take i)) (fun i => 6 - i) 0 ?_ ?_
 ·exact ⟨by omega, g2.mod, hs2, ⟨Nat.le_refl _, fun c _ _ => rfl⟩, by simp, by simp, by simp, by simp, [], by simpa using DK.nil, by simp⟩
 ·rintro i σ h' ⟨hi, md, hs', bl, p0, p2, p4, p5, L, dL, sub⟩
  simp (disch := omega) [p4, p5]
  refine fork_dec (fun hlt => ?_) (fun hge => ?_)
  ·have i1 : i < A.length := by omega
   have Ll : L.length ≤ 6 := by have := sub.length_le; simp at this; omega
   simp (disch := omega) [p0]
   refine callW_of (c6 h' b _ 3 hs' (by omega) (by unfold I64; omega)) ?_
   rintro _ h3 ⟨w, rfl, md3, l3, hs3⟩
   try refine ⟨fun e => (by cases e), ?_⟩
   have dL3 := dL.mod md3 hb (by omega)
   have bl3 : Below2 h2.length b h2 h3 := ⟨by have := bl.1; omega, fun c hc hne => by rw [md3.2 c (by have := bl.1; omega) (by omega)]; exact bl.2 c hc hne⟩
   have md' := md.trans md3
   cases w
   ·simp (disch := omega) [p0, p2, p4, p5, wrap64]
    refine ⟨i + 1, ⟨by omega, md', hs3.mono (by omega), bl3, by omega, L, dL3, ?_⟩, by omega⟩
    exact sub.trans (by rw [List.take_succ_eq_append_getElem (by omega)]; exact List.sublist_append_left _ _)
   ·have cb : h3[ab]? = some ⟨rowsC A, true⟩ := by rw [bl3.2 ab ab3 (by omega)]; exact ab2
    have cc := rowsC_cells cb i1
    rw [rowC_agg] at cc
    have er := dA.row A[i] (List.getElem_mem i1)
    have er3 : EntO h3 A[i] := er.1.frame fun c hc => bl3.2 c (er.1.lt c hc) (by have := er.2 c hc; omega)
    have i2 : (i : Int) < A.length := by omega
    simp (disch := omega) [p4, p5, i1, i2, cc]
    refine dk_app (h := h3) (lo := h.length) (lo' := h2.length) (by omega) bl3.1 dL3 ⟨er3, er.2⟩ (by omega) fun v' h5 md5 d5 => ?_
    try simp (disch := omega) [p0, p2, p4, p5, wrap64]
    refine ⟨i + 1, ⟨by omega, ?_, (hs3.mod md5 (by omega)).mono (by omega), ?_, by omega, _, d5, ?_⟩, by omega⟩
    ·exact ⟨by have := md'.1; have := md5.1; omega, fun c hc hn => by rw [md5.2 c (by have := md'.1; omega) (by omega)]; exact md'.2 c hc hn⟩
    ·exact ⟨by have := bl3.1; have := md5.1; omega, fun c hc hne => by rw [md5.2 c (by have := bl3.1; omega) (by omega)]; exact bl3.2 c hc hne⟩
    ·rw [List.map_append, List.take_succ_eq_append_getElem (by omega)]
     refine List.Sublist.append sub ?_
     have : A[i].1 = stdK[i]'(by omega) := by simp only [← eA, List.getElem_map]
     simp [this]
  ·have : i = 6 := by omega
   subst this
   have gL : KGood (L.map (·.1)) := std_good.sub (sub.trans (List.take_sublist _ _))
   have dL' := dL.low (Nat.le_refl _) le2
   simp (disch := omega)
   subst hK
   simp only [seqQ_zero]
   rw [awp_seq]
   generalize hK : seqQ Gam _ _ = K
   rw [awp_seq, awp_reg]
   generalize hK2 : seqQ Gam _ _ 0 = K2
   simp (disch := omega) [p0]
   refine callW_of (c7 h' b _ 3 hs' (by omega) (by unfold I64; omega)) ?_
   rintro _ h3 ⟨q, rfl, _, q1, md3, l3, hs3⟩
   try refine ⟨fun e => (by cases e), ?_⟩
   have q2 := q1 (by omega)
   have dL3 := dL'.mod md3 hb hb
   have md' := md.trans md3
   try simp (disch := omega)
   subst hK2
   simp only [seqQ_zero]
   simp (disch := omega)
   refine awp_loop (fun j σ h' => j ≤ q ∧ Mod b (b + 1) h h' ∧ Src h' b (m + 30 + 1100 * j) ∧ σ 0 = pt b 0 ∧ σ 2 = sl 0 0 0 0 ∧ σ 6 = I ((q : Int) - j) ∧ ∃ L, DK h' h.length h.length (σ 3) L ∧ KGood (L.map (·.1))) (fun j => q - j) 0 ?_ ?_
   ·exact ⟨by omega, md', hs3.mono (by omega), by simp [p0], by simp [p2], by simp, L, by simpa using dL3, gL⟩
   ·clear gL dL3 dL' dL sub p0 p2 p4 p5 md md' hs' hs3
    rintro j σ h' ⟨hj, md, hs', p0, p2, p6, L, dL, gL⟩
    simp (disch := omega) [p6]
    refine fork_dec (fun hlt => ?_) (fun hge => ?_)
    ·have hl' := md.1
     simp (disch := omega) [p0]
     refine callW_of (c540 h' b _ hs' (by omega) (by omega)) ?_
     rintro _ h4 ⟨s, rfl, sl, md4, hs4⟩
     try refine ⟨fun e => (by cases e), ?_⟩
     have dL4 := dL.mod md4 hb hb
     have md' := md.trans md4
     have hl4 := md'.1
     try simp (disch := omega) [p0]
     refine callW_of (c445 h4 b _ 3 hs4 (by omega) (by omega)) ?_
     rintro pv h5 ⟨P, okP', _, _, md5, oP, hs5⟩
     try refine ⟨fun e => (by cases e), ?_⟩
     have dL5 := dL4.mod md5 hb hb
     have md'' := md'.trans md5
     have vP := oP.vr
     obtain ⟨pa, pb, pc, rfl⟩ := vP.panel3
     have gl := gL.len
     simp at gl
     have vL := dL5.vr (by omega)
     obtain ⟨lb, lz, e3, _, _⟩ := dL5.sl
     rw [e3] at vL
     have hsz := good_siz gL
     have hpz : siz shPanel P ≤ 1048576 := by
      have := okP'.siz
      rw [show P = (P.1, P.2.1, P.2.2) from rfl, siz_panel]; omega
     simp (disch := omega) [e3]
     refine callW_of (c329 h5 (by have := md''.1; omega) _ _ vL hsz s (by omega) _ P vP hpz) ?_
     rintro _ h6 ⟨g6, r0, rfl, oA, _⟩
     try refine ⟨fun e => (by first | exact g6 | cases e), ?_⟩
     obtain ⟨an, han⟩ : ∃ an, an = addAns (L.map (·.1)) s P := ⟨_, rfl⟩
     rw [← han] at oA ⊢
     have vA := oA.vr
     obtain ⟨rb, ro, rz, rfl, _⟩ := vA.kat
     have md6 : Mod b (b + 1) h h6 := md''.trans g6.mod
     have hs6 := hs5.grow g6
     have dL6 := dL5.grow g6
     simp (disch := omega)
     by_cases e0 : an.2 = 0
     ·have ha : addAns (L.map (·.1)) s P = (an.1, 0) := by rw [← han, ← e0]
      obtain ⟨gA, _, eI, _⟩ := add_good ha
      have hne : an.1 ≠ [] := by
       rw [eI]
       intro e
       have := congrArg List.length e
       rw [insK_len] at this
       simp at this
      obtain ⟨A2, eA2, dA2⟩ := DK.of_vo oA hne
      have l5 := md''.1
      have dA3 := dA2.low (show h.length ≤ h5.length by omega) (show h.length ≤ h5.length by omega)
      simp (disch := omega) [e0, p0, p2, p6, wrap64]
      exact ⟨j + 1, ⟨by omega, md6, hs6.mono (by omega), by omega, A2, dA3, by rw [eA2]; exact gA⟩, by omega⟩
     ·simp (disch := omega) [e0, p0, p2, p6, wrap64]
      exact ⟨j + 1, ⟨by omega, md6, hs6.mono (by omega), by omega, L, dL6, gL⟩, by omega⟩
    ·have : j ≤ 3 := by omega
     obtain ⟨lb, lz, e3, _, _⟩ := dL.sl
     rw [e3] at dL
     simp (disch := omega)
     subst hK
     simp (disch := omega) [e3]
     exact ⟨L, gL, md, dL, hs'.mono (by omega)⟩
end Am

/- Contracts: AmT2, AmT3, AmC7, AmP1, AmP3, AmT4, AmT5, AmP4, AmP7. -/
import Derived.Test.YtikhbjdcomgemaaAmK1
/-! AmT2 -/
set_option linter.unusedVariables false
set_option linter.unusedSimpArgs false
set_option maxHeartbeats 4000000
namespace Am
open Go

def SzOk (f : Nat) (D : Shp) : Prop := ∀ h v X (left : Nat), Vr h D v X → left ≤ 1048576 → ACall Gam f [v, I left] h fun r h' => (r = if siz D X ≤ left then I ((left - siz D X : Nat) : Int) else I (-1)) ∧ h' = h
def MarkOk (f : Nat) (D : Shp) : Prop := ∀ h lo hi v X (k : Nat), Vo h lo hi D v X → k + cvd D X ≤ 1099511627776 → ACall Gam f [v, I k] h fun r h' => r = I ((k + cvd D X : Nat) : Int) ∧ Mod lo hi h h' ∧ Vo h' lo hi D v (mvd D X k)
def HeldOk (f : Nat) (D : Shp) : Prop := ∀ h v X (k : Nat), Vr h D v (mvd D X k) → k + cvd D X ≤ 1099511627776 → ACall Gam f [v, I k] h fun r h' => r = I ((k + cvd D X : Nat) : Int) ∧ Grows h h'

theorem sum_one {α : Type} : ∀ (X : List α), (X.map fun _ => 1).sum = X.length
  | [] => rfl
  | x :: X => by simp [sum_one X]; omega
theorem sum_zero {α : Type} : ∀ (X : List α), (X.map fun _ => 0).sum = 0
  | [] => rfl
  | x :: X => by simp [sum_zero X]
theorem ints_append (a b : List Int) : ints (a ++ b) = ints a ++ ints b := by simp [ints]
theorem ints_cons (a : Int) (b : List Int) : ints (a :: b) = I a :: ints b := rfl
theorem ints_nil : ints [] = [] := rfl
theorem siz_ints (X : List Int) : siz shInts X = X.length := by
  show X.length + (X.map fun _ => 0).sum = _
  rw [sum_zero]; rfl
theorem cvd_ints (X : List Int) : cvd shInts X = X.length := sum_one X
def nums (k n : Nat) : List Int := (List.range n).map fun i => ((k + i : Nat) : Int)
theorem nums_len (k n : Nat) : (nums k n).length = n := by simp [nums]
theorem nums_succ (k n : Nat) : nums k (n + 1) = nums k n ++ [((k + n : Nat) : Int)] := by simp [nums, List.range_succ]
theorem mvd_ints : ∀ (X : List Int) (k : Nat), mvd shInts X k = nums k X.length
  | [], k => rfl
  | x :: X, k => by
    refine (congrArg (List.cons ((k : Nat) : Int)) (mvd_ints X (k + 1))).trans ?_
    simp only [nums, List.length_cons, List.range_succ_eq_map, List.map_cons, List.map_map]
    congr 1
    apply List.map_congr_left
    intro i _
    simp; omega
theorem nums_i64 {k n : Nat} (h : k + n ≤ 1099511627776) : ∀ x ∈ nums k n, I64 x := by
  intro x hx
  obtain ⟨i, hi, rfl⟩ := List.mem_map.1 hx
  have := List.mem_range.1 hi
  unfold I64; omega

/-- One cell is written. -/
theorem store_one {h : Heap} {b o : Nat} {cs : List Value} {v : Value} (hk : h[b]? = some ⟨cs, true⟩) (ho : o < cs.length) : storeAt h b o [v] = some (h.set b ⟨cs.set o v, true⟩) := by
  unfold storeAt
  simp only [hk]
  rw [if_pos ⟨trivial, ho⟩]
  congr 3
  unfold splice
  rw [List.set_eq_take_append_cons_drop, if_pos ho]
  simp
theorem set_end {α : Type} {A B : List α} {x v : α} {n : Nat} (hn : n = A.length) : (A ++ x :: B).set n v = A ++ v :: B := by subst hn; simp
theorem Mod.put {lo hi b : Nat} {h h' : Heap} (m : Mod lo hi h h') (hb : lo ≤ b ∧ b < hi) (k : Blk) : Mod lo hi h (h'.set b k) :=
  ⟨by simpa using m.1, fun c hc hn => by rw [List.getElem?_set_ne (by omega)]; exact m.2 c hc hn⟩
theorem Mod.refl (lo hi : Nat) (h : Heap) : Mod lo hi h h := ⟨Nat.le_refl _, fun _ _ _ => rfl⟩
theorem Mod.grow {lo hi : Nat} {a b c : Heap} (m : Mod lo hi a b) (g : Grows b c) : Mod lo hi a c := m.trans g.mod

theorem c290 : SzOk 290 shInts := by
  intro h v (X : List Int) left hv hl
  obtain ⟨b, o, zz, rfl, hzz, hm, hx, hc⟩ := hv.ints
  rw [maxLen_eq] at hm
  refine ACall_intro g290 rfl ?_
  unfold fn290
  simp (disch := omega) [wrap64]
  rw [siz_ints]
  refine fork_dec (fun h1 => ?_) (fun h1 => ?_)
  · rw [if_neg (by omega)]; simp
  · rw [if_pos (by omega)]; simp; omega

theorem c297 : ToOk 297 shInts := by
  intro h v (X : List Int) hp hv hs
  obtain ⟨bb, o, zz, rfl, hzz, hm, hx, hc⟩ := hv.ints
  rw [siz_ints] at hs
  refine ACall_intro g297 rfl ?_
  unfold fn297
  simp (disch := omega) [aMake, maxSize]
  rw [if_pos (by omega)]
  simp
  refine awp_loop (fun k σ h' => k ≤ X.length ∧ Grows h h' ∧ σ 0 = sl bb o X.length zz ∧ σ 3 = sl h.length 0 X.length 1 ∧ σ 4 = I k ∧ h'[h.length]? = some ⟨ints (X.take k) ++ reps (X.length - k) [I 0], true⟩) (fun k => X.length - k) 0 ?_ ?_
  · exact ⟨by omega, ⟨_, rfl⟩, by simp, by simp, by simp, by simp [ints]⟩
  · rintro k σ h' ⟨hk, hgr, h0, h3, h4, hb0⟩
    simp (disch := omega) [h0, h4]
    refine fork_dec (fun hlt => ?_) (fun hge => ?_)
    · have hlt : k < X.length := by omega
      have hcell := ints_cell (hc.imp id (grows_cellsAt hgr)) hlt
      have hsub : X.length - k = (X.length - (k + 1)) + 1 := by omega
      have hA : (ints (X.take k)).length = k := by simp [ints]; omega
      have hst := store_one (v := I X[k]) (o := k) hb0 (by rw [List.length_append, hA, hsub, reps_succ]; simp)
      rw [hsub, reps_succ, show [I 0] ++ reps (X.length - (k + 1)) [I 0] = I 0 :: reps (X.length - (k + 1)) [I 0] from rfl, set_end hA.symm] at hst
      simp (disch := omega) [h0, h3, h4, hlt, hcell, hst, wrap64]
      refine ⟨k + 1, ⟨by omega, hgr.put (Nat.le_refl _) _, by omega, ?_⟩, by omega⟩
      have e2 : ints (X.take (k + 1)) = ints (X.take k) ++ [I X[k]] := by rw [List.take_succ_eq_append_getElem hlt, ints_append]; rfl
      rw [e2]
      simp [at_lt hb0]
    · have e : k = X.length := by omega
      subst e
      rw [List.take_length] at hb0
      simp [reps] at hb0
      simp (disch := omega) [h0, h3, h4]
      exact ⟨hgr, Vo.of_ints (.inl rfl) hm hx (.inr ⟨hb0, Nat.le_refl _, at_lt hb0⟩)⟩

theorem c259 : EqTrue 259 shInts := by
  intro h v w (X : List Int) hv hw
  obtain ⟨bb, o, zz, rfl, hzz, hm, hx, hc⟩ := hv.ints
  obtain ⟨bb2, o2, zz2, rfl, _, _, _, hc2⟩ := hw.ints
  rw [maxLen_eq] at hm
  refine ACall_intro g259 rfl ?_
  unfold fn259
  simp (disch := omega)
  refine awp_loop (fun k σ h' => h' = h ∧ k ≤ X.length ∧ σ 0 = sl bb o X.length zz ∧ σ 1 = sl bb2 o2 X.length zz2 ∧ σ 5 = I k) (fun k => X.length - k) 0 ?_ ?_
  · simp
  · rintro k σ h' ⟨rfl, hk, h0, h1, h5⟩
    simp (disch := omega) [h0, h5]
    refine fork_dec (fun hlt => ?_) (fun hge => ?_)
    · have hlt : k < X.length := by omega
      simp (disch := omega) [h0, h1, h5, hlt, ints_cell hc hlt, ints_cell hc2 hlt, wrap64]
      exact ⟨k + 1, ⟨by omega, by omega⟩, by omega⟩
    · simp (disch := omega) [h0, h1, h5]

theorem c282 : MarkOk 282 shInts := by
  intro h lo hi v (X : List Int) k hv hk
  obtain ⟨bb, zz, rfl, hzz, hm, hx, hc⟩ := hv.ints
  rw [cvd_ints] at hk
  rw [cvd_ints, mvd_ints]
  refine ACall_intro g282 rfl ?_
  unfold fn282
  simp (disch := omega)
  refine awp_loop (fun i σ h' => i ≤ X.length ∧ Mod lo hi h h' ∧ σ 0 = sl bb 0 X.length zz ∧ σ 1 = I ((k + i : Nat) : Int) ∧ σ 5 = I i ∧ (X = [] ∨ h'[bb]? = some ⟨ints (nums k i ++ X.drop i), true⟩)) (fun i => X.length - i) 0 ?_ ?_
  · exact ⟨by omega, Mod.refl _ _ _, by simp, by simp, by simp, by
      rcases hc with hc | hc
      · exact .inl hc
      · exact .inr (by simpa [nums] using hc.1)⟩
  · rintro i σ h' ⟨hi', hmd, h0, h1, h5, hb⟩
    simp (disch := omega) [h0, h5]
    refine fork_dec (fun hlt => ?_) (fun hge => ?_)
    · have hlt : i < X.length := by omega
      have hne : X ≠ [] := by intro e; subst e; simp at hlt
      have hb := hb.resolve_left hne
      have hc := hc.resolve_left hne
      have hA : (ints (nums k i)).length = i := by simp [ints, nums]
      have hst := store_one (v := I ((k + i : Nat) : Int)) (o := i) hb (by simp [ints, nums]; omega)
      rw [List.drop_eq_getElem_cons hlt, ints_append, ints_cons, set_end hA.symm] at hst
      simp only [Int.natCast_add] at hst
      simp (disch := omega) [h0, h1, h5, hlt, hst, wrap64]
      refine ⟨i + 1, ⟨by omega, hmd.put hc.2 _, by omega, by omega, .inr ?_⟩, by omega⟩
      rw [nums_succ]
      simp [ints_append, ints_cons, ints_nil, at_lt hb]
    · have e : i = X.length := by omega
      subst e
      simp (disch := omega) [h0, h1, h5]
      refine ⟨hmd, ?_⟩
      have := Vo.of_ints (h := h') (b := bb) (lo := lo) (hi := hi) (X := nums k X.length) (hzz.imp id fun e => ⟨e.1, by rw [e.2]; rfl⟩) (by rw [nums_len]; exact hm) (nums_i64 hk) (by
        rcases hb with hb | hb
        · subst hb; exact .inl rfl
        · by_cases hX : X = []
          · subst hX; exact .inl rfl
          · exact .inr ⟨by simpa using hb, (hc.resolve_left hX).2⟩)
      rw [nums_len] at this
      exact this

theorem nums_get {k n i : Nat} (h : i < (nums k n).length) : (nums k n)[i] = ((k + i : Nat) : Int) := by simp [nums]
theorem c275 : HeldOk 275 shInts := by
  intro h v (X : List Int) k hv hk
  rw [cvd_ints] at hk ⊢
  rw [mvd_ints] at hv
  obtain ⟨bb, o, zz, rfl, hzz, hm, hx, hc⟩ := hv.ints
  rw [nums_len]
  refine ACall_intro g275 rfl ?_
  unfold fn275
  simp (disch := omega)
  refine awp_loop (fun i σ h' => h' = h ∧ i ≤ X.length ∧ σ 0 = sl bb o X.length zz ∧ σ 1 = I ((k + i : Nat) : Int) ∧ σ 5 = I i) (fun i => X.length - i) 0 ?_ ?_
  · simp
  · rintro i σ h' ⟨rfl, hi', h0, h1, h5⟩
    simp (disch := omega) [h0, h5]
    refine fork_dec (fun hlt => ?_) (fun hge => ?_)
    · have hlt : i < X.length := by omega
      have hcell := ints_cell hc (by rw [nums_len]; exact hlt)
      rw [nums_get] at hcell
      simp (disch := omega) [h0, h1, h5, hlt, hcell, wrap64]
      exact ⟨i + 1, ⟨by omega, by omega, by omega⟩, by omega⟩
    · have e : i = X.length := by omega
      subst e
      simp (disch := omega) [h0, h1, h5, Grows.refl]

/-! ### panels -/
theorem Vr.panel {h : Heap} {v : Value} {W H : Int} {br : List Int} (x : Vr h shPanel v (W, H, br)) : ∃ s, v = .agg #[I W, I H, s] ∧ I64 W ∧ I64 H ∧ Vr h shInts s br := by
  obtain ⟨cs, ⟨c1, c2, rfl, ⟨rfl, w1⟩, ⟨c3, c4, rfl, ⟨rfl, w2⟩, r⟩⟩, rfl⟩ := x
  have hl := r.len
  match c4, hl with
  | [s], _ => exact ⟨s, rfl, wf_i64.1 w1, wf_i64.1 w2, [s], r, rfl⟩
theorem Vr.of_panel {h : Heap} {s : Value} {W H : Int} {br : List Int} (h1 : I64 W) (h2 : I64 H) (x : Vr h shInts s br) : Vr h shPanel (.agg #[I W, I H, s]) (W, H, br) := by
  obtain ⟨cs, r, rfl⟩ := x
  have hl := r.len
  match cs, hl with
  | [s], _ => exact ⟨[I W, I H, s], ⟨[I W], [I H, s], rfl, ⟨rfl, wf_i64.2 h1⟩, [I H], [s], rfl, ⟨rfl, wf_i64.2 h2⟩, r⟩, rfl⟩
theorem Vo.panel {h : Heap} {lo hi : Nat} {v : Value} {W H : Int} {br : List Int} (x : Vo h lo hi shPanel v (W, H, br)) : ∃ s, v = .agg #[I W, I H, s] ∧ I64 W ∧ I64 H ∧ Vo h lo hi shInts s br := by
  obtain ⟨cs, bs, ⟨c1, c2, b1, b2, rfl, rfl, ⟨rfl, w1, rfl⟩, ⟨c3, c4, b3, b4, rfl, rfl, ⟨rfl, w2, rfl⟩, r⟩⟩, rfl, nd, hb⟩ := x
  have hl := r.len
  match c4, hl with
  | [s], _ => exact ⟨s, rfl, wf_i64.1 w1, wf_i64.1 w2, [s], _, r, rfl, by simpa using nd, by simpa using hb⟩
theorem Vo.of_panel {h : Heap} {lo hi : Nat} {s : Value} {W H : Int} {br : List Int} (h1 : I64 W) (h2 : I64 H) (x : Vo h lo hi shInts s br) : Vo h lo hi shPanel (.agg #[I W, I H, s]) (W, H, br) := by
  obtain ⟨cs, bs, r, rfl, nd, hb⟩ := x
  have hl := r.len
  match cs, hl with
  | [s], _ => exact ⟨[I W, I H, s], bs, ⟨[I W], [I H, s], [], bs, rfl, rfl, ⟨rfl, wf_i64.2 h1, rfl⟩, [I H], [s], [], bs, rfl, rfl, ⟨rfl, wf_i64.2 h2, rfl⟩, r⟩, rfl, nd, hb⟩
theorem siz_panel (W H : Int) (br : List Int) : siz shPanel (W, H, br) = br.length := by
  show 0 + (0 + siz shInts br) = _
  rw [siz_ints]; omega
theorem c295 : SzOk 295 shPanel := by
  rintro h v ⟨(W : Int), (H : Int), (br : List Int)⟩ left hv hl
  obtain ⟨s, rfl, _, _, hs⟩ := hv.panel
  refine ACall_intro g295 rfl ?_
  unfold fn295
  simp (disch := omega)
  refine callW_of (c290 _ _ br left hs hl) ?_
  rintro v h' ⟨rfl, rfl⟩
  rw [siz_panel, siz_ints]
  split
  · simp (disch := omega)
    refine fork_dec (fun h1 => ?_) (fun h1 => ?_)
    · omega
    · simp
  · simp
theorem c303 : ToOk 303 shPanel := by
  rintro h v ⟨(W : Int), (H : Int), (br : List Int)⟩ hp hv hs
  obtain ⟨s, rfl, w1, w2, hs'⟩ := hv.panel
  rw [siz_panel] at hs
  refine ACall_intro g303 rfl ?_
  unfold fn303
  simp (disch := omega)
  refine callW_of (c297 _ _ br hp hs' (by rw [siz_ints]; exact hs)) ?_
  rintro v h' ⟨hg, ho⟩
  obtain ⟨b, zz, e, _⟩ := ho.ints
  subst e
  simp (disch := omega) [resOf_box, aField]
  exact ⟨hg, Vo.of_panel w1 w2 ho⟩
theorem c265 : EqTrue 265 shPanel := by
  rintro h v w ⟨(W : Int), (H : Int), (br : List Int)⟩ hv hw
  obtain ⟨s, rfl, _, _, hs⟩ := hv.panel
  obtain ⟨s2, rfl, _, _, hs2⟩ := hw.panel
  refine ACall_intro g265 rfl ?_
  unfold fn265
  simp (disch := omega)
  refine callW_of (c259 _ _ _ br hs hs2) ?_
  rintro v h' ⟨rfl, rfl⟩
  simp
end Am
/-! AmT3 -/
set_option linter.unusedVariables false
set_option linter.unusedSimpArgs false
set_option maxHeartbeats 4000000
namespace Am
open Go

abbrev Trip := Int × Int × Int
def trip (t : Trip) : List Value := [I t.1, I t.2.1, I t.2.2]
def trips (l : List Trip) : List Value := (l.map trip).flatten
def T64 (t : Trip) : Prop := I64 t.1 ∧ I64 t.2.1 ∧ I64 t.2.2
theorem trips_cons (a : Trip) (b : List Trip) : trips (a :: b) = I a.1 :: I a.2.1 :: I a.2.2 :: trips b := by simp [trips, trip]
theorem trips_len : ∀ l : List Trip, (trips l).length = 3 * l.length
  | [] => rfl
  | a :: l => by rw [trips_cons]; simp [trips_len l]; omega
theorem rd_trip {h : Heap} {c : List Value} {t : Trip} : Rd h shTrip c t ↔ c = trip t ∧ T64 t := by
  constructor
  · rintro ⟨c1, c2, rfl, ⟨rfl, w1⟩, c3, c4, rfl, ⟨rfl, w2⟩, rfl, w3⟩
    exact ⟨rfl, wf_i64.1 w1, wf_i64.1 w2, wf_i64.1 w3⟩
  · rintro ⟨rfl, w1, w2, w3⟩
    exact ⟨[I t.1], [I t.2.1, I t.2.2], rfl, ⟨rfl, wf_i64.2 w1⟩, [I t.2.1], [I t.2.2], rfl, ⟨rfl, wf_i64.2 w2⟩, rfl, wf_i64.2 w3⟩
theorem rd_trips {h : Heap} : ∀ {css : List (List Value)} {X : List Trip}, All2 (fun c y => Rd h shTrip c y) css X → css.flatten = trips X ∧ ∀ x ∈ X, T64 x
  | [], [], _ => by simp [trips]
  | c :: css, x :: X, r => by
    obtain ⟨e, w⟩ := rd_trip.1 r.1
    obtain ⟨h1, h2⟩ := rd_trips r.2
    refine ⟨by simp [e, h1, trips], fun y hy => ?_⟩
    rcases List.mem_cons.1 hy with rfl | hy
    · exact w
    · exact h2 y hy
theorem Vr.trips {h : Heap} {v : Value} {X : List Trip} (x : Vr h shTrips v X) : ∃ b o z, v = sl b o X.length z ∧ (z = 3 ∨ b = 0 ∧ X = []) ∧ X.length ≤ maxLen ∧ (∀ x ∈ X, T64 x) ∧ (X = [] ∨ cellsAt h b o (X.length * 3) = some (Am.trips X)) := by
  obtain ⟨cs, ⟨b, o, z, css, rfl, hz, hm, h1, h2⟩, rfl⟩ := x
  obtain ⟨e1, e2⟩ := rd_trips h1
  have h2' : X = [] ∨ cellsAt h b o (X.length * 3) = some css.flatten := h2
  rw [e1] at h2'
  exact ⟨b, o, z, rfl, hz, hm, e2, h2'⟩
theorem all_trips (h : Heap) : ∀ (X : List Trip), (∀ x ∈ X, T64 x) → All2 (fun c y => Rd h shTrip c y) (X.map trip) X
  | [], _ => trivial
  | x :: X, hx => ⟨rd_trip.2 ⟨rfl, hx x (by simp)⟩, all_trips h X fun y hy => hx y (by simp [hy])⟩
theorem Vr.of_trips {h : Heap} {b o z : Nat} {X : List Trip} (hz : z = 3 ∨ b = 0 ∧ X = []) (hm : X.length ≤ maxLen) (hx : ∀ x ∈ X, T64 x) (hc : X = [] ∨ cellsAt h b o (X.length * 3) = some (Am.trips X)) : Vr h shTrips (sl b o X.length z) X :=
  ⟨[sl b o X.length z], ⟨b, o, z, X.map trip, rfl, hz, hm, all_trips h X hx, hc⟩, rfl⟩
theorem ow_trip {h : Heap} {c : List Value} {t : Trip} {bs : List Nat} : Ow h shTrip c t bs ↔ c = trip t ∧ T64 t ∧ bs = [] := by
  constructor
  · rintro ⟨c1, c2, b1, b2, rfl, rfl, ⟨rfl, w1, rfl⟩, c3, c4, b3, b4, rfl, rfl, ⟨rfl, w2, rfl⟩, rfl, w3, rfl⟩
    exact ⟨rfl, ⟨wf_i64.1 w1, wf_i64.1 w2, wf_i64.1 w3⟩, rfl⟩
  · rintro ⟨rfl, ⟨w1, w2, w3⟩, rfl⟩
    exact ⟨[I t.1], [I t.2.1, I t.2.2], [], [], rfl, rfl, ⟨rfl, wf_i64.2 w1, rfl⟩, [I t.2.1], [I t.2.2], [], [], rfl, rfl, ⟨rfl, wf_i64.2 w2, rfl⟩, rfl, wf_i64.2 w3, rfl⟩
theorem all3_trips (h : Heap) : ∀ (X : List Trip), (∀ x ∈ X, T64 x) → All3 (fun c y s => Ow h shTrip c y s) (X.map trip) X (X.map fun _ => [])
  | [], _ => trivial
  | x :: X, hx => ⟨ow_trip.2 ⟨rfl, hx x (by simp), rfl⟩, all3_trips h X fun y hy => hx y (by simp [hy])⟩
theorem Vo.of_trips {h : Heap} {b lo hi z : Nat} {X : List Trip} (hz : z = 3 ∨ b = 0 ∧ X = []) (hm : X.length ≤ maxLen) (hx : ∀ x ∈ X, T64 x) (hc : X = [] ∨ h[b]? = some ⟨Am.trips X, true⟩ ∧ lo ≤ b ∧ b < hi) : Vo h lo hi shTrips (sl b 0 X.length z) X := by
  refine ⟨[sl b 0 X.length z], if X = [] then [] else [b], ⟨b, z, X.map trip, X.map fun _ => [], rfl, hz, hm, all3_trips h X hx, ?_⟩, rfl, ?_, ?_⟩
  · by_cases h0 : X = []
    · exact .inl ⟨h0, by simp [h0]⟩
    · exact .inr ⟨h0, by rw [if_neg h0, nils_flat], (hc.resolve_left h0).1⟩
  · split <;> simp
  · intro b' hb'
    by_cases h0 : X = []
    · simp [h0] at hb'
    · simp [h0] at hb'; subst hb'; exact (hc.resolve_left h0).2
theorem All3.trips {h : Heap} : ∀ {css : List (List Value)} {X : List Trip} {bss : List (List Nat)}, All3 (fun c y s => Ow h shTrip c y s) css X bss → css.flatten = Am.trips X ∧ (∀ x ∈ X, T64 x) ∧ bss.flatten = []
  | [], [], [], _ => by simp [Am.trips]
  | c :: css, x :: X, s :: bss, r => by
    obtain ⟨e, w, es⟩ := ow_trip.1 r.1
    obtain ⟨h1, h2, h3⟩ := All3.trips r.2
    refine ⟨by simp [e, h1, Am.trips], fun y hy => ?_, by simp [es, h3]⟩
    rcases List.mem_cons.1 hy with rfl | hy
    · exact w
    · exact h2 y hy
  | [], _ :: _, _, r => r.elim
  | [], [], _ :: _, r => r.elim
  | _ :: _, [], _, r => r.elim
  | _ :: _, _ :: _, [], r => r.elim
theorem Vo.trips {h : Heap} {lo hi : Nat} {v : Value} {X : List Trip} (x : Vo h lo hi shTrips v X) : ∃ b z, v = sl b 0 X.length z ∧ (z = 3 ∨ b = 0 ∧ X = []) ∧ X.length ≤ maxLen ∧ (∀ x ∈ X, T64 x) ∧ (X = [] ∨ h[b]? = some ⟨Am.trips X, true⟩ ∧ lo ≤ b ∧ b < hi) := by
  obtain ⟨cs, bs, ⟨b, z, css, bss, rfl, hz, hm, h1, h2⟩, rfl, _, hb⟩ := x
  obtain ⟨e1, e2, e3⟩ := All3.trips h1
  refine ⟨b, z, rfl, hz, hm, e2, ?_⟩
  rcases h2 with ⟨h2, _⟩ | ⟨_, h3, h4⟩
  · exact .inl h2
  · rw [e3] at h3; rw [e1] at h4
    exact .inr ⟨h4, hb b (by simp [h3])⟩

theorem Vr.trip {h : Heap} {v : Value} {t : Trip} (x : Vr h shTrip v t) : v = .agg #[I t.1, I t.2.1, I t.2.2] ∧ T64 t := by
  obtain ⟨cs, r, rfl⟩ := x
  obtain ⟨rfl, w⟩ := rd_trip.1 r
  exact ⟨rfl, w⟩

def tnums (k n : Nat) : List Trip := (List.range n).map fun i => (((k + 3 * i : Nat) : Int), ((k + 3 * i + 1 : Nat) : Int), ((k + 3 * i + 2 : Nat) : Int))
theorem pos_of {h h' : Heap} (hp : 0 < h.length) (g : Grows h h') : 0 < h'.length := Nat.lt_of_lt_of_le hp g.le
@[simp] theorem nat_neg (n : Nat) : ((n : Int) < 0) = False := by simp
theorem all2_nil {α β : Type} {R : α → β → Prop} {vs : List β} (h : All2 R [] vs) : vs = [] := by cases vs with | nil => rfl | cons _ _ => exact h.elim
theorem all2_cons {α β : Type} {R : α → β → Prop} {a : α} {l : List α} {vs : List β} (h : All2 R (a :: l) vs) : ∃ v r, vs = v :: r ∧ R a v ∧ All2 R l r := by
  cases vs with
  | nil => exact h.elim
  | cons v r => exact ⟨v, r, rfl, h.1, h.2⟩
theorem ArgR.vr {h : Heap} {D : Shp} {v : Value} (x : ArgR h D v) : ∃ X, Vr h D v X := by obtain ⟨cs, X, r, e⟩ := x; exact ⟨X, cs, r, e⟩
theorem ArgR.int {h : Heap} {v : Value} (x : ArgR h shInt v) : ∃ a, v = I a ∧ I64 a := by obtain ⟨cs, X, ⟨rfl, w⟩, rfl⟩ := x; exact ⟨X, rfl, wf_i64.1 w⟩
theorem ArgR.str {h : Heap} {v : Value} (x : ArgR h .str v) : ∃ s, v = S s ∧ s.length ≤ 9223372036854775807 := by obtain ⟨cs, X, ⟨rfl, w⟩, rfl⟩ := x; exact ⟨X, rfl, by rw [← maxLen_eq]; exact w⟩
theorem Vr.panel3 {h : Heap} {v : Value} {X : shPanel.T} (x : Vr h shPanel v X) : ∃ a b c, v = .agg #[a, b, c] := by
  obtain ⟨W, H, br⟩ := X
  obtain ⟨s, e, _⟩ := x.panel
  exact ⟨_, _, _, e⟩
theorem Vr.journal5 {h : Heap} {v : Value} {X : shJournal.T} (x : Vr h shJournal v X) : ∃ a b c d f, v = .agg #[a, b, c, d, f] := by
  obtain ⟨cs, r, rfl⟩ := x
  have hl := r.len
  match cs, hl with
  | [a, b, c, d, f], _ => exact ⟨a, b, c, d, f, rfl⟩
theorem trips_inj_nil {X : List Trip} (h : trips X = []) : X = [] := by
  cases X with
  | nil => rfl
  | cons x X => rw [trips_cons] at h; cases h
theorem Buf.trips {h0 h : Heap} {v : Value} {X : List Trip} (x : Buf h0 h v 3 (Am.trips X)) (hm : X.length ≤ maxLen) (hx : ∀ x ∈ X, T64 x) : Vo h h0.length h.length shTrips v X := by
  rcases x with ⟨h1, rfl⟩ | ⟨b, n, rfl, h2, h3, h4⟩
  · have := trips_inj_nil h1
    subst this
    exact Vo.of_trips (X := []) (.inl rfl) (by simp) (by simp) (.inl rfl)
  · rw [trips_len] at h2
    have : n = X.length := by omega
    subst this
    exact Vo.of_trips (.inl rfl) hm hx (.inr ⟨h4, h3, at_lt h4⟩)
theorem ints_inj_nil {X : List Int} (h : ints X = []) : X = [] := by
  cases X with
  | nil => rfl
  | cons x X => cases h
theorem Buf.ints {h0 h : Heap} {v : Value} {X : List Int} (x : Buf h0 h v 1 (Am.ints X)) (hm : X.length ≤ maxLen) (hx : ∀ x ∈ X, I64 x) : Vo h h0.length h.length shInts v X := by
  rcases x with ⟨h1, rfl⟩ | ⟨b, n, rfl, h2, h3, h4⟩
  · have := ints_inj_nil h1
    subst this
    exact Vo.of_ints (X := []) (.inl rfl) (by simp) (by simp) (.inl rfl)
  · have : n = X.length := by simpa [Am.ints] using h2
    subst this
    exact Vo.of_ints (.inl rfl) hm hx (.inr ⟨h4, h3, at_lt h4⟩)
end Am
/-! AmC7 -/
set_option linter.unusedVariables false
set_option linter.unusedSimpArgs false
set_option maxHeartbeats 4000000
namespace Am
open Go

def inverse (X : List Trip) : List Trip := X.reverse.map fun t => (t.1, t.2.2, t.2.1)
end Am
/-! AmP1 -/
set_option linter.unusedVariables false
set_option linter.unusedSimpArgs false
set_option maxHeartbeats 4000000
namespace Am
open Go

abbrev Pan := Int × Int × List Int
def okBr (b : Int) : Bool := inR b 0 2
def okP (X : Pan) : Bool := okSz X.1 X.2.1 && (decide ((X.2.2.length : Int) = inner X.1 X.2.1) && X.2.2.all okBr)
structure OkP (X : Pan) : Prop where
  w : 1 ≤ X.1 ∧ X.1 ≤ 8
  h : 1 ≤ X.2.1 ∧ X.2.1 ≤ 8
  n : (X.2.2.length : Int) = inner X.1 X.2.1
  b : ∀ x ∈ X.2.2, 0 ≤ x ∧ x ≤ 2
theorem okP_iff {X : Pan} : okP X = true ↔ OkP X := by
  unfold okP
  simp only [Bool.and_eq_true, okSz_iff, decide_eq_true_eq, List.all_eq_true, okBr, inR_iff]
  exact ⟨fun ⟨⟨a, b⟩, c, d⟩ => ⟨a, b, c, d⟩, fun ⟨a, b, c, d⟩ => ⟨⟨a, b⟩, c, d⟩⟩

/-- A pointer to a panel. -/
def PtP (h : Heap) (v : Value) (X : Pan) : Prop := ∃ b o s, v = pt b o ∧ cell h b o = some (I X.1) ∧ cell h b (o + 1) = some (I X.2.1) ∧ cell h b (o + 2) = some s ∧ Vr h shInts s X.2.2 ∧ I64 X.1 ∧ I64 X.2.1
theorem Grows.cell {h h' : Heap} (g : Grows h h') {b o : Nat} {v : Value} (x : Am.cell h b o = some v) : Am.cell h' b o = some v := by
  unfold Am.cell at *
  split at x
  · rename_i k hk; rw [g.at hk]; exact x
  · cases x
theorem PtP.grow {h h' : Heap} {v : Value} {X : Pan} (x : PtP h v X) (g : Grows h h') : PtP h' v X := by
  obtain ⟨b, o, s, e, h1, h2, h3, h4, h5⟩ := x
  exact ⟨b, o, s, e, g.cell h1, g.cell h2, g.cell h3, h4.grow g, h5⟩
theorem PtP.push {h : Heap} {W H : Int} {s : Value} {br : List Int} {r : Bool} {l : List Blk} (hs : Vr h shInts s br) (hW : I64 W) (hH : I64 H) : PtP (h ++ ⟨[I W, I H, s], r⟩ :: l) (pt h.length 0) (W, H, br) := by
  refine ⟨h.length, 0, s, rfl, ?_, ?_, ?_, hs.grow ⟨_, rfl⟩, hW, hH⟩ <;> simp [Am.cell]

theorem c196 (a : Int) (h : Heap) : ACall Gam 196 [I a] h fun v h' => v = B (okBr a) ∧ h' = h := by
  refine ACall_intro g196 rfl ?_
  unfold fn196
  simp (disch := omega)
  refine callW_of (c164 a 0 2 h) ?_
  rintro v h' ⟨rfl, rfl⟩
  simp [okBr]

theorem all_drop {α : Type} {p : α → Bool} {l : List α} {k : Nat} (hk : k < l.length) : (l.drop k).all p = (p l[k] && (l.drop (k + 1)).all p) := by
  rw [List.drop_eq_getElem_cons hk]; rfl

theorem c452 (v : Value) (X : Pan) (h : Heap) (hv : PtP h v X) : ACall Gam 452 [v] h fun r h' => r = B (okP X) ∧ h' = h := by
  obtain ⟨b, o, s, rfl, h1, h2, h3, hs, hW, hH⟩ := hv
  obtain ⟨W, H, br⟩ := X
  obtain ⟨b2, o2, z, rfl, _, hm, hx, hc⟩ := hs.ints
  rw [maxLen_eq] at hm
  have hm : br.length ≤ 9223372036854775807 := hm
  simp only at h1 h2
  refine ACall_intro g452 rfl ?_
  unfold fn452
  simp (disch := omega) [h1, h2, h3]
  refine callW_of (c457 W h) ?_
  rintro v h' ⟨rfl, rfl⟩
  cases hb : inR W 1 8
  · simp [okP, okSz, hb]
  · simp (disch := omega) [h1, h2, h3]
    refine callW_of (c457 H h') ?_
    rintro v h' ⟨rfl, rfl⟩
    cases hc' : inR H 1 8
    · simp [okP, okSz, hb, hc']
    · simp (disch := omega) [h1, h2, h3]
      have qW := inR_iff.1 hb
      have qH := inR_iff.1 hc'
      refine callW_of (c448 W H qW qH h') ?_
      rintro v h' ⟨rfl, rfl⟩
      refine ⟨fun _ => Grows.refl _, ?_⟩
      simp (disch := omega) [h1, h2, h3]
      refine fork_dec (fun hn => ?_) (fun hn => ?_)
      · simp (disch := omega)
        refine awp_loop (fun k σ h'' => h'' = h' ∧ k ≤ br.length ∧ (br.drop k).all okBr = br.all okBr ∧ σ 0 = pt b o ∧ σ 3 = I k) (fun k => br.length - k) 0 ?_ ?_
        · simp
        · rintro k σ h'' ⟨rfl, hk, ht, q0, q3⟩
          simp (disch := omega) [q0, q3, h3]
          refine fork_dec (fun hlt => ?_) (fun hge => ?_)
          · have k1 : k < br.length := by omega
            simp (disch := omega) [q0, q3, h3, k1, ints_cell hc k1]
            refine callW_of (c432 br[k] 0 2 _) ?_
            rintro v h' ⟨rfl, rfl⟩
            rw [all_drop k1] at ht
            have eb : inR br[k] 0 2 = okBr br[k] := rfl
            rw [eb]
            cases hbr : okBr br[k]
            · rw [hbr] at ht
              simp [okP, okSz, hb, hc', hn, ← ht]
            · rw [hbr] at ht
              simp (disch := omega) [q0, q3, wrap64]
              exact ⟨k + 1, ⟨by omega, by simpa using ht, by omega⟩, by omega⟩
          · have : k = br.length := by omega
            subst this
            simp at ht
            simp [okP, okSz, hb, hc', hn]
            exact ht
      · simp [okP, okSz, hb, hc', hn]

theorem c140 (v : Value) (X : Pan) (h : Heap) (hv : Vr h shPanel v X) : ACall Gam 140 [v] h fun r h' => r = B (okP X) ∧ h' = h := by
  obtain ⟨W, H, br⟩ := X
  obtain ⟨s, rfl, hW, hH, hs⟩ := hv.panel
  obtain ⟨b2, o2, z, rfl, _, hm, hx, hc⟩ := hs.ints
  rw [maxLen_eq] at hm
  refine ACall_intro g140 rfl ?_
  unfold fn140
  simp (disch := omega)
  refine callW_of (c198 W H h) ?_
  rintro v h' ⟨rfl, rfl⟩
  cases hb : okSz W H
  · simp [okP, hb]
  · obtain ⟨qW, qH⟩ := okSz_iff.1 hb
    simp (disch := omega)
    refine callW_of (c166 W H qW qH h') ?_
    rintro v h' ⟨rfl, rfl⟩
    simp (disch := omega)
    refine fork_dec (fun hn => ?_) (fun hn => ?_)
    · simp (disch := omega)
      refine awp_loop (fun k σ h'' => h'' = h' ∧ k ≤ br.length ∧ (br.drop k).all okBr = br.all okBr ∧ σ 23 = sl b2 o2 br.length z ∧ σ 24 = I br.length ∧ σ 25 = I k) (fun k => br.length - k) 0 ?_ ?_
      · simp
      · rintro k σ h'' ⟨rfl, hk, ht, q0, q1, q3⟩
        simp (disch := omega) [q0, q1, q3]
        refine fork_dec (fun hlt => ?_) (fun hge => ?_)
        · have k1 : k < br.length := by omega
          simp (disch := omega) [q0, q1, q3, k1, ints_cell hc k1]
          refine callW_of (c196 br[k] _) ?_
          rintro v h' ⟨rfl, rfl⟩
          rw [all_drop k1] at ht
          cases hbr : okBr br[k]
          · rw [hbr] at ht
            simp [okP, hb, hn, ← ht]
          · rw [hbr] at ht
            simp (disch := omega) [q0, q1, q3, wrap64]
            exact ⟨k + 1, ⟨by omega, by simpa using ht, by omega⟩, by omega⟩
        · have : k = br.length := by omega
          subst this
          simp at ht
          simp [okP, hb, hn]
          exact ht
    · simp [okP, hb, hn]
def at0 (br : List Int) (i : Nat) : Int := br.getD i 0
theorem at0_of {br : List Int} {i : Nat} (h : i < br.length) : at0 br i = br[i] := by simp [at0, h]
end Am
/-! AmP3 -/
set_option linter.unusedVariables false
set_option linter.unusedSimpArgs false
set_option maxHeartbeats 4000000
namespace Am
open Go

/-- A slice of numbers appended to an empty one: its own copy. -/
theorem own_ints {h : Heap} {v : Value} {X : List Int} {K : Value → Heap → Prop} (hp : 0 < h.length) (hv : Vr h shInts v X) (hs : X.length ≤ 1048576) (hK : ∀ v' h', Grows h h' → Vo h' h.length h'.length shInts v' X → K v' h') :
    bindW (aAppend 1 h v (sl 0 0 0 1)) K := by
  obtain ⟨b, o, z, rfl, hz, hm, hx, hc⟩ := hv.ints
  by_cases hX : X = []
  · subst hX
    have e : aAppend 1 h (sl b o (List.length ([] : List Int)) z) (sl 0 0 0 1) = some (sl 0 0 0 1, h) := by simp [aAppend, newCells]
    rw [e]
    exact hK _ _ (Grows.refl _) (Vo.of_ints (X := []) (.inl rfl) (by simp) (by simp) (.inl rfl))
  · have hc := hc.resolve_left hX
    have hne : X.length ≠ 0 := by simpa using hX
    refine append_buf hp (Grows.refl h) Buf.nil (new := ints X) ?_ (by omega) (by simpa [ints] using hX) (by simp [ints]) (by simp [ints, maxSize]; omega) ?_
    · simp [newCells, hX, hc]
    · intro v' h' g b1 _
      refine hK v' h' g ?_
      obtain ⟨b2, z2, rfl, hz2, _, _, hc2⟩ := (Buf.ints (by simpa using b1) hm hx).ints
      exact Vo.of_ints hz2 hm hx (hc2.imp id fun q => ⟨q.1, q.2.1, at_lt q.1⟩)

theorem c435 (h : Heap) (v : Value) (X : List Int) (hp : 0 < h.length) (hv : Vr h shInts v X) (hs : X.length ≤ 1048576) : ACall Gam 435 [v] h fun r h' => Grows h h' ∧ Vo h' h.length h'.length shInts r X := by
  refine ACall_intro g435 rfl ?_
  unfold fn435
  simp (disch := omega)
  refine own_ints hp hv hs fun v' h' g o => ?_
  obtain ⟨b, z, e, _⟩ := o.ints
  subst e
  exact ⟨g, o⟩
theorem c453 (h : Heap) (v : Value) (X : Pan) (hp : 0 < h.length) (hv : PtP h v X) (hs : X.2.2.length ≤ 1048576) : ACall Gam 453 [v] h fun r h' => Grows h h' ∧ Vo h' h.length h'.length shPanel r X := by
  obtain ⟨b, o, s, rfl, h1, h2, h3, hvs, hW, hH⟩ := hv
  obtain ⟨W, H, br⟩ := X
  refine ACall_intro g453 rfl ?_
  unfold fn453
  simp (disch := omega) [h1, h2, h3]
  refine callW_of (c435 _ _ br hp hvs hs) ?_
  rintro v' h' ⟨g, ov⟩
  refine ⟨fun _ => g, ?_⟩
  obtain ⟨b, z, e, _⟩ := ov.ints
  subst e
  simp (disch := omega) [resOf_box, aField]
  exact ⟨g, Vo.of_panel hW hH ov⟩
/-! ### new panels -/
def newP (W H : Int) : Pan := (W, H, List.replicate (inner W H).toNat 0)
theorem reps_ints (n : Nat) : reps n [I 0] = ints (List.replicate n 0) := by
  induction n with
  | zero => rfl
  | succ n ih => rw [reps_succ, ih, List.replicate_succ]; rfl
theorem new_ints {h : Heap} {n : Nat} (hp : 0 < h.length) (hn : n ≤ 1048576) : Vo (h ++ [⟨reps n [I 0], true⟩]) h.length (h.length + 1) shInts (sl h.length 0 n 1) (List.replicate n 0) := by
  have := Vo.of_ints (h := h ++ [⟨reps n [I 0], true⟩]) (b := h.length) (lo := h.length) (hi := h.length + 1) (z := 1) (X := List.replicate n 0) (.inl rfl) (by simp [maxLen_eq]; omega) (by intro x hx; simp at hx; unfold I64; omega) (.inr ⟨by simp [reps_ints], by omega, by omega⟩)
  simpa using this
theorem c450 (h : Heap) (W H : Int) (hW : 1 ≤ W ∧ W ≤ 8) (hH : 1 ≤ H ∧ H ≤ 8) (hp : 0 < h.length) : ACall Gam 450 [I W, I H] h fun r h' => Grows h h' ∧ Vo h' h.length h'.length shPanel r (newP W H) := by
  have hi := inner_bd hW hH
  refine ACall_intro g450 rfl ?_
  unfold fn450
  simp (disch := omega)
  refine callW_of (c448 W H hW hH h) ?_
  rintro v' h' ⟨rfl, rfl⟩
  simp (disch := omega) [aMake, maxSize]
  rw [if_pos (by omega)]
  simp (disch := omega) [resOf_box, aField]
  refine ⟨⟨_, rfl⟩, ?_⟩
  have := new_ints (h := h') (n := (inner W H).toNat) hp (by omega)
  exact Vo.of_panel (by unfold I64; omega) (by unfold I64; omega) this
theorem c177 (h : Heap) (W H : Int) (hW : 1 ≤ W ∧ W ≤ 8) (hH : 1 ≤ H ∧ H ≤ 8) (hp : 0 < h.length) : ACall Gam 177 [I W, I H] h fun r h' => Grows h h' ∧ Vo h' h.length h'.length shPanel r (newP W H) := by
  have hi := inner_bd hW hH
  refine ACall_intro g177 rfl ?_
  unfold fn177
  simp (disch := omega)
  refine callW_of (c166 W H hW hH h) ?_
  rintro v' h' ⟨rfl, rfl⟩
  simp (disch := omega) [aMake, maxSize]
  rw [if_pos (by omega)]
  simp (disch := omega) [resOf_box, aField]
  refine ⟨⟨_, rfl⟩, ?_⟩
  have := new_ints (h := h') (n := (inner W H).toNat) hp (by omega)
  exact Vo.of_panel (by unfold I64; omega) (by unfold I64; omega) this

/-! ### sizes -/
def sameSz (X Y : Pan) : Bool := decide (X.1 = Y.1) && decide (X.2.1 = Y.2.1)
def allOk : List Pan → Bool := fun l => l.all okP
def sizesCode (l : List Pan) : Int := if l.all okP then (if (l.drop 1).all fun y => sameSz y (l.headD (0, 0, [])) then 0 else 6) else 1
end Am
/-! AmT4 -/
set_option linter.unusedVariables false
set_option linter.unusedSimpArgs false
set_option maxHeartbeats 4000000
namespace Am
open Go

abbrev Pan3 := Int × Int × List Int
abbrev Jrn := Pan3 × List Trip × List Trip
theorem Rd.one {h : Heap} {a : Shp} {cs : List Value} {X : List a.T} (r : Rd h (.slice a) cs X) : ∃ s, cs = [s] := by
  have := r.len
  match cs, this with
  | [s], _ => exact ⟨s, rfl⟩
theorem Vr.journal {h : Heap} {v : Value} {W H : Int} {br : List Int} {p f : List Trip} (x : Vr h shJournal v ((W, H, br), p, f)) : ∃ s sp sf, v = .agg #[I W, I H, s, sp, sf] ∧ I64 W ∧ I64 H ∧ Vr h shInts s br ∧ Vr h shTrips sp p ∧ Vr h shTrips sf f := by
  obtain ⟨cs, ⟨c1, c2, rfl, ⟨c3, c4, rfl, ⟨rfl, w1⟩, c5, c6, rfl, ⟨rfl, w2⟩, r1⟩, c7, c8, rfl, r2, r3⟩, rfl⟩ := x
  obtain ⟨s, rfl⟩ := Rd.one r1
  obtain ⟨sp, rfl⟩ := Rd.one r2
  obtain ⟨sf, rfl⟩ := Rd.one r3
  exact ⟨s, sp, sf, rfl, wf_i64.1 w1, wf_i64.1 w2, ⟨_, r1, rfl⟩, ⟨_, r2, rfl⟩, ⟨_, r3, rfl⟩⟩
/-- The blocks from l on, before u: none, or within these bounds. -/
def Sub2 (lo hi l u : Nat) : Prop := l = u ∨ lo ≤ l ∧ u ≤ hi
theorem iv_ints {h : Heap} {cs : List Value} {X : List Int} {bs : List Nat} (r : Ow h shInts cs X bs) : ∃ s l u, cs = [s] ∧ Vo h l u shInts s X ∧ (bs = [] ∧ l = 0 ∧ u = 0 ∨ bs = [l] ∧ u = l + 1) := by
  obtain ⟨b, z, css, bss, rfl, hz, hm, h1, h2⟩ := r
  obtain ⟨e1, e2, e3⟩ := All3.ints h1
  rcases h2 with ⟨h2, h3⟩ | ⟨h2, h3, h4⟩
  · exact ⟨_, 0, 0, rfl, Vo.of_ints hz hm e2 (.inl h2), .inl ⟨h3, rfl, rfl⟩⟩
  · rw [e3] at h3; rw [e1] at h4
    exact ⟨_, b, b + 1, rfl, Vo.of_ints hz hm e2 (.inr ⟨h4, by omega, by omega⟩), .inr ⟨h3, rfl⟩⟩
theorem iv_trips {h : Heap} {cs : List Value} {X : List Trip} {bs : List Nat} (r : Ow h shTrips cs X bs) : ∃ s l u, cs = [s] ∧ Vo h l u shTrips s X ∧ (bs = [] ∧ l = 0 ∧ u = 0 ∨ bs = [l] ∧ u = l + 1) := by
  obtain ⟨b, z, css, bss, rfl, hz, hm, h1, h2⟩ := r
  obtain ⟨e1, e2, e3⟩ := All3.trips h1
  rcases h2 with ⟨h2, h3⟩ | ⟨h2, h3, h4⟩
  · exact ⟨_, 0, 0, rfl, Vo.of_trips hz hm e2 (.inl h2), .inl ⟨h3, rfl, rfl⟩⟩
  · rw [e3] at h3; rw [e1] at h4
    exact ⟨_, b, b + 1, rfl, Vo.of_trips hz hm e2 (.inr ⟨h4, by omega, by omega⟩), .inr ⟨h3, rfl⟩⟩
/-- Apart. -/
def Dis (l u l' u' : Nat) : Prop := u ≤ l' ∨ u' ≤ l
theorem Vo.journal {h : Heap} {lo hi : Nat} {v : Value} {W H : Int} {br : List Int} {p f : List Trip} (x : Vo h lo hi shJournal v ((W, H, br), p, f)) : ∃ s sp sf l1 u1 l2 u2 l3 u3, v = .agg #[I W, I H, s, sp, sf] ∧ I64 W ∧ I64 H ∧
    Vo h l1 u1 shInts s br ∧ Vo h l2 u2 shTrips sp p ∧ Vo h l3 u3 shTrips sf f ∧ Sub2 lo hi l1 u1 ∧ Sub2 lo hi l2 u2 ∧ Sub2 lo hi l3 u3 ∧ Dis l1 u1 l2 u2 ∧ Dis l1 u1 l3 u3 ∧ Dis l2 u2 l3 u3 := by
  obtain ⟨cs, bs, ⟨c1, c2, b1, b2, rfl, rfl, ⟨c3, c4, b3, b4, rfl, rfl, ⟨rfl, w1, rfl⟩, c5, c6, b5, b6, rfl, rfl, ⟨rfl, w2, rfl⟩, r1⟩, c7, c8, b7, b8, rfl, rfl, r2, r3⟩, rfl, nd, hb⟩ := x
  obtain ⟨s, l1, u1, rfl, o1, q1⟩ := iv_ints r1
  obtain ⟨sp, l2, u2, rfl, o2, q2⟩ := iv_trips r2
  obtain ⟨sf, l3, u3, rfl, o3, q3⟩ := iv_trips r3
  refine ⟨s, sp, sf, l1, u1, l2, u2, l3, u3, rfl, wf_i64.1 w1, wf_i64.1 w2, o1, o2, o3, ?_, ?_, ?_, ?_, ?_, ?_⟩
  all_goals
    (first | unfold Sub2 | unfold Dis) <;>
    rcases q1 with ⟨rfl, rfl, rfl⟩ | ⟨rfl, rfl⟩ <;> rcases q2 with ⟨rfl, rfl, rfl⟩ | ⟨rfl, rfl⟩ <;> rcases q3 with ⟨rfl, rfl, rfl⟩ | ⟨rfl, rfl⟩ <;> simp at nd hb <;> omega
end Am
/-! AmT5 -/
set_option linter.unusedVariables false
set_option linter.unusedSimpArgs false
set_option maxHeartbeats 4000000
namespace Am
open Go

abbrev Kpt := List UInt8 × Pan3
theorem Vr.kept {h : Heap} {v : Value} {n : List UInt8} {W H : Int} {br : List Int} (x : Vr h shKept v (n, W, H, br)) : ∃ s, v = .agg #[S n, I W, I H, s] ∧ n.length ≤ 9223372036854775807 ∧ I64 W ∧ I64 H ∧ Vr h shInts s br := by
  obtain ⟨cs, ⟨c1, c2, rfl, ⟨rfl, w0⟩, c3, c4, rfl, ⟨rfl, w1⟩, c5, c6, rfl, ⟨rfl, w2⟩, r⟩, rfl⟩ := x
  obtain ⟨s, rfl⟩ := Rd.one r
  exact ⟨s, rfl, by rw [← maxLen_eq]; exact w0, wf_i64.1 w1, wf_i64.1 w2, _, r, rfl⟩
theorem Vr.of_kept {h : Heap} {n : List UInt8} {W H : Int} {br : List Int} {s : Value} (h0 : n.length ≤ 9223372036854775807) (h1 : I64 W) (h2 : I64 H) (r : Vr h shInts s br) : Vr h shKept (.agg #[S n, I W, I H, s]) (n, W, H, br) := by
  obtain ⟨_, r, rfl⟩ := r
  obtain ⟨s, rfl⟩ := Rd.one r
  exact ⟨[S n, I W, I H, s], ⟨[S n], [I W, I H, s], rfl, ⟨rfl, by rw [maxLen_eq]; exact h0⟩, [I W], [I H, s], rfl, ⟨rfl, wf_i64.2 h1⟩, [I H], [s], rfl, ⟨rfl, wf_i64.2 h2⟩, r⟩, rfl⟩
theorem Vo.of_kept {h : Heap} {lo hi : Nat} {n : List UInt8} {W H : Int} {br : List Int} {s : Value} (h0 : n.length ≤ 9223372036854775807) (h1 : I64 W) (h2 : I64 H) (r : Vo h lo hi shInts s br) : Vo h lo hi shKept (.agg #[S n, I W, I H, s]) (n, W, H, br) := by
  obtain ⟨_, bs, r, rfl, nd, hb⟩ := r
  obtain ⟨s, rfl⟩ := Rd.one r.rd
  exact ⟨[S n, I W, I H, s], bs, ⟨[S n], [I W, I H, s], [], bs, rfl, rfl, ⟨rfl, by rw [maxLen_eq]; exact h0, rfl⟩, [I W], [I H, s], [], bs, rfl, rfl, ⟨rfl, wf_i64.2 h1, rfl⟩, [I H], [s], [], bs, rfl, rfl, ⟨rfl, wf_i64.2 h2, rfl⟩, r⟩, rfl, nd, hb⟩
/-- A library's entries, one by one. -/
theorem kepts_at {h : Heap} {v : Value} {X : List Kpt} (x : Vr h shKepts v X) : ∃ b o z, v = sl b o X.length z ∧ X.length ≤ maxLen ∧ ∀ i (hi : i < X.length), ∃ s, cellsAt h b (o + i * 4) 4 = some [S X[i].1, I X[i].2.1, I X[i].2.2.1, s] ∧ Vr h shInts s X[i].2.2.2 ∧ Vr h shKept (.agg #[S X[i].1, I X[i].2.1, I X[i].2.2.1, s]) X[i] := by
  obtain ⟨b, o, z, rfl, _, hm, hel⟩ := x.slice
  refine ⟨b, o, z, rfl, hm, fun i hi => ?_⟩
  obtain ⟨c, hc, r⟩ := hel i hi
  have hv : Vr h shKept (asVal shKept c) X[i] := ⟨c, r, rfl⟩
  obtain ⟨c1, c2, rfl, ⟨rfl, w0⟩, c3, c4, rfl, ⟨rfl, w1⟩, c5, c6, rfl, ⟨rfl, w2⟩, r⟩ := r
  obtain ⟨s, rfl⟩ := Rd.one r
  exact ⟨s, hc, ⟨_, r, rfl⟩, hv⟩
theorem siz_kept (n : List UInt8) (W H : Int) (br : List Int) : siz shKept (n, W, H, br) = n.length + br.length := by
  show n.length + siz shPanel (W, H, br) = _
  rw [siz_panel]

theorem c293 : SzOk 293 shKept := by
  rintro h v ⟨(n : List UInt8), (W : Int), (H : Int), (br : List Int)⟩ left hv hl
  obtain ⟨s, rfl, w0, w1, w2, r⟩ := hv.kept
  rw [siz_kept]
  refine ACall_intro g293 rfl ?_
  unfold fn293
  simp (disch := omega) [wrap64]
  refine fork_dec (fun h1 => ?_) (fun h1 => ?_)
  · rw [if_neg (by omega)]; simp
  · obtain ⟨l1, e1⟩ : ∃ k : Nat, k = left - n.length := ⟨_, rfl⟩
    have e2 : (left : Int) - n.length = l1 := by omega
    simp (disch := omega) [e2]
    refine callW_of (c295 _ _ (W, H, br) l1 (Vr.of_panel w1 w2 r) (by omega)) ?_
    rintro v h' ⟨rfl, rfl⟩
    rw [siz_panel]
    by_cases h2 : br.length ≤ l1
    · rw [if_pos h2, if_pos (by omega)]
      have e3 : l1 - br.length = left - (n.length + br.length) := by omega
      rw [e3]
      obtain ⟨l2, e4⟩ : ∃ k, k = left - (n.length + br.length) := ⟨_, rfl⟩
      rw [← e4]
      simp (disch := omega)
    · rw [if_neg h2, if_neg (by omega)]; simp
theorem c301 : ToOk 301 shKept := by
  rintro h v ⟨(n : List UInt8), (W : Int), (H : Int), (br : List Int)⟩ hp hv hs
  obtain ⟨s, rfl, w0, w1, w2, r⟩ := hv.kept
  rw [siz_kept] at hs
  refine ACall_intro g301 rfl ?_
  unfold fn301
  simp (disch := omega)
  refine callW_of (c303 _ _ (W, H, br) hp (Vr.of_panel w1 w2 r) (by rw [siz_panel]; omega)) ?_
  rintro v h1 ⟨hg1, o1⟩
  obtain ⟨s', rfl, _, _, o1⟩ := o1.panel
  obtain ⟨b, z, e, _⟩ := o1.ints
  subst e
  simp (disch := omega) [resOf_box, aField]
  exact ⟨hg1, Vo.of_kept w0 w1 w2 o1⟩
theorem c263 : EqTrue 263 shKept := by
  rintro h v w ⟨(n : List UInt8), (W : Int), (H : Int), (br : List Int)⟩ hv hw
  obtain ⟨s, rfl, w0, w1, w2, r⟩ := hv.kept
  obtain ⟨s', rfl, _, _, _, r'⟩ := hw.kept
  refine ACall_intro g263 rfl ?_
  unfold fn263
  simp (disch := omega)
  refine callW_of (c265 _ _ _ (W, H, br) (Vr.of_panel w1 w2 r) (Vr.of_panel w1 w2 r')) ?_
  rintro v h' ⟨rfl, rfl⟩
  simp (disch := omega)
theorem c302 : ToOk 302 shKepts := toS_ok (zero := #[S [], I 0, I 0, sl 0 0 0 0]) g302 rfl ⟨by decide, rfl⟩ rfl c301
theorem c264 : EqTrue 264 shKepts := eqS_ok g264 rfl ⟨by decide, rfl⟩ c263

def sizL (X : List Kpt) : Nat := (X.map fun y => siz shKept y).sum
theorem siz_kepts (X : List Kpt) : siz shKepts X = X.length + sizL X := rfl
theorem sizL_append (a b : List Kpt) : sizL (a ++ b) = sizL a + sizL b := by simp [sizL]
theorem sizL_take {X : List Kpt} {k : Nat} (hk : k < X.length) : sizL (X.take (k + 1)) = sizL (X.take k) + siz shKept X[k] := by
  rw [List.take_succ_eq_append_getElem hk, sizL_append]; simp [sizL]
theorem sizL_le (X : List Kpt) (k : Nat) : sizL (X.take k) ≤ sizL X := by
  have : sizL X = sizL (X.take k) + sizL (X.drop k) := by
    rw [← sizL_append, List.take_append_drop]
  omega
theorem c294 : SzOk 294 shKepts := by
  intro h v (X : List Kpt) left hv hl
  obtain ⟨b, o, z, rfl, hm, hel⟩ := kepts_at hv
  rw [maxLen_eq] at hm
  rw [siz_kepts]
  refine ACall_intro g294 rfl ?_
  unfold fn294
  simp (disch := omega) [wrap64]
  refine fork_dec (fun h1 => ?_) (fun h1 => ?_)
  · rw [if_neg (by omega)]; simp
  · have e0 : (left : Int) - X.length = ((left - X.length : Nat) : Int) := by omega
    simp (disch := omega) [e0]
    refine awp_loop (fun k σ h' => h' = h ∧ k ≤ X.length ∧ X.length + sizL (X.take k) ≤ left ∧ σ 0 = sl b o X.length z ∧ σ 1 = I ((left - X.length - sizL (X.take k) : Nat) : Int) ∧ σ 5 = I k) (fun k => X.length - k) 0 ?_ ?_
    · simp [sizL]; omega
    · rintro k σ h' ⟨rfl, hk, hle, q0, q1, q5⟩
      simp (disch := omega) [q0, q5]
      refine fork_dec (fun hlt => ?_) (fun hge => ?_)
      · have k1 : k < X.length := by omega
        obtain ⟨s, hc, _, hvk⟩ := hel k k1
        obtain ⟨l1, e1⟩ : ∃ j, j = left - X.length - sizL (X.take k) := ⟨_, rfl⟩
        rw [← e1] at q1
        simp (disch := omega) [q0, q1, q5, k1, hc]
        refine callW_of (c293 _ _ X[k] l1 hvk (by omega)) ?_
        rintro v h' ⟨rfl, rfl⟩
        have hst := sizL_take k1
        by_cases h2 : siz shKept X[k] ≤ l1
        · rw [if_pos h2]
          obtain ⟨l2, e2⟩ : ∃ j, j = l1 - siz shKept X[k] := ⟨_, rfl⟩
          rw [← e2]
          simp (disch := omega) [q0, q5, wrap64]
          exact ⟨k + 1, ⟨by omega, by omega, by omega, by omega⟩, by omega⟩
        · have := sizL_le X (k + 1)
          rw [if_neg h2, if_neg (by omega)]; simp
      · have : k = X.length := by omega
        subst this
        rw [List.take_length] at hle q1
        rw [if_pos (by omega)]
        have e3 : left - X.length - sizL X = left - (X.length + sizL X) := by omega
        rw [e3] at q1
        simp (disch := omega) [q0, q1, q5]
end Am
/-! AmP4 -/
set_option linter.unusedVariables false
set_option linter.unusedSimpArgs false
set_option maxHeartbeats 4000000
namespace Am
open Go

/-! ### differences -/
def dpre (a b : List Int) (n : Nat) : List Trip := (List.range n).flatMap fun i => if at0 a i = at0 b i then [] else [((i : Int), at0 a i, at0 b i)]
def diffAns (X Y : Pan) : List Trip × Int := if okP X && okP Y then (if sameSz X Y then (dpre X.2.2 Y.2.2 X.2.2.length, 0) else ([], 6)) else ([], 1)
end Am
/-! AmP7 -/
set_option linter.unusedVariables false
set_option linter.unusedSimpArgs false
set_option maxHeartbeats 4000000
namespace Am
open Go

def newDesk : Jrn := (newP 3 2, [], [])
/-! ### equal lists -/
theorem take_ne {α : Type} {X Y : List α} {k : Nat} (h1 : k < X.length) (h2 : k < Y.length) (hne : ¬ X[k] = Y[k]) : ¬ X = Y := fun e => by subst e; exact hne rfl
theorem c436 (h : Heap) (v w : Value) (X Y : List Int) (hv : Vr h shInts v X) (hw : Vr h shInts w Y) : ACall Gam 436 [v, w] h fun r h' => r = B (decide (X = Y)) ∧ h' = h := by
  obtain ⟨b1, o1, z1, rfl, _, hm1, _, hc1⟩ := hv.ints
  obtain ⟨b2, o2, z2, rfl, _, hm2, _, hc2⟩ := hw.ints
  rw [maxLen_eq] at hm1 hm2
  refine ACall_intro g436 rfl ?_
  unfold fn436
  simp (disch := omega)
  refine fork_dec (fun heq => ?_) (fun hne => ?_)
  · simp (disch := omega)
    refine awp_loop (fun k σ h' => h' = h ∧ k ≤ X.length ∧ X.take k = Y.take k ∧ σ 0 = sl b1 o1 X.length z1 ∧ σ 1 = sl b2 o2 Y.length z2 ∧ σ 5 = I k) (fun k => X.length - k) 0 ?_ ?_
    · simp
    · rintro k σ h' ⟨rfl, hk, ht, h0, h1, h5⟩
      simp (disch := omega) [h0, h1, h5]
      refine fork_dec (fun hlt => ?_) (fun hge => ?_)
      · have k1 : k < X.length := by omega
        have k2 : k < Y.length := by omega
        simp (disch := omega) [h0, h1, h5, ints_cell hc1 k1, ints_cell hc2 k2, k1, k2]
        refine fork_dec (fun he => ?_) (fun he => ?_)
        · simp (disch := omega) [h0, h1, h5]
          refine ⟨k + 1, ⟨by omega, ?_, ?_⟩, by omega⟩
          · rw [List.take_succ_eq_append_getElem k1, List.take_succ_eq_append_getElem k2, ht, he]
          · rw [wrap64 (by omega) (by omega)]; simp
        · simp (disch := omega) [h0, h1, h5]
          exact take_ne k1 k2 he
      · simp (disch := omega) [h0, h1, h5]
        have q1 : k = X.length := by omega
        have q2 : X.length = Y.length := by omega
        subst q1
        rw [List.take_length, q2, List.take_length] at ht
        exact ht
  · simp (disch := omega)
    intro e; apply hne; rw [e]
theorem c314 (h : Heap) (v w : Value) (X Y : List Int) (hv : Vr h shInts v X) (hw : Vr h shInts w Y) : ACall Gam 314 [v, w] h fun r h' => r = B (decide (X = Y)) ∧ h' = h := by
  obtain ⟨b1, o1, z1, rfl, _, hm1, _, hc1⟩ := hv.ints
  obtain ⟨b2, o2, z2, rfl, _, hm2, _, hc2⟩ := hw.ints
  rw [maxLen_eq] at hm1 hm2
  refine ACall_intro g314 rfl ?_
  unfold fn314
  simp (disch := omega)
  refine fork_dec (fun heq => ?_) (fun hne => ?_)
  · simp (disch := omega)
    refine awp_loop (fun k σ h' => h' = h ∧ k ≤ X.length ∧ X.take k = Y.take k ∧ σ 0 = sl b1 o1 X.length z1 ∧ σ 1 = sl b2 o2 Y.length z2 ∧ σ 12 = I X.length ∧ σ 13 = I k) (fun k => X.length - k) 0 ?_ ?_
    · simp
    · rintro k σ h' ⟨rfl, hk, ht, h0, h1, h12, h13⟩
      simp (disch := omega) [h0, h1, h12, h13]
      refine fork_dec (fun hlt => ?_) (fun hge => ?_)
      · have k1 : k < X.length := by omega
        have k2 : k < Y.length := by omega
        simp (disch := omega) [h0, h1, h12, h13, ints_cell hc1 k1, ints_cell hc2 k2, k1, k2]
        refine fork_dec (fun he => ?_) (fun he => ?_)
        · simp (disch := omega) [h0, h1, h12, h13]
          refine ⟨k + 1, ⟨by omega, ?_, ?_⟩, by omega⟩
          · rw [List.take_succ_eq_append_getElem k1, List.take_succ_eq_append_getElem k2, ht, he]
          · rw [wrap64 (by omega) (by omega)]; simp
        · simp (disch := omega) [h0, h1, h12, h13]
          exact take_ne k1 k2 he
      · simp (disch := omega) [h0, h1, h12, h13]
        have q1 : k = X.length := by omega
        have q2 : X.length = Y.length := by omega
        subst q1
        rw [List.take_length, q2, List.take_length] at ht
        exact ht
  · simp (disch := omega)
    intro e; apply hne; rw [e]

def samP (X Y : Pan) : Bool := decide (X = Y)
theorem samP_mk (W H W2 H2 : Int) (br br2 : List Int) : samP (W, H, br) (W2, H2, br2) = (decide (W = W2) && (decide (H = H2) && decide (br = br2))) := by
  simp only [samP, Prod.mk.injEq, Bool.decide_and]
theorem c456 (h : Heap) (v w : Value) (X Y : Pan) (hv : PtP h v X) (hw : PtP h w Y) : ACall Gam 456 [v, w] h fun r h' => r = B (samP X Y) ∧ h' = h := by
  obtain ⟨W, H, br⟩ := X
  obtain ⟨W2, H2, br2⟩ := Y
  obtain ⟨b, o, s, rfl, x1, x2, x3, hs, _⟩ := hv
  obtain ⟨b', o', s', rfl, y1, y2, y3, hs', _⟩ := hw
  rw [samP_mk]
  refine ACall_intro g456 rfl ?_
  unfold fn456
  simp (disch := omega) [x1, x2, x3, y1, y2, y3]
  refine fork_dec (fun e1 => ?_) (fun e1 => ?_)
  · simp (disch := omega) [x1, x2, x3, y1, y2, y3, e1]
    refine fork_dec (fun e2 => ?_) (fun e2 => ?_)
    · simp (disch := omega) [x1, x2, x3, y1, y2, y3, e1, e2]
      refine callW_of (c436 h _ _ br br2 hs hs') ?_
      rintro _ h' ⟨rfl, rfl⟩
      simp [e1, e2]
    · simp (disch := omega) [x1, x2, x3, y1, y2, y3, e1, e2]
  · simp (disch := omega) [x1, x2, x3, y1, y2, y3, e1]
theorem c130 (h : Heap) (v w : Value) (X Y : Pan) (hv : Vr h shPanel v X) (hw : Vr h shPanel w Y) : ACall Gam 130 [v, w] h fun r h' => r = B (samP X Y) ∧ h' = h := by
  obtain ⟨W, H, br⟩ := X
  obtain ⟨W2, H2, br2⟩ := Y
  obtain ⟨s, rfl, _, _, hs⟩ := hv.panel
  obtain ⟨s', rfl, _, _, hs'⟩ := hw.panel
  rw [samP_mk]
  refine ACall_intro g130 rfl ?_
  unfold fn130
  simp (disch := omega)
  refine fork_dec (fun e1 => ?_) (fun e1 => ?_)
  · simp (disch := omega) [e1]
    refine fork_dec (fun e2 => ?_) (fun e2 => ?_)
    · simp (disch := omega) [e1, e2]
      refine callW_of (c314 h _ _ br br2 hs hs') ?_
      rintro _ h' ⟨rfl, rfl⟩
      simp [e1, e2]
    · simp (disch := omega) [e1, e2]
  · simp (disch := omega) [e1]

def samJ (X Y : Jrn) : Bool := samP X.1 Y.1 && (decide (X.2.1 = Y.2.1) && decide (X.2.2 = Y.2.2))
end Am

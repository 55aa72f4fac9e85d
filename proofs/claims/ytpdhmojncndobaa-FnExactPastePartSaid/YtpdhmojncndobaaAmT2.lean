/- The helpers of the laws for slices of numbers and for panels: size, made anew, compared, marked, held. -/
import Derived.Test.YtpdhmojncndobaaAmT1
set_option linter.unusedVariables false
set_option linter.unusedSimpArgs false
set_option maxHeartbeats 4000000
namespace Am
open Go

def SzOk (f : Nat) (D : Shp) : Prop := ∀ h v X (left : Nat), Vr h D v X → left ≤ 1048576 → ACall Gam f [v, I left] h fun r h' => (r = if siz D X ≤ left then I ((left - siz D X : Nat) : Int) else I (-1)) ∧ h' = h
def MarkOk (f : Nat) (D : Shp) : Prop := ∀ h lo hi v X (k : Nat), Vo h lo hi D v X → k + cvd D X ≤ 1099511627776 → ACall Gam f [v, I k] h fun r h' => r = I ((k + cvd D X : Nat) : Int) ∧ Mod lo hi h h' ∧ Vo h' lo hi D v (mvd D X k)
def HeldOk (f : Nat) (D : Shp) : Prop := ∀ h v X (k : Nat), Vr h D v (mvd D X k) → k + cvd D X ≤ 1099511627776 → ACall Gam f [v, I k] h fun r h' => r = I ((k + cvd D X : Nat) : Int) ∧ Grows h h'

theorem sum_one {α : Type} : ∀ (X : List α), (X.map fun _ => 1).sum = X.length
  | [] => rfl
  | x :: X => by simp [sum_one X]; omega
theorem sum_zero {α : Type} : ∀ (X : List α), (X.map fun _ => 0).sum = 0
  | [] => rfl
  | x :: X => by simp [sum_zero X]
theorem ints_append (a b : List Int) : ints (a ++ b) = ints a ++ ints b := by simp [ints]
theorem ints_cons (a : Int) (b : List Int) : ints (a :: b) = I a :: ints b := rfl
theorem ints_nil : ints [] = [] := rfl
theorem siz_ints (X : List Int) : siz shInts X = X.length := by
  show X.length + (X.map fun _ => 0).sum = _
  rw [sum_zero]; rfl
theorem cvd_ints (X : List Int) : cvd shInts X = X.length := sum_one X
def nums (k n : Nat) : List Int := (List.range n).map fun i => ((k + i : Nat) : Int)
theorem nums_len (k n : Nat) : (nums k n).length = n := by simp [nums]
theorem nums_succ (k n : Nat) : nums k (n + 1) = nums k n ++ [((k + n : Nat) : Int)] := by simp [nums, List.range_succ]
theorem mvd_ints : ∀ (X : List Int) (k : Nat), mvd shInts X k = nums k X.length
  | [], k => rfl
  | x :: X, k => by
    refine (congrArg (List.cons ((k : Nat) : Int)) (mvd_ints X (k + 1))).trans ?_
    simp only [nums, List.length_cons, List.range_succ_eq_map, List.map_cons, List.map_map]
    congr 1
    apply List.map_congr_left
    intro i _
    simp; omega
theorem nums_i64 {k n : Nat} (h : k + n ≤ 1099511627776) : ∀ x ∈ nums k n, I64 x := by
  intro x hx
  obtain ⟨i, hi, rfl⟩ := List.mem_map.1 hx
  have := List.mem_range.1 hi
  unfold I64; omega

/-- One cell is written. -/
theorem store_one {h : Heap} {b o : Nat} {cs : List Value} {v : Value} (hk : h[b]? = some ⟨cs, true⟩) (ho : o < cs.length) : storeAt h b o [v] = some (h.set b ⟨cs.set o v, true⟩) := by
  unfold storeAt
  simp only [hk]
  rw [if_pos ⟨trivial, ho⟩]
  congr 3
  unfold splice
  rw [List.set_eq_take_append_cons_drop, if_pos ho]
  simp
theorem set_end {α : Type} {A B : List α} {x v : α} {n : Nat} (hn : n = A.length) : (A ++ x :: B).set n v = A ++ v :: B := by subst hn; simp
theorem Mod.put {lo hi b : Nat} {h h' : Heap} (m : Mod lo hi h h') (hb : lo ≤ b ∧ b < hi) (k : Blk) : Mod lo hi h (h'.set b k) :=
  ⟨by simpa using m.1, fun c hc hn => by rw [List.getElem?_set_ne (by omega)]; exact m.2 c hc hn⟩
theorem Mod.refl (lo hi : Nat) (h : Heap) : Mod lo hi h h := ⟨Nat.le_refl _, fun _ _ _ => rfl⟩
theorem Mod.grow {lo hi : Nat} {a b c : Heap} (m : Mod lo hi a b) (g : Grows b c) : Mod lo hi a c := m.trans g.mod

theorem c290 : SzOk 290 shInts := by
  intro h v (X : List Int) left hv hl
  obtain ⟨b, o, zz, rfl, hzz, hm, hx, hc⟩ := hv.ints
  rw [maxLen_eq] at hm
  refine ACall_intro g290 rfl ?_
  unfold fn290
  simp (disch := omega) [wrap64]
  rw [siz_ints]
  refine fork_dec (fun h1 => ?_) (fun h1 => ?_)
  · rw [if_neg (by omega)]; simp
  · rw [if_pos (by omega)]; simp; omega

theorem c297 : ToOk 297 shInts := by
  intro h v (X : List Int) hp hv hs
  obtain ⟨bb, o, zz, rfl, hzz, hm, hx, hc⟩ := hv.ints
  rw [siz_ints] at hs
  refine ACall_intro g297 rfl ?_
  unfold fn297
  simp (disch := omega) [aMake, maxSize]
  rw [if_pos (by omega)]
  simp
  refine awp_loop (fun k σ h' => k ≤ X.length ∧ Grows h h' ∧ σ 0 = sl bb o X.length zz ∧ σ 3 = sl h.length 0 X.length 1 ∧ σ 4 = I k ∧ h'[h.length]? = some ⟨ints (X.take k) ++ reps (X.length - k) [I 0], true⟩) (fun k => X.length - k) 0 ?_ ?_
  · exact ⟨by omega, ⟨_, rfl⟩, by simp, by simp, by simp, by simp [ints]⟩
  · rintro k σ h' ⟨hk, hgr, h0, h3, h4, hb0⟩
    simp (disch := omega) [h0, h4]
    refine fork_dec (fun hlt => ?_) (fun hge => ?_)
    · have hlt : k < X.length := by omega
      have hcell := ints_cell (hc.imp id (grows_cellsAt hgr)) hlt
      have hsub : X.length - k = (X.length - (k + 1)) + 1 := by omega
      have hA : (ints (X.take k)).length = k := by simp [ints]; omega
      have hst := store_one (v := I X[k]) (o := k) hb0 (by rw [List.length_append, hA, hsub, reps_succ]; simp)
      rw [hsub, reps_succ, show [I 0] ++ reps (X.length - (k + 1)) [I 0] = I 0 :: reps (X.length - (k + 1)) [I 0] from rfl, set_end hA.symm] at hst
      simp (disch := omega) [h0, h3, h4, hlt, hcell, hst, wrap64]
      refine ⟨k + 1, ⟨by omega, hgr.put (Nat.le_refl _) _, by omega, ?_⟩, by omega⟩
      have e2 : ints (X.take (k + 1)) = ints (X.take k) ++ [I X[k]] := by rw [List.take_succ_eq_append_getElem hlt, ints_append]; rfl
      rw [e2]
      simp [at_lt hb0]
    · have e : k = X.length := by omega
      subst e
      rw [List.take_length] at hb0
      simp [reps] at hb0
      simp (disch := omega) [h0, h3, h4]
      exact ⟨hgr, Vo.of_ints (.inl rfl) hm hx (.inr ⟨hb0, Nat.le_refl _, at_lt hb0⟩)⟩

theorem c259 : EqTrue 259 shInts := by
  intro h v w (X : List Int) hv hw
  obtain ⟨bb, o, zz, rfl, hzz, hm, hx, hc⟩ := hv.ints
  obtain ⟨bb2, o2, zz2, rfl, _, _, _, hc2⟩ := hw.ints
  rw [maxLen_eq] at hm
  refine ACall_intro g259 rfl ?_
  unfold fn259
  simp (disch := omega)
  refine awp_loop (fun k σ h' => h' = h ∧ k ≤ X.length ∧ σ 0 = sl bb o X.length zz ∧ σ 1 = sl bb2 o2 X.length zz2 ∧ σ 5 = I k) (fun k => X.length - k) 0 ?_ ?_
  · simp
  · rintro k σ h' ⟨rfl, hk, h0, h1, h5⟩
    simp (disch := omega) [h0, h5]
    refine fork_dec (fun hlt => ?_) (fun hge => ?_)
    · have hlt : k < X.length := by omega
      simp (disch := omega) [h0, h1, h5, hlt, ints_cell hc hlt, ints_cell hc2 hlt, wrap64]
      exact ⟨k + 1, ⟨by omega, by omega⟩, by omega⟩
    · simp (disch := omega) [h0, h1, h5]

theorem c282 : MarkOk 282 shInts := by
  intro h lo hi v (X : List Int) k hv hk
  obtain ⟨bb, zz, rfl, hzz, hm, hx, hc⟩ := hv.ints
  rw [cvd_ints] at hk
  rw [cvd_ints, mvd_ints]
  refine ACall_intro g282 rfl ?_
  unfold fn282
  simp (disch := omega)
  refine awp_loop (fun i σ h' => i ≤ X.length ∧ Mod lo hi h h' ∧ σ 0 = sl bb 0 X.length zz ∧ σ 1 = I ((k + i : Nat) : Int) ∧ σ 5 = I i ∧ (X = [] ∨ h'[bb]? = some ⟨ints (nums k i ++ X.drop i), true⟩)) (fun i => X.length - i) 0 ?_ ?_
  · exact ⟨by omega, Mod.refl _ _ _, by simp, by simp, by simp, by
      rcases hc with hc | hc
      · exact .inl hc
      · exact .inr (by simpa [nums] using hc.1)⟩
  · rintro i σ h' ⟨hi', hmd, h0, h1, h5, hb⟩
    simp (disch := omega) [h0, h5]
    refine fork_dec (fun hlt => ?_) (fun hge => ?_)
    · have hlt : i < X.length := by omega
      have hne : X ≠ [] := by intro e; subst e; simp at hlt
      have hb := hb.resolve_left hne
      have hc := hc.resolve_left hne
      have hA : (ints (nums k i)).length = i := by simp [ints, nums]
      have hst := store_one (v := I ((k + i : Nat) : Int)) (o := i) hb (by simp [ints, nums]; omega)
      rw [List.drop_eq_getElem_cons hlt, ints_append, ints_cons, set_end hA.symm] at hst
      simp only [Int.natCast_add] at hst
      simp (disch := omega) [h0, h1, h5, hlt, hst, wrap64]
      refine ⟨i + 1, ⟨by omega, hmd.put hc.2 _, by omega, by omega, .inr ?_⟩, by omega⟩
      rw [nums_succ]
      simp [ints_append, ints_cons, ints_nil, at_lt hb]
    · have e : i = X.length := by omega
      subst e
      simp (disch := omega) [h0, h1, h5]
      refine ⟨hmd, ?_⟩
      have := Vo.of_ints (h := h') (b := bb) (lo := lo) (hi := hi) (X := nums k X.length) (hzz.imp id fun e => ⟨e.1, by rw [e.2]; rfl⟩) (by rw [nums_len]; exact hm) (nums_i64 hk) (by
        rcases hb with hb | hb
        · subst hb; exact .inl rfl
        · by_cases hX : X = []
          · subst hX; exact .inl rfl
          · exact .inr ⟨by simpa using hb, (hc.resolve_left hX).2⟩)
      rw [nums_len] at this
      exact this

theorem nums_get {k n i : Nat} (h : i < (nums k n).length) : (nums k n)[i] = ((k + i : Nat) : Int) := by simp [nums]
theorem c275 : HeldOk 275 shInts := by
  intro h v (X : List Int) k hv hk
  rw [cvd_ints] at hk ⊢
  rw [mvd_ints] at hv
  obtain ⟨bb, o, zz, rfl, hzz, hm, hx, hc⟩ := hv.ints
  rw [nums_len]
  refine ACall_intro g275 rfl ?_
  unfold fn275
  simp (disch := omega)
  refine awp_loop (fun i σ h' => h' = h ∧ i ≤ X.length ∧ σ 0 = sl bb o X.length zz ∧ σ 1 = I ((k + i : Nat) : Int) ∧ σ 5 = I i) (fun i => X.length - i) 0 ?_ ?_
  · simp
  · rintro i σ h' ⟨rfl, hi', h0, h1, h5⟩
    simp (disch := omega) [h0, h5]
    refine fork_dec (fun hlt => ?_) (fun hge => ?_)
    · have hlt : i < X.length := by omega
      have hcell := ints_cell hc (by rw [nums_len]; exact hlt)
      rw [nums_get] at hcell
      simp (disch := omega) [h0, h1, h5, hlt, hcell, wrap64]
      exact ⟨i + 1, ⟨by omega, by omega, by omega⟩, by omega⟩
    · have e : i = X.length := by omega
      subst e
      simp (disch := omega) [h0, h1, h5, Grows.refl]

/-! ### panels -/
theorem Vr.panel {h : Heap} {v : Value} {W H : Int} {br : List Int} (x : Vr h shPanel v (W, H, br)) : ∃ s, v = .agg #[I W, I H, s] ∧ I64 W ∧ I64 H ∧ Vr h shInts s br := by
  obtain ⟨cs, ⟨c1, c2, rfl, ⟨rfl, w1⟩, ⟨c3, c4, rfl, ⟨rfl, w2⟩, r⟩⟩, rfl⟩ := x
  have hl := r.len
  match c4, hl with
  | [s], _ => exact ⟨s, rfl, wf_i64.1 w1, wf_i64.1 w2, [s], r, rfl⟩
theorem Vr.of_panel {h : Heap} {s : Value} {W H : Int} {br : List Int} (h1 : I64 W) (h2 : I64 H) (x : Vr h shInts s br) : Vr h shPanel (.agg #[I W, I H, s]) (W, H, br) := by
  obtain ⟨cs, r, rfl⟩ := x
  have hl := r.len
  match cs, hl with
  | [s], _ => exact ⟨[I W, I H, s], ⟨[I W], [I H, s], rfl, ⟨rfl, wf_i64.2 h1⟩, [I H], [s], rfl, ⟨rfl, wf_i64.2 h2⟩, r⟩, rfl⟩
theorem Vo.panel {h : Heap} {lo hi : Nat} {v : Value} {W H : Int} {br : List Int} (x : Vo h lo hi shPanel v (W, H, br)) : ∃ s, v = .agg #[I W, I H, s] ∧ I64 W ∧ I64 H ∧ Vo h lo hi shInts s br := by
  obtain ⟨cs, bs, ⟨c1, c2, b1, b2, rfl, rfl, ⟨rfl, w1, rfl⟩, ⟨c3, c4, b3, b4, rfl, rfl, ⟨rfl, w2, rfl⟩, r⟩⟩, rfl, nd, hb⟩ := x
  have hl := r.len
  match c4, hl with
  | [s], _ => exact ⟨s, rfl, wf_i64.1 w1, wf_i64.1 w2, [s], _, r, rfl, by simpa using nd, by simpa using hb⟩
theorem Vo.of_panel {h : Heap} {lo hi : Nat} {s : Value} {W H : Int} {br : List Int} (h1 : I64 W) (h2 : I64 H) (x : Vo h lo hi shInts s br) : Vo h lo hi shPanel (.agg #[I W, I H, s]) (W, H, br) := by
  obtain ⟨cs, bs, r, rfl, nd, hb⟩ := x
  have hl := r.len
  match cs, hl with
  | [s], _ => exact ⟨[I W, I H, s], bs, ⟨[I W], [I H, s], [], bs, rfl, rfl, ⟨rfl, wf_i64.2 h1, rfl⟩, [I H], [s], [], bs, rfl, rfl, ⟨rfl, wf_i64.2 h2, rfl⟩, r⟩, rfl, nd, hb⟩
theorem siz_panel (W H : Int) (br : List Int) : siz shPanel (W, H, br) = br.length := by
  show 0 + (0 + siz shInts br) = _
  rw [siz_ints]; omega
theorem cvd_panel (W H : Int) (br : List Int) : cvd shPanel (W, H, br) = br.length := by
  show 0 + (0 + cvd shInts br) = _
  rw [cvd_ints]; omega
theorem mvd_panel (W H : Int) (br : List Int) (k : Nat) : mvd shPanel (W, H, br) k = (W, H, nums k br.length) := by
  show (W, H, mvd shInts br (k + 0 + 0)) = _
  rw [mvd_ints]; rfl

theorem c295 : SzOk 295 shPanel := by
  rintro h v ⟨(W : Int), (H : Int), (br : List Int)⟩ left hv hl
  obtain ⟨s, rfl, _, _, hs⟩ := hv.panel
  refine ACall_intro g295 rfl ?_
  unfold fn295
  simp (disch := omega)
  refine callW_of (c290 _ _ br left hs hl) ?_
  rintro v h' ⟨rfl, rfl⟩
  rw [siz_panel, siz_ints]
  split
  · simp (disch := omega)
    refine fork_dec (fun h1 => ?_) (fun h1 => ?_)
    · omega
    · simp
  · simp
theorem c303 : ToOk 303 shPanel := by
  rintro h v ⟨(W : Int), (H : Int), (br : List Int)⟩ hp hv hs
  obtain ⟨s, rfl, w1, w2, hs'⟩ := hv.panel
  rw [siz_panel] at hs
  refine ACall_intro g303 rfl ?_
  unfold fn303
  simp (disch := omega)
  refine callW_of (c297 _ _ br hp hs' (by rw [siz_ints]; exact hs)) ?_
  rintro v h' ⟨hg, ho⟩
  obtain ⟨b, zz, e, _⟩ := ho.ints
  subst e
  simp (disch := omega) [resOf_box, aField]
  exact ⟨hg, Vo.of_panel w1 w2 ho⟩
theorem c265 : EqTrue 265 shPanel := by
  rintro h v w ⟨(W : Int), (H : Int), (br : List Int)⟩ hv hw
  obtain ⟨s, rfl, _, _, hs⟩ := hv.panel
  obtain ⟨s2, rfl, _, _, hs2⟩ := hw.panel
  refine ACall_intro g265 rfl ?_
  unfold fn265
  simp (disch := omega)
  refine callW_of (c259 _ _ _ br hs hs2) ?_
  rintro v h' ⟨rfl, rfl⟩
  simp
theorem c286 : MarkOk 286 shPanel := by
  rintro h lo hi v ⟨(W : Int), (H : Int), (br : List Int)⟩ k hv hk
  obtain ⟨s, rfl, w1, w2, hs⟩ := hv.panel
  rw [cvd_panel] at hk ⊢
  rw [mvd_panel]
  refine ACall_intro g286 rfl ?_
  unfold fn286
  simp (disch := omega)
  refine callW_of (c282 _ lo hi _ br k hs (by rw [cvd_ints]; exact hk)) ?_
  rintro v h' ⟨rfl, hm, ho⟩
  rw [cvd_ints]
  rw [mvd_ints] at ho
  simp
  exact ⟨hm, Vo.of_panel w1 w2 ho⟩
theorem c279 : HeldOk 279 shPanel := by
  rintro h v ⟨(W : Int), (H : Int), (br : List Int)⟩ k hv hk
  rw [mvd_panel] at hv
  rw [cvd_panel] at hk ⊢
  obtain ⟨s, rfl, _, _, hs⟩ := hv.panel
  refine ACall_intro g279 rfl ?_
  unfold fn279
  simp (disch := omega)
  refine callW_of (c275 _ _ br k (by rw [mvd_ints]; exact hs) (by rw [cvd_ints]; exact hk)) ?_
  rintro v h' ⟨rfl, hg⟩
  rw [cvd_ints]
  simp (disch := omega)
  refine fork_dec (fun h1 => ?_) (fun h1 => ?_)
  · omega
  · simp [hg]
end Am

/- Contracts: DiffText. -/
import Derived.Test.YtljclhpcpjkihaaAmD2
set_option linter.unusedVariables false
set_option linter.unusedSimpArgs false
set_option maxHeartbeats 4000000
set_option maxRecDepth 4000
namespace Am
open Go

/-- A text is appended to texts. -/
theorem append_word {h h' : Heap} {v : Value} {l : List (List UInt8)} {x : List UInt8} {K : Value → Heap → Prop} (hp : 0 < h.length) (hl : l.length ≤ 1048576) (hg : Grows h h') (hv : Buf h h' v 1 (texts l))
    (hK : ∀ v' h'', Grows h h'' → Buf h h'' v' 1 (texts (l ++ [x])) → K v' h'') :
    bindW (aBuildSlice 1 1 h' [(0, .agg #[S []]), (1, S x)]) fun y h'' => bindW (aAppend 1 h'' y v) K := by
  have e : aBuildSlice 1 1 h' [(0, .agg #[S []]), (1, S x)] = some (sl h'.length 0 1 1, h' ++ [⟨[S x], true⟩]) := by simp [aBuildSlice]
  rw [e]
  simp only [bindW_some]
  refine append_buf hp (hg.push _) (hv.grow ⟨_, rfl⟩) (new := [S x]) ?_ (by omega) (by simp) (by simp) (by simp [texts, maxSize]; omega) ?_
  · simp [newCells]
    rw [cellsAt_of (k := ⟨[S x], true⟩) (by simp) (by simp)]
    simp
  · intro v' h'' g1 b1 _
    exact hK v' h'' g1 (by rw [texts_append]; exact b1)
theorem mark_slice {h : Heap} {a : Int} (ha : okBr a = true) : aSlice 0 h (S [43, 124, 45]) (some (I a)) (some (I (a + 1))) none = some (S [signB a], h) := by
  have hr : a = 0 ∨ a = 1 ∨ a = 2 := by unfold okBr inR at ha; simp at ha; omega
  rcases hr with e | e | e <;> subst e <;> simp [aSlice, bound, signB, ByteArray.size]
theorem okD_iff {X : List Trip} : okD X = true ↔ (∀ t ∈ X, okT t = true) ∧ X.length ≤ 112 := by simp [okD, -Prod.forall]
theorem diffText_len {X : List Trip} (hx : ∀ x ∈ X, T64 x) : (diffText X).length ≤ 2600 := by
  unfold diffText
  split
  · rename_i ok
    have hl := (okD_iff.1 ok).2
    have := diffT_len hx X.length (Nat.le_refl _)
    rw [List.take_length] at this; omega
  · simp

theorem c347 (h : Heap) (hp : 0 < h.length) (v : Value) (X : List Trip) (hv : Vr h shTrips v X) (hs : siz shTrips X ≤ 1048576) : ACall Gam 347 [v] h fun r h' => Grows h h' ∧ r = S (diffText X) := by
  rw [siz_trips] at hs
  refine ACall_intro g347 rfl ?_
  unfold fn347
  simp (disch := omega)
  refine callW_of (c550 _ _ _ hv (by omega)) ?_
  rintro _ h1 ⟨rfl, rfl⟩
  cases q : okD X
  · simp (disch := omega) [diffText, q, Grows.refl]
  simp (disch := omega)
  refine callW_of (c553 _ hp _ _ hv (okD_iff.1 q).2) ?_
  rintro _ h2 ⟨rfl, g2⟩
  simp (disch := omega) [diffText, q, g2]

theorem c80 (h : Heap) (hp : 0 < h.length) (v : Value) (X : List Trip) (hv : Vr h shTrips v X) (hs : siz shTrips X ≤ 1048576) : ACall Gam 80 [v] h fun r h' => Grows h h' ∧ r = S (diffText X) := by
  rw [siz_trips] at hs
  have hv' := hv
  obtain ⟨bb, o, zz, rfl, hzz, hm, hx, hc⟩ := hv.trips
  refine ACall_intro g80 rfl ?_
  unfold fn80
  simp (disch := omega)
  refine callW_of (c197 _ _ _ hv' (by omega)) ?_
  rintro _ h1 ⟨rfl, rfl⟩
  cases q : okD X
  · simp (disch := omega) [diffText, q, Grows.refl]
  obtain ⟨hok, hle⟩ := okD_iff.1 q
  simp (disch := omega)
  refine awp_loop (fun k σ h' => k ≤ X.length ∧ Grows h1 h' ∧ Buf h1 h' (σ 3) 1 (texts ((X.take k).map wordT)) ∧ σ 10 = sl bb o X.length zz ∧ σ 11 = I X.length ∧ σ 12 = I k) (fun k => X.length - k) 0 ?_ ?_
  · exact ⟨by omega, Grows.refl _, by simpa [texts] using Buf.nil, by simp, by simp, by simp⟩
  · rintro k σ h' ⟨hk, hg, p3, p10, p11, p12⟩
    simp (disch := omega) [p11, p12]
    refine fork_dec (fun hlt => ?_) (fun hge => ?_)
    · have k1 : k < X.length := by omega
      have hx1 := hx _ (List.getElem_mem k1)
      have hds := decS_len hx1.1
      have ok1 := hok _ (List.getElem_mem k1)
      unfold okT at ok1
      simp only [Bool.and_eq_true] at ok1
      obtain ⟨_, ok2, ok3⟩ := ok1
      have m2 := fun h => mark_slice (h := h) ok2
      have m3 := fun h => mark_slice (h := h) ok3
      have r2 : 0 ≤ X[k].2.1 ∧ X[k].2.1 ≤ 2 := by unfold okBr inR at ok2; simp at ok2; omega
      have r3 : 0 ≤ X[k].2.2 ∧ X[k].2.2 ≤ 2 := by unfold okBr inR at ok3; simp at ok3; omega
      have ql := trip_load (hc.imp id (grows_cellsAt hg)) k1
      simp (disch := omega) [p10, p11, p12, k1, ql]
      refine callW_of (c75 _ hx1.1 _ (pos_of hp hg)) ?_
      rintro _ h2 ⟨rfl, g2⟩
      have hg2 := hg.trans g2
      simp (disch := omega) [wrap64, m2, m3]
      rw [if_pos (by omega)]
      simp (disch := omega) [wrap64, m2, m3]
      rw [if_pos (by omega)]
      try simp (disch := omega)
      refine append_word hp (by simp; omega) hg2 (p3.grow g2) fun v3 h3 g3 b3 => ?_
      try simp (disch := omega) [p10, p11, p12, wrap64]
      refine ⟨k + 1, ⟨by omega, g3, ?_, by omega⟩, by omega⟩
      rw [← List.map_take, List.take_succ_eq_append_getElem k1, List.map_append]
      exact b3
    · have : k = X.length := by omega
      subst this
      rw [List.take_length] at p3
      have hdl := diffT_len hx X.length (Nat.le_refl _)
      rw [List.take_length] at hdl
      try simp (disch := omega) [p10]
      refine callW_of (c167 _ _ [32] _ p3.reads (by show (diffT X).length ≤ _; omega) (by simp; omega)) ?_
      rintro _ h2 ⟨rfl, rfl⟩
      simp (disch := omega) [diffText, q, hg, diffT]
end Am

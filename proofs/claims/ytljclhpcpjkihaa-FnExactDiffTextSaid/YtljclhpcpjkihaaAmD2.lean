/- Contracts: the texts of changes. -/
import Derived.Test.YtljclhpcpjkihaaAmC7
import Derived.Test.YtljclhpcpjkihaaAmC4
import Derived.Test.YtljclhpcpjkihaaAmD1
set_option linter.unusedVariables false
set_option linter.unusedSimpArgs false
set_option maxHeartbeats 4000000
set_option maxRecDepth 4000
namespace Am
open Go

/-- Texts with a text between them. -/
def joinS (sep : List UInt8) : List (List UInt8) → List UInt8
  | [] => []
  | a :: r => a ++ r.flatMap fun x => sep ++ x
theorem joinS_snoc (sep : List UInt8) (l : List (List UInt8)) (x : List UInt8) : joinS sep (l ++ [x]) = if l = [] then x else joinS sep l ++ sep ++ x := by
  cases l with
  | nil => simp [joinS]
  | cons a r => simp [joinS]
theorem joinS_take (sep : List UInt8) (l : List (List UInt8)) (k : Nat) (hk : k < l.length) : joinS sep (l.take (k + 1)) = joinS sep (l.take k) ++ (if 0 < k then sep else []) ++ l[k] := by
  rw [List.take_succ_eq_append_getElem hk, joinS_snoc]
  by_cases h0 : k = 0
  · subst h0; simp [joinS]
  · have h1 : l.take k ≠ [] := by
      intro e; have := congrArg List.length e; rw [List.length_take, List.length_nil] at this; omega
    rw [if_neg h1, if_pos (by omega)]
theorem joinS_mono (sep : List UInt8) (l : List (List UInt8)) (k : Nat) : (joinS sep (l.take k)).length ≤ (joinS sep l).length := by
  by_cases hk : k < l.length
  · suffices h : ∀ j, k + j ≤ l.length → (joinS sep (l.take k)).length ≤ (joinS sep (l.take (k + j))).length by
      have := h (l.length - k) (by omega)
      rwa [show k + (l.length - k) = l.length by omega, List.take_length] at this
    intro j
    induction j with
    | zero => intro _; exact Nat.le_refl _
    | succ j ih =>
      intro hj
      have := joinS_take sep l (k + j) (by omega)
      rw [show k + (j + 1) = k + j + 1 by omega, this]
      have := ih (by omega)
      simp; omega
  · rw [List.take_of_length_le (by omega)]; exact Nat.le_refl _

theorem c167 (v : Value) (l : List (List UInt8)) (sep : List UInt8) (h : Heap) (hv : Reads h v 1 (texts l)) (hl : (joinS sep l).length ≤ 1048576) (hm : l.length ≤ 1048576) : ACall Gam 167 [v, S sep] h fun r h' => r = S (joinS sep l) ∧ h' = h := by
  obtain ⟨b, o, n, rfl, hn, hr⟩ := hv
  have e1 : n = l.length := by simpa [texts] using hn
  subst e1
  refine ACall_intro g167 rfl ?_
  unfold fn167
  simp (disch := omega)
  refine awp_loop (fun k σ h' => k ≤ l.length ∧ h' = h ∧ σ 1 = S sep ∧ σ 5 = S (joinS sep (l.take k)) ∧ σ 8 = sl b o l.length 1 ∧ σ 9 = I l.length ∧ σ 10 = I k) (fun k => l.length - k) 0 ?_ ?_
  · simp [joinS]
  · rintro k σ h' ⟨hk, rfl, p1, p5, p8, p9, p10⟩
    simp (disch := omega) [p9, p10]
    refine fork_dec (fun hlt => ?_) (fun hge => ?_)
    · have k1 : k < l.length := by omega
      have hst := joinS_take sep l k k1
      have hmo := joinS_mono sep l (k + 1)
      have hle := congrArg List.length hst
      simp only [List.length_append] at hle
      simp (disch := omega) [p8, p9, p10, k1, texts_cell hr hn k1]
      refine fork_dec (fun h0 => ?_) (fun h0 => ?_)
      · rw [if_pos (by omega)] at hst hle
        simp (disch := omega) [p1, p5, p8, p9, p10]
        rw [if_pos (by omega)]
        simp (disch := omega) [p1, p5, p8, p9, p10]
        rw [if_pos (by omega)]
        simp (disch := omega) [p1, p5, p8, p9, p10, wrap64]
        exact ⟨k + 1, ⟨by omega, by rw [hst]; simp, by omega⟩, by omega⟩
      · rw [if_neg (by omega)] at hst hle
        simp (disch := omega) [p1, p5, p8, p9, p10]
        simp only [List.length_nil] at hle
        rw [if_pos (by omega)]
        simp (disch := omega) [p1, p5, p8, p9, p10, wrap64]
        exact ⟨k + 1, ⟨by omega, by rw [hst]; simp, by omega⟩, by omega⟩
    · have : k = l.length := by omega
      subst this
      simp (disch := omega) [p5]

def okT (t : Trip) : Bool := inR t.1 0 111 && (okBr t.2.1 && okBr t.2.2)
def okD (X : List Trip) : Bool := X.all okT && decide (X.length ≤ 112)
def signB (b : Int) : UInt8 := if b = 1 then 124 else if b = 2 then 45 else 43
def wordT (t : Trip) : List UInt8 := decS t.1 ++ [signB t.2.1, signB t.2.2]
def diffT (X : List Trip) : List UInt8 := joinS [32] (X.map wordT)
def diffText (X : List Trip) : List UInt8 := if okD X then diffT X else []

theorem all_take {X : List Trip} {k : Nat} (hk : k < X.length) (h : (X.take k).all okT = true) (h1 : okT X[k] = true) : (X.take (k + 1)).all okT = true := by
  rw [List.take_succ_eq_append_getElem hk, List.all_append, h]; simpa using h1
theorem all_not {X : List Trip} {k : Nat} (hk : k < X.length) (h1 : okT X[k] = false) : okD X = false := by
  unfold okD
  have : X.all okT = false := by
    rw [List.all_eq_false]
    exact ⟨_, List.getElem_mem hk, by simp [h1]⟩
  rw [this]; rfl

theorem c550 (h : Heap) (v : Value) (X : List Trip) (hv : Vr h shTrips v X) (hs : X.length ≤ 1048576) : ACall Gam 550 [v] h fun r h' => r = B (okD X) ∧ h' = h := by
  obtain ⟨bb, o, zz, rfl, hzz, hm, hx, hc⟩ := hv.trips
  refine ACall_intro g550 rfl ?_
  unfold fn550
  simp (disch := omega)
  refine awp_loop (fun k σ h' => k ≤ X.length ∧ h' = h ∧ (X.take k).all okT = true ∧ σ 0 = sl bb o X.length zz ∧ σ 3 = I k) (fun k => X.length - k) 0 ?_ ?_
  · simp
  · rintro k σ h' ⟨hk, rfl, ha, p0, p3⟩
    simp (disch := omega) [p0, p3]
    refine fork_dec (fun hlt => ?_) (fun hge => ?_)
    · have k1 : k < X.length := by omega
      obtain ⟨q1, q2, q3⟩ := trips_cell hc k1
      have hnot := fun e => all_not k1 e
      have hyes := fun e => all_take k1 ha e
      unfold okT at hnot hyes
      simp (disch := omega) [p0, p3, k1, q1, q2, q3]
      refine callW_of (c432 _ _ _ _) ?_
      rintro _ h' ⟨rfl, rfl⟩
      cases e1 : inR X[k].1 0 111
      · rw [e1] at hnot
        simp (disch := omega) [hnot rfl]
      simp (disch := omega) [p0, p3, k1, q1, q2, q3]
      refine callW_of (c449 _ _) ?_
      rintro _ h' ⟨rfl, rfl⟩
      cases e2 : okBr X[k].2.1
      · rw [e1, e2] at hnot
        simp (disch := omega) [hnot rfl]
      simp (disch := omega) [p0, p3, k1, q1, q2, q3]
      refine callW_of (c449 _ _) ?_
      rintro _ h' ⟨rfl, rfl⟩
      cases e3 : okBr X[k].2.2
      · rw [e1, e2, e3] at hnot
        simp (disch := omega) [hnot rfl]
      rw [e1, e2, e3] at hyes
      simp (disch := omega) [p0, p3, wrap64]
      exact ⟨k + 1, ⟨by omega, by simpa [okT] using hyes rfl, by omega⟩, by omega⟩
    · have : k = X.length := by omega
      subst this
      rw [List.take_length] at ha
      simp (disch := omega) [p0, okD, ha]
      try omega

theorem trip_load {h : Heap} {b o k : Nat} {X : List Trip} (hr : X = [] ∨ cellsAt h b o (X.length * 3) = some (trips X)) (hk : k < X.length) : cellsAt h b (o + k * 3) 3 = some [I X[k].1, I X[k].2.1, I X[k].2.2] := by
  rcases hr with h0 | hr
  · subst h0; simp at hk
  · have h1 := cellsAt_in (i := k * 3) (m := 3) hr (by omega)
    rw [h1]
    congr 1
    have hx := trips_get X k hk
    have hl := trips_len X
    apply List.ext_getElem?
    intro i
    by_cases h3 : i < 3
    · rw [List.getElem?_take_of_lt h3, List.getElem?_drop]
      rcases (by omega : i = 0 ∨ i = 1 ∨ i = 2) with e | e | e <;> subst e
      · rw [show k * 3 + 0 = 3 * k by omega, hx.1]; rfl
      · rw [show k * 3 + 1 = 3 * k + 1 by omega, hx.2.1]; rfl
      · rw [show k * 3 + 2 = 3 * k + 2 by omega, hx.2.2]; rfl
    · rw [List.getElem?_eq_none (by simp; omega), List.getElem?_eq_none (by simp; omega)]
theorem c197 (h : Heap) (v : Value) (X : List Trip) (hv : Vr h shTrips v X) (hs : X.length ≤ 1048576) : ACall Gam 197 [v] h fun r h' => r = B (okD X) ∧ h' = h := by
  obtain ⟨bb, o, zz, rfl, hzz, hm, hx, hc⟩ := hv.trips
  refine ACall_intro g197 rfl ?_
  unfold fn197
  simp (disch := omega)
  refine awp_loop (fun k σ h' => k ≤ X.length ∧ h' = h ∧ (X.take k).all okT = true ∧ σ 0 = sl bb o X.length zz ∧ σ 5 = sl bb o X.length zz ∧ σ 6 = I X.length ∧ σ 7 = I k) (fun k => X.length - k) 0 ?_ ?_
  · simp
  · rintro k σ h' ⟨hk, rfl, ha, p0, p5, p6, p7⟩
    simp (disch := omega) [p6, p7]
    refine fork_dec (fun hlt => ?_) (fun hge => ?_)
    · have k1 : k < X.length := by omega
      have q := trip_load hc k1
      have hnot := fun e => all_not k1 e
      have hyes := fun e => all_take k1 ha e
      unfold okT at hnot hyes
      simp (disch := omega) [p5, p6, p7, k1, q]
      refine callW_of (c164 _ _ _ _) ?_
      rintro _ h' ⟨rfl, rfl⟩
      cases e1 : inR X[k].1 0 111
      · rw [e1] at hnot
        simp (disch := omega) [hnot rfl]
      simp (disch := omega)
      refine callW_of (c196 _ _) ?_
      rintro _ h' ⟨rfl, rfl⟩
      cases e2 : okBr X[k].2.1
      · rw [e1, e2] at hnot
        simp (disch := omega) [hnot rfl]
      simp (disch := omega)
      refine callW_of (c196 _ _) ?_
      rintro _ h' ⟨rfl, rfl⟩
      cases e3 : okBr X[k].2.2
      · rw [e1, e2, e3] at hnot
        simp (disch := omega) [hnot rfl]
      rw [e1, e2, e3] at hyes
      simp (disch := omega) [p0, p5, p6, p7, wrap64]
      exact ⟨k + 1, ⟨by omega, by simpa [okT] using hyes rfl, by omega⟩, by omega⟩
    · have : k = X.length := by omega
      subst this
      rw [List.take_length] at ha
      simp (disch := omega) [p0, okD, ha]
      try omega

theorem c470 (b : Int) (h : Heap) : ACall Gam 470 [I b] h fun r h' => r = U (signB b).toNat ∧ h' = h := by
  refine ACall_intro g470 rfl ?_
  unfold fn470
  simp (disch := omega)
  refine fork_dec (fun h1 => ?_) (fun h1 => ?_)
  · simp [signB, h1]
  · simp (disch := omega)
    refine fork_dec (fun h2 => ?_) (fun h2 => ?_)
    · simp [signB, h1, h2]
    · simp [signB, h1, h2]
/-- A text is appended to bytes. -/
theorem append_text {h h' : Heap} {v : Value} {l xs : List UInt8} {K : Value → Heap → Prop} (hp : 0 < h.length) (hl : l.length + xs.length ≤ 1048576) (hg : Grows h h') (hv : Buf h h' v 1 (bytesV l)) (hne : xs ≠ [])
    (hK : ∀ v' h'', Grows h h'' → Buf h h'' v' 1 (bytesV (l ++ xs)) → K v' h'') : bindW (aAppend 1 h' (S xs) v) K := by
  refine append_buf hp hg hv (new := bytesV xs) (by simp [newCells, bytesV]) (by omega) (by simpa [bytesV] using hne) (by simp [bytesV]) (by simp [bytesV, maxSize]; omega) ?_
  intro v' h'' g1 b1 _
  exact hK v' h'' g1 (by simpa [bytesV] using b1)
theorem wordT_len {t : Trip} (h : I64 t.1) : (wordT t).length ≤ 22 := by
  have := decS_len h
  simp [wordT]; omega
theorem diffT_step {X : List Trip} {k : Nat} (hk : k < X.length) : diffT (X.take (k + 1)) = diffT (X.take k) ++ (if 0 < k then [32] else []) ++ wordT X[k] := by
  unfold diffT
  have h2 : k < (X.map wordT).length := by simpa using hk
  rw [List.map_take, List.map_take, joinS_take _ _ _ h2]
  simp
theorem diffT_len {X : List Trip} (hx : ∀ x ∈ X, T64 x) (k : Nat) (hk : k ≤ X.length) : (diffT (X.take k)).length ≤ 23 * k := by
  induction k with
  | zero => simp [diffT, joinS]
  | succ k ih =>
    have := ih (by omega)
    rw [diffT_step (by omega)]
    have hw := wordT_len (t := X[k]) (hx _ (List.getElem_mem _)).1
    simp only [List.length_append]
    split <;> simp <;> omega
theorem c553 (h : Heap) (hp : 0 < h.length) (v : Value) (X : List Trip) (hv : Vr h shTrips v X) (hs : X.length ≤ 112) : ACall Gam 553 [v] h fun r h' => r = S (diffT X) ∧ Grows h h' := by
  obtain ⟨bb, o, zz, rfl, hzz, hm, hx, hc⟩ := hv.trips
  refine ACall_intro g553 rfl ?_
  unfold fn553
  simp (disch := omega)
  refine awp_loop (fun k σ h' => k ≤ X.length ∧ Grows h h' ∧ σ 0 = sl bb o X.length zz ∧ Buf h h' (σ 3) 1 (bytesV (diffT (X.take k))) ∧ σ 4 = I k) (fun k => X.length - k) 0 ?_ ?_
  · exact ⟨by omega, Grows.refl _, by simp, by simpa [diffT, joinS, bytesV] using Buf.nil, by simp⟩
  · rintro k σ h' ⟨hk, hg, p0, p3, p4⟩
    simp (disch := omega) [p0, p4]
    refine fork_dec (fun hlt => ?_) (fun hge => ?_)
    · have k1 : k < X.length := by omega
      have hx1 := hx _ (List.getElem_mem k1)
      have hds := decS_len hx1.1
      have hle := diffT_len hx k hk
      have hne : decS X[k].1 ≠ [] := by intro e; rw [e] at hds; simp at hds
      simp (disch := omega) [p4]
      obtain ⟨pre, hpre⟩ : ∃ pre, pre = diffT (X.take k) ++ (if 0 < k then [32] else []) := ⟨_, rfl⟩
      have hpl : pre.length ≤ 23 * k + 1 := by rw [hpre]; simp only [List.length_append]; split <;> simp <;> omega
      have hst := diffT_step k1
      rw [← hpre] at hst
      obtain ⟨q1, q2, q3⟩ := trips_cell hc k1
      generalize hK : seqQ Gam _ _ = K
      have main : ∀ (σ : Nat → Value) (h' : Heap), Grows h h' → σ 0 = sl bb o X.length zz → σ 4 = I k → Buf h h' (σ 3) 1 (bytesV pre) → K 0 σ h' := by
        intro σ h' hg p0 p4 B
        obtain ⟨r1, r2, r3⟩ := trips_cell (hc.imp id (grows_cellsAt hg)) k1
        subst hK
        simp only [seqQ_zero]
        simp (disch := omega) [p0, p4, k1, r1]
        refine callW_of (c437 _ hx1.1 _ (pos_of hp hg)) ?_
        rintro _ h2 ⟨rfl, g2⟩
        refine ⟨fun e => (by first | exact g2 | cases e), ?_⟩
        have hg2 := hg.trans g2
        try simp (disch := omega)
        refine append_text hp (by omega) hg2 (B.grow g2) hne fun v3 h3 g3 b3 => ?_
        obtain ⟨r1, r2, r3⟩ := trips_cell (hc.imp id (grows_cellsAt g3)) k1
        simp (disch := omega) [p0, p4, k1, r2]
        refine callW_of (c470 _ _) ?_
        rintro _ h3 ⟨rfl, rfl⟩
        refine ⟨fun _ => Grows.refl _, ?_⟩
        simp (disch := omega) [p0, p4, k1, r3]
        refine callW_of (c470 _ _) ?_
        rintro _ h3 ⟨rfl, rfl⟩
        try simp (disch := omega)
        refine append_bytes hp (by simp only [List.length_append]; simp; omega) g3 b3 (xs := [signB X[k].2.1, signB X[k].2.2]) (n := 2) (by simp) rfl (by simp [aBuildSlice, bytesV]) fun v4 h4 g4 b4 => ?_
        simp (disch := omega) [p0, p4, wrap64]
        refine ⟨k + 1, ⟨by omega, g4, ?_, by omega⟩, by omega⟩
        rw [hst]
        simpa [wordT] using b4
      refine fork_dec (fun h0 => ?_) (fun h0 => ?_)
      · simp (disch := omega)
        rw [if_pos (by omega)] at hpre
        refine append_bytes hp (by simp; omega) hg p3 (xs := [32]) (n := 1) (by simp) rfl (by simp [aBuildSlice, bytesV]) fun v4 h4 g4 b4 => ?_
        try simp (disch := omega)
        exact main _ _ g4 (by simp [p0]) (by simp [p4]) (by rw [hpre]; simpa using b4)
      · simp (disch := omega)
        rw [if_neg (by omega), List.append_nil] at hpre
        exact main _ _ hg (by simp [p0]) (by simp [p4]) (by rw [hpre]; simpa using p3)
    · have : k = X.length := by omega
      subst this
      rw [List.take_length] at p3
      simp (disch := omega) [text_buf p3, hg]
end Am

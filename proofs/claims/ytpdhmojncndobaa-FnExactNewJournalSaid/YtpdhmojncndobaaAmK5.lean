/- Contracts: AmD2, AmD3, AmJ1, AmJ2, AmJ3, AmJ4. -/
import Derived.Test.YtpdhmojncndobaaAmK2
import Derived.Test.YtpdhmojncndobaaAmK1
import Derived.Test.YtpdhmojncndobaaAmK4
import Derived.Test.YtpdhmojncndobaaAmK3
/-! AmD2 -/
set_option linter.unusedVariables false
set_option linter.unusedSimpArgs false
set_option maxHeartbeats 4000000
set_option maxRecDepth 4000
namespace Am
open Go

/-- Texts with a text between them. -/
def joinS (sep : List UInt8) : List (List UInt8) → List UInt8
  | [] => []
  | a :: r => a ++ r.flatMap fun x => sep ++ x
theorem joinS_snoc (sep : List UInt8) (l : List (List UInt8)) (x : List UInt8) : joinS sep (l ++ [x]) = if l = [] then x else joinS sep l ++ sep ++ x := by
  cases l with
  | nil => simp [joinS]
  | cons a r => simp [joinS]
theorem joinS_take (sep : List UInt8) (l : List (List UInt8)) (k : Nat) (hk : k < l.length) : joinS sep (l.take (k + 1)) = joinS sep (l.take k) ++ (if 0 < k then sep else []) ++ l[k] := by
  rw [List.take_succ_eq_append_getElem hk, joinS_snoc]
  by_cases h0 : k = 0
  · subst h0; simp [joinS]
  · have h1 : l.take k ≠ [] := by
      intro e; have := congrArg List.length e; rw [List.length_take, List.length_nil] at this; omega
    rw [if_neg h1, if_pos (by omega)]
theorem joinS_mono (sep : List UInt8) (l : List (List UInt8)) (k : Nat) : (joinS sep (l.take k)).length ≤ (joinS sep l).length := by
  by_cases hk : k < l.length
  · suffices h : ∀ j, k + j ≤ l.length → (joinS sep (l.take k)).length ≤ (joinS sep (l.take (k + j))).length by
      have := h (l.length - k) (by omega)
      rwa [show k + (l.length - k) = l.length by omega, List.take_length] at this
    intro j
    induction j with
    | zero => intro _; exact Nat.le_refl _
    | succ j ih =>
      intro hj
      have := joinS_take sep l (k + j) (by omega)
      rw [show k + (j + 1) = k + j + 1 by omega, this]
      have := ih (by omega)
      simp; omega
  · rw [List.take_of_length_le (by omega)]; exact Nat.le_refl _

def okT (t : Trip) : Bool := inR t.1 0 111 && (okBr t.2.1 && okBr t.2.2)
def okD (X : List Trip) : Bool := X.all okT && decide (X.length ≤ 112)
def signB (b : Int) : UInt8 := if b = 1 then 124 else if b = 2 then 45 else 43
def wordT (t : Trip) : List UInt8 := decS t.1 ++ [signB t.2.1, signB t.2.2]
def diffT (X : List Trip) : List UInt8 := joinS [32] (X.map wordT)
def diffText (X : List Trip) : List UInt8 := if okD X then diffT X else []

theorem all_take {X : List Trip} {k : Nat} (hk : k < X.length) (h : (X.take k).all okT = true) (h1 : okT X[k] = true) : (X.take (k + 1)).all okT = true := by
  rw [List.take_succ_eq_append_getElem hk, List.all_append, h]; simpa using h1
theorem all_not {X : List Trip} {k : Nat} (hk : k < X.length) (h1 : okT X[k] = false) : okD X = false := by
  unfold okD
  have : X.all okT = false := by
    rw [List.all_eq_false]
    exact ⟨_, List.getElem_mem hk, by simp [h1]⟩
  rw [this]; rfl

theorem c550 (h : Heap) (v : Value) (X : List Trip) (hv : Vr h shTrips v X) (hs : X.length ≤ 1048576) : ACall Gam 550 [v] h fun r h' => r = B (okD X) ∧ h' = h := by
  obtain ⟨bb, o, zz, rfl, hzz, hm, hx, hc⟩ := hv.trips
  refine ACall_intro g550 rfl ?_
  unfold fn550
  simp (disch := omega)
  refine awp_loop (fun k σ h' => k ≤ X.length ∧ h' = h ∧ (X.take k).all okT = true ∧ σ 0 = sl bb o X.length zz ∧ σ 3 = I k) (fun k => X.length - k) 0 ?_ ?_
  · simp
  · rintro k σ h' ⟨hk, rfl, ha, p0, p3⟩
    simp (disch := omega) [p0, p3]
    refine fork_dec (fun hlt => ?_) (fun hge => ?_)
    · have k1 : k < X.length := by omega
      obtain ⟨q1, q2, q3⟩ := trips_cell hc k1
      have hnot := fun e => all_not k1 e
      have hyes := fun e => all_take k1 ha e
      unfold okT at hnot hyes
      simp (disch := omega) [p0, p3, k1, q1, q2, q3]
      refine callW_of (c432 _ _ _ _) ?_
      rintro _ h' ⟨rfl, rfl⟩
      cases e1 : inR X[k].1 0 111
      · rw [e1] at hnot
        simp (disch := omega) [hnot rfl]
      simp (disch := omega) [p0, p3, k1, q1, q2, q3]
      refine callW_of (c449 _ _) ?_
      rintro _ h' ⟨rfl, rfl⟩
      cases e2 : okBr X[k].2.1
      · rw [e1, e2] at hnot
        simp (disch := omega) [hnot rfl]
      simp (disch := omega) [p0, p3, k1, q1, q2, q3]
      refine callW_of (c449 _ _) ?_
      rintro _ h' ⟨rfl, rfl⟩
      cases e3 : okBr X[k].2.2
      · rw [e1, e2, e3] at hnot
        simp (disch := omega) [hnot rfl]
      rw [e1, e2, e3] at hyes
      simp (disch := omega) [p0, p3, wrap64]
      exact ⟨k + 1, ⟨by omega, by simpa [okT] using hyes rfl, by omega⟩, by omega⟩
    · have : k = X.length := by omega
      subst this
      rw [List.take_length] at ha
      simp (disch := omega) [p0, okD, ha]
      try omega

theorem trip_load {h : Heap} {b o k : Nat} {X : List Trip} (hr : X = [] ∨ cellsAt h b o (X.length * 3) = some (trips X)) (hk : k < X.length) : cellsAt h b (o + k * 3) 3 = some [I X[k].1, I X[k].2.1, I X[k].2.2] := by
  rcases hr with h0 | hr
  · subst h0; simp at hk
  · have h1 := cellsAt_in (i := k * 3) (m := 3) hr (by omega)
    rw [h1]
    congr 1
    have hx := trips_get X k hk
    have hl := trips_len X
    apply List.ext_getElem?
    intro i
    by_cases h3 : i < 3
    · rw [List.getElem?_take_of_lt h3, List.getElem?_drop]
      rcases (by omega : i = 0 ∨ i = 1 ∨ i = 2) with e | e | e <;> subst e
      · rw [show k * 3 + 0 = 3 * k by omega, hx.1]; rfl
      · rw [show k * 3 + 1 = 3 * k + 1 by omega, hx.2.1]; rfl
      · rw [show k * 3 + 2 = 3 * k + 2 by omega, hx.2.2]; rfl
    · rw [List.getElem?_eq_none (by simp; omega), List.getElem?_eq_none (by simp; omega)]
theorem c197 (h : Heap) (v : Value) (X : List Trip) (hv : Vr h shTrips v X) (hs : X.length ≤ 1048576) : ACall Gam 197 [v] h fun r h' => r = B (okD X) ∧ h' = h := by
  obtain ⟨bb, o, zz, rfl, hzz, hm, hx, hc⟩ := hv.trips
  refine ACall_intro g197 rfl ?_
  unfold fn197
  simp (disch := omega)
  refine awp_loop (fun k σ h' => k ≤ X.length ∧ h' = h ∧ (X.take k).all okT = true ∧ σ 0 = sl bb o X.length zz ∧ σ 5 = sl bb o X.length zz ∧ σ 6 = I X.length ∧ σ 7 = I k) (fun k => X.length - k) 0 ?_ ?_
  · simp
  · rintro k σ h' ⟨hk, rfl, ha, p0, p5, p6, p7⟩
    simp (disch := omega) [p6, p7]
    refine fork_dec (fun hlt => ?_) (fun hge => ?_)
    · have k1 : k < X.length := by omega
      have q := trip_load hc k1
      have hnot := fun e => all_not k1 e
      have hyes := fun e => all_take k1 ha e
      unfold okT at hnot hyes
      simp (disch := omega) [p5, p6, p7, k1, q]
      refine callW_of (c164 _ _ _ _) ?_
      rintro _ h' ⟨rfl, rfl⟩
      cases e1 : inR X[k].1 0 111
      · rw [e1] at hnot
        simp (disch := omega) [hnot rfl]
      simp (disch := omega)
      refine callW_of (c196 _ _) ?_
      rintro _ h' ⟨rfl, rfl⟩
      cases e2 : okBr X[k].2.1
      · rw [e1, e2] at hnot
        simp (disch := omega) [hnot rfl]
      simp (disch := omega)
      refine callW_of (c196 _ _) ?_
      rintro _ h' ⟨rfl, rfl⟩
      cases e3 : okBr X[k].2.2
      · rw [e1, e2, e3] at hnot
        simp (disch := omega) [hnot rfl]
      rw [e1, e2, e3] at hyes
      simp (disch := omega) [p0, p5, p6, p7, wrap64]
      exact ⟨k + 1, ⟨by omega, by simpa [okT] using hyes rfl, by omega⟩, by omega⟩
    · have : k = X.length := by omega
      subst this
      rw [List.take_length] at ha
      simp (disch := omega) [p0, okD, ha]
      try omega

theorem c470 (b : Int) (h : Heap) : ACall Gam 470 [I b] h fun r h' => r = U (signB b).toNat ∧ h' = h := by
  refine ACall_intro g470 rfl ?_
  unfold fn470
  simp (disch := omega)
  refine fork_dec (fun h1 => ?_) (fun h1 => ?_)
  · simp [signB, h1]
  · simp (disch := omega)
    refine fork_dec (fun h2 => ?_) (fun h2 => ?_)
    · simp [signB, h1, h2]
    · simp [signB, h1, h2]
/-- A text is appended to bytes. -/
theorem append_text {h h' : Heap} {v : Value} {l xs : List UInt8} {K : Value → Heap → Prop} (hp : 0 < h.length) (hl : l.length + xs.length ≤ 1048576) (hg : Grows h h') (hv : Buf h h' v 1 (bytesV l)) (hne : xs ≠ [])
    (hK : ∀ v' h'', Grows h h'' → Buf h h'' v' 1 (bytesV (l ++ xs)) → K v' h'') : bindW (aAppend 1 h' (S xs) v) K := by
  refine append_buf hp hg hv (new := bytesV xs) (by simp [newCells, bytesV]) (by omega) (by simpa [bytesV] using hne) (by simp [bytesV]) (by simp [bytesV, maxSize]; omega) ?_
  intro v' h'' g1 b1 _
  exact hK v' h'' g1 (by simpa [bytesV] using b1)
theorem wordT_len {t : Trip} (h : I64 t.1) : (wordT t).length ≤ 22 := by
  have := decS_len h
  simp [wordT]; omega
theorem diffT_step {X : List Trip} {k : Nat} (hk : k < X.length) : diffT (X.take (k + 1)) = diffT (X.take k) ++ (if 0 < k then [32] else []) ++ wordT X[k] := by
  unfold diffT
  have h2 : k < (X.map wordT).length := by simpa using hk
  rw [List.map_take, List.map_take, joinS_take _ _ _ h2]
  simp
theorem diffT_len {X : List Trip} (hx : ∀ x ∈ X, T64 x) (k : Nat) (hk : k ≤ X.length) : (diffT (X.take k)).length ≤ 23 * k := by
  induction k with
  | zero => simp [diffT, joinS]
  | succ k ih =>
    have := ih (by omega)
    rw [diffT_step (by omega)]
    have hw := wordT_len (t := X[k]) (hx _ (List.getElem_mem _)).1
    simp only [List.length_append]
    split <;> simp <;> omega
end Am
/-! AmD3 -/
set_option linter.unusedVariables false
set_option linter.unusedSimpArgs false
set_option maxHeartbeats 4000000
set_option maxRecDepth 4000
namespace Am
open Go

/-- A text is appended to texts. -/
theorem append_word {h h' : Heap} {v : Value} {l : List (List UInt8)} {x : List UInt8} {K : Value → Heap → Prop} (hp : 0 < h.length) (hl : l.length ≤ 1048576) (hg : Grows h h') (hv : Buf h h' v 1 (texts l))
    (hK : ∀ v' h'', Grows h h'' → Buf h h'' v' 1 (texts (l ++ [x])) → K v' h'') :
    bindW (aBuildSlice 1 1 h' [(0, .agg #[S []]), (1, S x)]) fun y h'' => bindW (aAppend 1 h'' y v) K := by
  have e : aBuildSlice 1 1 h' [(0, .agg #[S []]), (1, S x)] = some (sl h'.length 0 1 1, h' ++ [⟨[S x], true⟩]) := by simp [aBuildSlice]
  rw [e]
  simp only [bindW_some]
  refine append_buf hp (hg.push _) (hv.grow ⟨_, rfl⟩) (new := [S x]) ?_ (by omega) (by simp) (by simp) (by simp [texts, maxSize]; omega) ?_
  · simp [newCells]
    rw [cellsAt_of (k := ⟨[S x], true⟩) (by simp) (by simp)]
    simp
  · intro v' h'' g1 b1 _
    exact hK v' h'' g1 (by rw [texts_append]; exact b1)
theorem mark_slice {h : Heap} {a : Int} (ha : okBr a = true) : aSlice 0 h (S [43, 124, 45]) (some (I a)) (some (I (a + 1))) none = some (S [signB a], h) := by
  have hr : a = 0 ∨ a = 1 ∨ a = 2 := by unfold okBr inR at ha; simp at ha; omega
  rcases hr with e | e | e <;> subst e <;> simp [aSlice, bound, signB, ByteArray.size]
theorem okD_iff {X : List Trip} : okD X = true ↔ (∀ t ∈ X, okT t = true) ∧ X.length ≤ 112 := by simp [okD, -Prod.forall]
theorem diffText_len {X : List Trip} (hx : ∀ x ∈ X, T64 x) : (diffText X).length ≤ 2600 := by
  unfold diffText
  split
  · rename_i ok
    have hl := (okD_iff.1 ok).2
    have := diffT_len hx X.length (Nat.le_refl _)
    rw [List.take_length] at this; omega
  · simp

end Am
/-! AmJ1 -/
set_option linter.unusedVariables false
set_option linter.unusedSimpArgs false
set_option maxHeartbeats 4000000
set_option maxRecDepth 4000
namespace Am
open Go

/-- A step fits a panel with n points. -/
def okStep (n : Nat) (s : Trip) : Bool := inR s.1 0 ((n : Int) - 1) && (okBr s.2.1 && (okBr s.2.2 && !decide (s.2.1 = s.2.2)))
theorem okStep_iff {n : Nat} {s : Trip} : okStep n s = true ↔ (0 ≤ s.1 ∧ s.1 < n) ∧ (0 ≤ s.2.1 ∧ s.2.1 ≤ 2) ∧ (0 ≤ s.2.2 ∧ s.2.2 ≤ 2) ∧ s.2.1 ≠ s.2.2 := by
  simp only [okStep, okBr, Bool.and_eq_true, inR_iff, Bool.not_eq_true', decide_eq_false_iff_not]
  omega
/-- Steps undone, the last one first: none if one does not fit. -/
def runB : List Trip → List Int → Option (List Int)
  | [], br => some br
  | s :: l, br => if okStep br.length s && decide (at0 br s.1.toNat = s.2.2) then runB l (br.set s.1.toNat s.2.1) else none
/-- Steps made. -/
def runF : List Trip → List Int → Option (List Int)
  | [], br => some br
  | s :: l, br => if okStep br.length s && decide (at0 br s.1.toNat = s.2.1) then runF l (br.set s.1.toNat s.2.2) else none
def okJ (X : Jrn) : Bool := okP X.1 && (decide (X.2.1.length + X.2.2.length ≤ 50) && ((runB X.2.1.reverse X.1.2.2).isSome && (runF X.2.2 X.1.2.2).isSome))

theorem c163 (a : Int) (n : Nat) (hn : n ≤ maxLen) (h : Heap) : ACall Gam 163 [I a, I n] h fun v h' => v = B (inR a 0 ((n : Int) - 1)) ∧ h' = h := by
  rw [maxLen_eq] at hn
  refine ACall_intro g163 rfl ?_
  unfold fn163
  simp (disch := omega) [wrap64]
  refine callW_of (c164 a 0 ((n : Int) - 1) h) ?_
  rintro v h' ⟨rfl, rfl⟩
  simp

theorem c199 (h : Heap) (W H : Int) (b o n z : Nat) (s : Trip) (hn : n ≤ maxLen) : ACall Gam 199 [.agg #[I W, I H, sl b o n z], .agg #[I s.1, I s.2.1, I s.2.2]] h fun r h' => r = B (okStep n s) ∧ h' = h := by
  refine ACall_intro g199 rfl ?_
  unfold fn199
  simp (disch := omega)
  refine callW_of (c163 s.1 n hn h) ?_
  rintro v h' ⟨rfl, rfl⟩
  cases h1 : inR s.1 0 ((n : Int) - 1)
  · simp [okStep, h1]
  simp (disch := omega)
  refine callW_of (c196 s.2.1 h') ?_
  rintro v h' ⟨rfl, rfl⟩
  cases h2 : okBr s.2.1
  · simp [okStep, h1, h2]
  simp (disch := omega)
  refine callW_of (c196 s.2.2 h') ?_
  rintro v h' ⟨rfl, rfl⟩
  cases h3 : okBr s.2.2
  · simp [okStep, h1, h2, h3]
  simp (disch := omega) [okStep, h1, h2, h3]

theorem c562 (h : Heap) (pb po : Nat) (b o n z : Nat) (s : Trip) (hn : n ≤ maxLen) (hc : cell h pb (po + 2) = some (sl b o n z)) : ACall Gam 562 [pt pb po, .agg #[I s.1, I s.2.1, I s.2.2]] h fun r h' => r = B (okStep n s) ∧ h' = h := by
  have hn' := hn
  rw [maxLen_eq] at hn'
  refine ACall_intro g562 rfl ?_
  unfold fn562
  simp (disch := omega) [hc, wrap64]
  refine callW_of (c432 s.1 0 ((n : Int) - 1) h) ?_
  rintro v h' ⟨rfl, rfl⟩
  cases h1 : inR s.1 0 ((n : Int) - 1)
  · simp [okStep, h1]
  simp (disch := omega)
  refine callW_of (c449 s.2.1 h') ?_
  rintro v h' ⟨rfl, rfl⟩
  cases h2 : okBr s.2.1
  · simp [okStep, h1, h2]
  simp (disch := omega)
  refine callW_of (c449 s.2.2 h') ?_
  rintro v h' ⟨rfl, rfl⟩
  cases h3 : okBr s.2.2
  · simp [okStep, h1, h2, h3]
  simp (disch := omega) [okStep, h1, h2, h3]

/-- A number written in a block of numbers. -/
theorem ints_set (l : List Int) (k : Nat) (v : Int) : (ints l).set k (I v) = ints (l.set k v) := by simp [ints, List.map_set]
theorem store_int {h : Heap} {b k : Nat} {l : List Int} {v : Int} (hb : h[b]? = some ⟨ints l, true⟩) (hk : k < l.length) : storeAt h b k [I v] = some (h.set b ⟨ints (l.set k v), true⟩) := by
  rw [store_one hb (by simp [ints]; exact hk), ints_set]
theorem cell_int {h : Heap} {b k : Nat} {l : List Int} {r : Bool} (hb : h[b]? = some ⟨ints l, r⟩) (hk : k < l.length) : cell h b k = some (I (at0 l k)) := by
  rw [at0_of hk]
  exact cell_of hb (by simp [ints, hk])
theorem ok_len {W H : Int} {br : List Int} (ok : OkP (W, H, br)) : br.length ≤ 112 := by
  have := inner_bd (a := W) (b := H) ok.w ok.h
  have := ok.n
  simp only at this
  omega
theorem storeAt_whole {h : Heap} {b : Nat} {cs ds : List Value} (hb : h[b]? = some ⟨ds, true⟩) (hl : cs.length = ds.length) : storeAt h b 0 cs = some (h.set b ⟨cs, true⟩) := by
  unfold storeAt
  simp only [hb]
  rw [if_pos ⟨trivial, by omega⟩]
  simp [hl]
/-- A clone's slice. -/
theorem own_slice {h : Heap} {lo hi : Nat} {v : Value} {X : List Int} (x : Vo h lo hi shInts v X) : ∃ b z, v = sl b 0 X.length z ∧ (X.length = 0 ∨ h[b]? = some ⟨ints X, true⟩ ∧ lo ≤ b ∧ b < hi) := by
  obtain ⟨b, z, e, _, _, _, hc⟩ := x.ints
  exact ⟨b, z, e, hc.imp (fun e => by rw [e]; rfl) id⟩
/-- A pointer to a journal. -/
def PtJ (h : Heap) (v : Value) (X : Jrn) : Prop := ∃ b o s sp sf, v = pt b o ∧ cellsAt h b o 5 = some [I X.1.1, I X.1.2.1, s, sp, sf] ∧ Vr h shInts s X.1.2.2 ∧ Vr h shTrips sp X.2.1 ∧ Vr h shTrips sf X.2.2 ∧ I64 X.1.1 ∧ I64 X.1.2.1
theorem PtJ.grow {h h' : Heap} {v : Value} {X : Jrn} (x : PtJ h v X) (g : Grows h h') : PtJ h' v X := by
  obtain ⟨b, o, s, sp, sf, e, h1, h2, h3, h4, h5⟩ := x
  exact ⟨b, o, s, sp, sf, e, g.cellsAt h1, h2.grow g, h3.grow g, h4.grow g, h5⟩
theorem PtJ.of {h : Heap} {b : Nat} {W H : Int} {s sp sf : Value} {br : List Int} {p f : List Trip} {r : Bool} (hb : h[b]? = some ⟨[I W, I H, s, sp, sf], r⟩) (h1 : Vr h shInts s br) (h2 : Vr h shTrips sp p) (h3 : Vr h shTrips sf f) (w1 : I64 W) (w2 : I64 H) : PtJ h (pt b 0) ((W, H, br), p, f) :=
  ⟨b, 0, s, sp, sf, rfl, cellsAt_all hb rfl, h1, h2, h3, w1, w2⟩
theorem PtJ.panel {h : Heap} {b o : Nat} {X : Jrn} (x : PtJ h (pt b o) X) : PtP h (pt b o) X.1 := by
  obtain ⟨b, o, s, sp, sf, e, h1, h2, h3, h4, w1, w2⟩ := x
  injection e with e; injection e with e; injection e with e1 e2; subst e1; subst e2
  have k0 := (cell_in (i := 0) h1 (by omega)).1
  have k1 := (cell_in (i := 1) h1 (by omega)).1
  have k2 := (cell_in (i := 2) h1 (by omega)).1
  exact ⟨_, _, s, rfl, by simpa using k0, by simpa using k1, by simpa using k2, h2, w1, w2⟩

end Am
/-! AmJ2 -/
set_option linter.unusedVariables false
set_option linter.unusedSimpArgs false
set_option maxHeartbeats 4000000
set_option maxRecDepth 4000
namespace Am
open Go

end Am
/-! AmJ3 -/
set_option linter.unusedVariables false
set_option linter.unusedSimpArgs false
set_option maxHeartbeats 4000000
set_option maxRecDepth 4000
namespace Am
open Go

def noJ : Jrn := ((0, 0, []), [], [])
theorem i64_0 : I64 0 := by unfold I64; omega
theorem Vo.no_journal {h : Heap} {lo hi : Nat} : Vo h lo hi shJournal (.agg #[I 0, I 0, sl 0 0 0 0, sl 0 0 0 0, sl 0 0 0 0]) noJ := by
  refine Vo.of_journal (l1 := 0) (u1 := 0) (l2 := 0) (u2 := 0) (l3 := 0) (u3 := 0) i64_0 i64_0 Vo.no_ints Vo.no_steps Vo.no_steps ?_ ?_ ?_ ?_ ?_ ?_ <;> ((first | unfold Sub2 | unfold Dis) <;> omega)
theorem noJ_siz : siz shJournal noJ = 0 := by unfold noJ; rw [siz_journal]; rfl

/-! ### a journal without steps -/
def njAns (X : Pan) : Jrn × Int := if okP X then ((X, [], []), 0) else (noJ, 1)
theorem nj_siz (X : Pan) (hs : siz shPanel X ≤ 1048576) : siz shJournal (njAns X).1 ≤ 16777216 := by
  obtain ⟨W, H, br⟩ := X
  rw [siz_panel] at hs
  unfold njAns
  split
  · rw [siz_journal]; simp; omega
  · rw [noJ_siz]; omega
theorem Vo.new_journal {h : Heap} {lo hi : Nat} {W H : Int} {br : List Int} {s : Value} (h1 : I64 W) (h2 : I64 H) (o : Vo h lo hi shInts s br) : Vo h lo hi shJournal (.agg #[I W, I H, s, sl 0 0 0 0, sl 0 0 0 0]) ((W, H, br), [], []) := by
  have hlt : lo ≤ hi ∨ hi < lo := by omega
  rcases hlt with hlt | hlt
  · refine Vo.of_journal (l1 := lo) (u1 := hi) (l2 := 0) (u2 := 0) (l3 := 0) (u3 := 0) h1 h2 o Vo.no_steps Vo.no_steps ?_ ?_ ?_ ?_ ?_ ?_ <;> ((first | unfold Sub2 | unfold Dis) <;> omega)
  · have o' : Vo h 0 0 shInts s br := by
      obtain ⟨cs, bs, r, e, n, hb⟩ := o
      refine ⟨cs, bs, r, e, n, fun b hb' => ?_⟩
      have := hb b hb'
      omega
    refine Vo.of_journal (l1 := 0) (u1 := 0) (l2 := 0) (u2 := 0) (l3 := 0) (u3 := 0) h1 h2 o' Vo.no_steps Vo.no_steps ?_ ?_ ?_ ?_ ?_ ?_ <;> ((first | unfold Sub2 | unfold Dis) <;> omega)

theorem c101 (h : Heap) (hp : 0 < h.length) (v0 : Value) (X0 : Pan) (hv0 : Vr h shPanel v0 X0) (hs0 : siz shPanel X0 ≤ 1048576) :
    ACall Gam 101 [v0] h fun r h' => Grows h h' ∧ ∃ r0, r = .tuple #[r0, I (njAns X0).2] ∧ Vo h' h.length h'.length shJournal r0 (njAns X0).1 ∧ siz shJournal (njAns X0).1 ≤ 16777216 := by
  have hsz := nj_siz X0 hs0
  obtain ⟨W, H, br⟩ := X0
  rw [siz_panel] at hs0
  have hv0' := hv0
  obtain ⟨s, rfl, w1, w2, r1⟩ := hv0.panel
  refine ACall_intro g101 rfl ?_
  unfold fn101
  simp (disch := omega)
  refine callW_of (c140 _ _ h hv0') ?_
  rintro _ h1 ⟨rfl, rfl⟩
  cases q : okP (W, H, br)
  · have e : njAns (W, H, br) = (noJ, 1) := by simp [njAns, q]
    rw [e] at hsz ⊢
    simp (disch := omega) [resOf, resAll, resOne, aField]
    exact ⟨Grows.refl _, Vo.no_journal, hsz⟩
  have e : njAns (W, H, br) = (((W, H, br), [], []), 0) := by simp [njAns, q]
  rw [e] at hsz ⊢
  simp (disch := omega)
  refine callW_of (c150 h1 _ _ hp hv0' hs0) ?_
  rintro _ h2 ⟨g2, o2⟩
  obtain ⟨so, rfl, _, _, o2⟩ := o2.panel
  obtain ⟨bb, zz, e2, _⟩ := o2.ints
  subst e2
  simp (disch := omega) [resOf, resAll, resOne, aField]
  exact ⟨g2, Vo.new_journal w1 w2 o2, hsz⟩

theorem c394 (h : Heap) (hp : 0 < h.length) (v0 : Value) (X0 : Pan) (hv0 : Vr h shPanel v0 X0) (hs0 : siz shPanel X0 ≤ 1048576) :
    ACall Gam 394 [v0] h fun r h' => Grows h h' ∧ ∃ r0, r = .tuple #[r0, I (njAns X0).2] ∧ Vo h' h.length h'.length shJournal r0 (njAns X0).1 ∧ siz shJournal (njAns X0).1 ≤ 16777216 := by
  have hsz := nj_siz X0 hs0
  obtain ⟨W, H, br⟩ := X0
  rw [siz_panel] at hs0
  obtain ⟨s, rfl, w1, w2, r1⟩ := hv0.panel
  refine ACall_intro g394 rfl ?_
  unfold fn394
  simp (disch := omega)
  obtain ⟨ha, eha⟩ : ∃ ha, ha = h ++ [⟨[I W, I H, s], true⟩] := ⟨_, rfl⟩
  rw [← eha]
  have ga : Grows h ha := ⟨_, eha⟩
  have la := ga.le
  have ka : ha[h.length]? = some ⟨[I W, I H, s], true⟩ := by rw [eha]; simp
  have hpt : PtP ha (pt h.length 0) (W, H, br) := PtP.at ka (r1.grow ga) w1 w2
  refine callW_of (c452 _ _ ha hpt) ?_
  rintro _ h1 ⟨rfl, rfl⟩
  cases q : okP (W, H, br)
  · have e : njAns (W, H, br) = (noJ, 1) := by simp [njAns, q]
    rw [e] at hsz ⊢
    simp (disch := omega) [resOf, resAll, resOne, aField]
    exact ⟨ga, Vo.no_journal, hsz⟩
  have e : njAns (W, H, br) = (((W, H, br), [], []), 0) := by simp [njAns, q]
  rw [e] at hsz ⊢
  simp (disch := omega)
  refine callW_of (c453 h1 _ _ (pos_of hp ga) hpt hs0) ?_
  rintro _ h2 ⟨g2, o2⟩
  obtain ⟨so, rfl, _, _, o2⟩ := o2.panel
  obtain ⟨bb, zz, e2, _⟩ := o2.ints
  subst e2
  simp (disch := omega) [resOf, resAll, resOne, aField]
  exact ⟨ga.trans g2, Vo.new_journal w1 w2 (o2.wide la (Nat.le_refl _)), hsz⟩

/-! ### the panel before all steps -/
def startB (X : Jrn) : List Int := (runB X.2.1.reverse X.1.2.2).getD []
theorem runB_ok : ∀ {l : List Trip} {br c : List Int}, runB l br = some c → c.length = br.length ∧ ((∀ x ∈ br, 0 ≤ x ∧ x ≤ 2) → ∀ x ∈ c, 0 ≤ x ∧ x ≤ 2)
  | [], br, c, h => by simp only [runB, Option.some.injEq] at h; subst h; exact ⟨rfl, fun h => h⟩
  | s :: l, br, c, h => by
    simp only [runB] at h
    split at h
    · rename_i hs
      simp only [Bool.and_eq_true] at hs
      obtain ⟨h1, h2⟩ := runB_ok h
      refine ⟨by simpa using h1, fun hb => h2 fun x hx => ?_⟩
      rcases List.mem_or_eq_of_mem_set hx with hx | rfl
      · exact hb x hx
      · exact (okStep_iff.1 hs.1).2.1
    · cases h
theorem runB_step {n : Nat} {s : Trip} {l : List Trip} {br c : List Int} (hn : br.length = n) (h : runB (s :: l) br = some c) : (0 ≤ s.1 ∧ s.1 < n) ∧ runB l (br.set s.1.toNat s.2.1) = some c := by
  simp only [runB] at h
  split at h
  · rename_i hs
    simp only [Bool.and_eq_true] at hs
    have := (okStep_iff.1 hs.1).1
    exact ⟨by omega, h⟩
  · cases h
theorem okJ_parts {W H : Int} {br : List Int} {p f : List Trip} (h : okJ ((W, H, br), p, f) = true) : OkP (W, H, br) ∧ p.length + f.length ≤ 50 ∧ (∃ c, runB p.reverse br = some c) ∧ ∃ c, runF f br = some c := by
  simp only [okJ, Bool.and_eq_true, decide_eq_true_eq, Option.isSome_iff_exists] at h
  exact ⟨okP_iff.1 h.1, h.2.1, h.2.2.1, h.2.2.2⟩
theorem cur_64 {c : List Int} (h : ∀ x ∈ c, 0 ≤ x ∧ x ≤ 2) : ∀ x ∈ c, I64 x := fun x hx => rng_64' (h x hx)
where rng_64' {x : Int} (h : 0 ≤ x ∧ x ≤ 2) : I64 x := by unfold I64; omega

theorem rev_drop {α : Type} {p : List α} {k j : Nat} (hk : k < p.length) (hj : j = p.length - 1 - k) : p.reverse.drop k = p[j]'(by omega) :: p.reverse.drop (k + 1) := by
  rw [List.drop_eq_getElem_cons (by simpa using hk)]
  congr 1
  rw [List.getElem_reverse]
  congr 1
  omega

theorem c22 (h : Heap) (hp : 0 < h.length) (v0 : Value) (W H : Int) (br : List Int) (p f : List Trip) (hv0 : Vr h shJournal v0 ((W, H, br), p, f)) (hok : okJ ((W, H, br), p, f) = true) :
    ACall Gam 22 [v0] h fun r h' => Grows h h' ∧ Vo h' h.length h'.length shPanel r (W, H, startB ((W, H, br), p, f)) := by
  obtain ⟨ok, hle, ⟨fin, hfin⟩, _⟩ := okJ_parts hok
  have hbl := ok_len ok
  have eS : startB ((W, H, br), p, f) = fin := by simp [startB, hfin]
  rw [eS]
  obtain ⟨hf1, hf2⟩ := runB_ok hfin
  obtain ⟨s, sp, sf, rfl, w1, w2, r1, r2, r3⟩ := hv0.journal
  have rp : Vr h shPanel (.agg #[I W, I H, s]) (W, H, br) := Vr.of_panel w1 w2 r1
  have hcp := r2.trips
  obtain ⟨pb, po, pz, rfl, _, hpm, hpx, hpc⟩ := hcp
  rw [maxLen_eq] at hpm
  refine ACall_intro g22 rfl ?_
  unfold fn22
  simp (disch := omega)
  refine callW_of (c150 h _ _ hp rp (by simp only; omega)) ?_
  rintro _ h2 ⟨g2, o2⟩
  obtain ⟨so, rfl, _, _, o2⟩ := o2.panel
  obtain ⟨bb, zz, rfl, hz, _, _, hb⟩ := o2.ints
  obtain ⟨n, hn⟩ : ∃ n, n = br.length := ⟨_, rfl⟩
  have hz' : zz = 1 ∨ bb = 0 ∧ n = 0 := hz.imp id fun e => ⟨e.1, by rw [hn, e.2]; rfl⟩
  have hb' : n = 0 ∨ h2[bb]? = some ⟨ints br, true⟩ ∧ h.length ≤ bb := hb.imp (fun e => by rw [hn, e]; rfl) fun e => ⟨e.1, e.2.1⟩
  rw [← hn] at hf1 ⊢
  simp (disch := omega) [wrap64]
  refine awp_loop (fun (k : Nat) σ h' => k ≤ p.length ∧ Grows h h' ∧ σ 1 = .agg #[I W, I H, s, sl pb po p.length pz, sf] ∧ σ 2 = .agg #[I 0, I 0, sl 0 0 0 0] ∧ σ 3 = .agg #[I W, I H, sl bb 0 n zz] ∧ σ 4 = I ((p.length : Int) - 1 - k) ∧
    ∃ cur : List Int, cur.length = n ∧ runB (p.reverse.drop k) cur = some fin ∧ (n = 0 ∨ h'[bb]? = some ⟨ints cur, true⟩ ∧ h.length ≤ bb)) (fun k => p.length - k) 0 ?_ ?_
  · refine ⟨by omega, g2, by simp, by simp, by simp, by simp, br, hn.symm, by simpa using hfin, hb'⟩
  rintro k σ h' ⟨hk, hg, q1, q2, q3, q4, cur, hcl, hrun, hb⟩
  simp (disch := omega) [q4]
  refine fork_dec (fun hlt => ?_) (fun hge => ?_)
  · have k1 : k < p.length := by omega
    obtain ⟨j, hj⟩ : ∃ j, j = p.length - 1 - k := ⟨_, rfl⟩
    have j1 : j < p.length := by omega
    have ej : (p.length : Int) - 1 - k = (j : Int) := by omega
    rw [rev_drop k1 hj] at hrun
    obtain ⟨⟨t1, t2⟩, hrun⟩ := runB_step hcl hrun
    have hne : n ≠ 0 := by omega
    obtain ⟨hb1, hb2⟩ := hb.resolve_left hne
    obtain ⟨t, ht⟩ := Int.eq_ofNat_of_zero_le t1
    obtain ⟨ca, cb, _⟩ := trips_cell (hpc.imp id (grows_cellsAt hg)) j1
    rw [ht, Int.toNat_natCast] at hrun
    rw [ht] at t2 ca
    have htn : t < cur.length := by omega
    have htn' : t < n := by omega
    rw [ej] at q4
    have hst := store_int (v := p[j].2.1) hb1 htn
    simp (disch := omega) [q1, q2, q3, q4, j1, ca, cb, hst, htn', wrap64]
    exact ⟨k + 1, ⟨by omega, hg.put hb2 _, by omega, cur.set t p[j].2.1, by simpa using hcl, hrun, .inr ⟨by simp [at_lt hb1], hb2⟩⟩, by omega⟩
  · have hkp : k = p.length := by omega
    rw [List.drop_of_length_le (by simp; omega)] at hrun
    simp only [runB, Option.some.injEq] at hrun
    subst hrun
    simp (disch := omega) [q1, q2, q3, resOf_box, aField]
    have := Vo.of_ints (h := h') (b := bb) (lo := h.length) (hi := h'.length) (z := zz) (X := cur) (hz'.imp id fun e => ⟨e.1, by rw [e.2] at hcl; exact List.length_eq_zero_iff.1 hcl⟩) (by rw [maxLen_eq]; omega) (cur_64 (hf2 ok.b)) (by
      rcases hb with e | e
      · left; rw [e] at hcl; exact List.length_eq_zero_iff.1 hcl
      · exact .inr ⟨e.1, e.2, at_lt e.1⟩)
    rw [hcl] at this
    exact ⟨hg, Vo.of_panel w1 w2 this⟩

theorem c561 (h : Heap) (hp : 0 < h.length) (v0 : Value) (W H : Int) (br : List Int) (p f : List Trip) (hv0 : PtJ h v0 ((W, H, br), p, f)) (hok : okJ ((W, H, br), p, f) = true) :
    ACall Gam 561 [v0] h fun r h' => Grows h h' ∧ Vo h' h.length h'.length shPanel r (W, H, startB ((W, H, br), p, f)) := by
  obtain ⟨ok, hle, ⟨fin, hfin⟩, _⟩ := okJ_parts hok
  have hbl := ok_len ok
  have eS : startB ((W, H, br), p, f) = fin := by simp [startB, hfin]
  rw [eS]
  obtain ⟨hf1, hf2⟩ := runB_ok hfin
  have hv0' := hv0
  obtain ⟨jb, jo, s, sp, sf, rfl, hc, r1, r2, r3, w1, w2⟩ := hv0
  have hpt := hv0'.panel
  simp only at hpt hc r1 r2 r3 w1 w2
  have k3 : cell h jb (jo + 3) = _ := (cell_in (i := 3) hc (by omega)).1
  simp at k3
  obtain ⟨pb, po, pz, rfl, _, hpm, hpx, hpc⟩ := r2.trips
  rw [maxLen_eq] at hpm
  refine ACall_intro g561 rfl ?_
  unfold fn561
  simp (disch := omega)
  refine callW_of (c453 h _ _ hp hpt (by simp only; omega)) ?_
  rintro _ h2 ⟨g2, o2⟩
  obtain ⟨so, rfl, _, _, o2⟩ := o2.panel
  obtain ⟨bb, zz, rfl, hz, _, _, hb⟩ := o2.ints
  obtain ⟨n, hn⟩ : ∃ n, n = br.length := ⟨_, rfl⟩
  have hz' : zz = 1 ∨ bb = 0 ∧ n = 0 := hz.imp id fun e => ⟨e.1, by rw [hn, e.2]; rfl⟩
  have hb' : n = 0 ∨ h2[bb]? = some ⟨ints br, true⟩ ∧ h.length ≤ bb := hb.imp (fun e => by rw [hn, e]; rfl) fun e => ⟨e.1, e.2.1⟩
  rw [← hn] at hf1 ⊢
  have c3 := g2.cell k3
  simp (disch := omega) [c3, wrap64]
  refine awp_loop (fun (k : Nat) σ h' => k ≤ p.length ∧ Grows h h' ∧ σ 0 = pt jb jo ∧ σ 2 = .agg #[I 0, I 0, sl 0 0 0 0] ∧ σ 3 = .agg #[I W, I H, sl bb 0 n zz] ∧ σ 4 = I ((p.length : Int) - 1 - k) ∧
    ∃ cur : List Int, cur.length = n ∧ runB (p.reverse.drop k) cur = some fin ∧ (n = 0 ∨ h'[bb]? = some ⟨ints cur, true⟩ ∧ h.length ≤ bb)) (fun k => p.length - k) 0 ?_ ?_
  · refine ⟨by omega, g2, by simp, by simp, by simp, by simp, br, hn.symm, by simpa using hfin, hb'⟩
  rintro k σ h' ⟨hk, hg, q0, q2, q3, q4, cur, hcl, hrun, hb⟩
  have c3 := hg.cell k3
  simp (disch := omega) [q4]
  refine fork_dec (fun hlt => ?_) (fun hge => ?_)
  · have k1 : k < p.length := by omega
    obtain ⟨j, hj⟩ : ∃ j, j = p.length - 1 - k := ⟨_, rfl⟩
    have j1 : j < p.length := by omega
    have ej : (p.length : Int) - 1 - k = (j : Int) := by omega
    rw [rev_drop k1 hj] at hrun
    obtain ⟨⟨t1, t2⟩, hrun⟩ := runB_step hcl hrun
    have hne : n ≠ 0 := by omega
    obtain ⟨hb1, hb2⟩ := hb.resolve_left hne
    obtain ⟨t, ht⟩ := Int.eq_ofNat_of_zero_le t1
    obtain ⟨ca, cb, _⟩ := trips_cell (hpc.imp id (grows_cellsAt hg)) j1
    rw [ht, Int.toNat_natCast] at hrun
    rw [ht] at t2 ca
    have htn : t < cur.length := by omega
    have htn' : t < n := by omega
    rw [ej] at q4
    have hst := store_int (v := p[j].2.1) hb1 htn
    simp (disch := omega) [q0, q2, q3, q4, j1, c3, ca, cb, hst, htn', wrap64]
    exact ⟨k + 1, ⟨by omega, hg.put hb2 _, by omega, cur.set t p[j].2.1, by simpa using hcl, hrun, .inr ⟨by simp [at_lt hb1], hb2⟩⟩, by omega⟩
  · have hkp : k = p.length := by omega
    rw [List.drop_of_length_le (by simp; omega)] at hrun
    simp only [runB, Option.some.injEq] at hrun
    subst hrun
    simp (disch := omega) [q0, q2, q3, resOf_box, aField]
    have := Vo.of_ints (h := h') (b := bb) (lo := h.length) (hi := h'.length) (z := zz) (X := cur) (hz'.imp id fun e => ⟨e.1, by rw [e.2] at hcl; exact List.length_eq_zero_iff.1 hcl⟩) (by rw [maxLen_eq]; omega) (cur_64 (hf2 ok.b)) (by
      rcases hb with e | e
      · left; rw [e] at hcl; exact List.length_eq_zero_iff.1 hcl
      · exact .inr ⟨e.1, e.2, at_lt e.1⟩)
    rw [hcl] at this
    exact ⟨hg, Vo.of_panel w1 w2 this⟩
end Am
/-! AmJ4 -/
set_option linter.unusedVariables false
set_option linter.unusedSimpArgs false
set_option maxHeartbeats 4000000
set_option maxRecDepth 4000
namespace Am
open Go

def stAns (X : Jrn) : Pan × Int := if okJ X then ((X.1.1, X.1.2.1, startB X), 0) else ((0, 0, []), 1)
theorem startB_ok {W H : Int} {br : List Int} {p f : List Trip} (h : okJ ((W, H, br), p, f) = true) : (startB ((W, H, br), p, f)).length = br.length ∧ ∀ x ∈ startB ((W, H, br), p, f), 0 ≤ x ∧ x ≤ 2 := by
  obtain ⟨ok, hle, ⟨fin, hfin⟩, _⟩ := okJ_parts h
  obtain ⟨h1, h2⟩ := runB_ok hfin
  have e : startB ((W, H, br), p, f) = fin := by simp [startB, hfin]
  rw [e]
  exact ⟨h1, h2 ok.b⟩
theorem st_siz (X : Jrn) : siz shPanel (stAns X).1 ≤ 16777216 := by
  obtain ⟨⟨W, H, br⟩, p, f⟩ := X
  unfold stAns
  split
  · rename_i h
    obtain ⟨ok, _⟩ := okJ_parts h
    have := ok_len ok
    rw [siz_panel, (startB_ok h).1]; omega
  · rw [siz_panel]; simp

/-! ### slices that grow, empty ones of whatever kind -/
/-- A slice whose cells are these, in memory of our own; more cells may lie behind. -/
def Bf (h : Heap) (lo hi : Nat) (v : Value) (z : Nat) (cs : List Value) : Prop := (cs = [] ∧ ∃ y, v = sl 0 0 0 y) ∨ ∃ b n, v = sl b 0 n z ∧ n * z = cs.length ∧ lo ≤ b ∧ b < hi ∧ h[b]? = some ⟨cs, true⟩
theorem Bf.nil {h : Heap} {lo hi y z : Nat} : Bf h lo hi (sl 0 0 0 y) z [] := .inl ⟨rfl, y, rfl⟩
theorem Bf.sl {h : Heap} {lo hi : Nat} {v : Value} {z : Nat} {cs : List Value} (x : Bf h lo hi v z cs) : ∃ b n y, v = Am.sl b 0 n y := by
  rcases x with ⟨_, y, e⟩ | ⟨b, n, e, _⟩
  · exact ⟨0, 0, y, e⟩
  · exact ⟨b, n, z, e⟩
theorem Bf.wide {h : Heap} {lo hi lo' hi' : Nat} {v : Value} {z : Nat} {cs : List Value} (x : Bf h lo hi v z cs) (h1 : lo' ≤ lo) (h2 : hi ≤ hi') : Bf h lo' hi' v z cs := by
  rcases x with x | ⟨b, n, e, e2, e3, e4, e5⟩
  · exact .inl x
  · exact .inr ⟨b, n, e, e2, by omega, by omega, e5⟩
theorem Bf.mod {h h' : Heap} {lo hi lo' hi' : Nat} {v : Value} {z : Nat} {cs : List Value} (x : Bf h lo hi v z cs) (m : Mod lo' hi' h h') (hd : hi ≤ lo' ∨ hi' ≤ lo) : Bf h' lo hi v z cs := by
  rcases x with x | ⟨b, n, e, e2, e3, e4, e5⟩
  · exact .inl x
  · exact .inr ⟨b, n, e, e2, e3, e4, by rw [m.2 b (at_lt e5) (by omega)]; exact e5⟩
theorem Bf.grow {h h' : Heap} {lo hi : Nat} {v : Value} {z : Nat} {cs : List Value} (x : Bf h lo hi v z cs) (g : Grows h h') : Bf h' lo hi v z cs := by
  rcases x with x | ⟨b, n, e, e2, e3, e4, e5⟩
  · exact .inl x
  · exact .inr ⟨b, n, e, e2, e3, e4, g.at e5⟩
theorem Bf.trips {h : Heap} {lo hi : Nat} {v : Value} {X : List Trip} (x : Bf h lo hi v 3 (Am.trips X)) (hm : X.length ≤ maxLen) (hx : ∀ x ∈ X, T64 x) : Vo h lo hi shTrips v X := by
  rcases x with ⟨h1, y, rfl⟩ | ⟨b, n, rfl, h2, h3, h4, h5⟩
  · have := trips_inj_nil h1
    subst this
    exact Vo.of_trips (X := []) (.inr ⟨rfl, rfl⟩) (by simp) (by simp) (.inl rfl)
  · rw [trips_len] at h2
    have : n = X.length := by omega
    subst this
    exact Vo.of_trips (.inl rfl) hm hx (.inr ⟨h5, h3, h4⟩)
theorem Bf.ints {h : Heap} {lo hi : Nat} {v : Value} {X : List Int} (x : Bf h lo hi v 1 (Am.ints X)) (hm : X.length ≤ maxLen) (hx : ∀ x ∈ X, I64 x) : Vo h lo hi shInts v X := by
  rcases x with ⟨h1, y, rfl⟩ | ⟨b, n, rfl, h2, h3, h4, h5⟩
  · have := ints_inj_nil h1
    subst this
    exact Vo.of_ints (X := []) (.inr ⟨rfl, rfl⟩) (by simp) (by simp) (.inl rfl)
  · have : n = X.length := by simpa [Am.ints] using h2
    subst this
    exact Vo.of_ints (.inl rfl) hm hx (.inr ⟨h5, h3, h4⟩)
/-- APPENDING TO IT. -/
theorem append_bf {h : Heap} {lo hi : Nat} {v x : Value} {z : Nat} {cs new : List Value} {k : Value → Heap → Prop} (hp : 0 < lo) (hv : Bf h lo hi v z cs) (hn : newCells z h x = some new) (hz : 0 < z) (hne : new ≠ []) (hm : new.length / z * z = new.length)
    (hmax : cs.length + new.length ≤ maxSize) (hk : ∀ v' h', Mod lo hi h h' → Bf h' h.length h'.length v' z (cs ++ new) → k v' h') : bindW (aAppend z h x v) k := by
  rcases hv with ⟨rfl, y, rfl⟩ | ⟨b, n, rfl, h2, h3, h4, h5⟩
  · have e : aAppend z h x (sl 0 0 0 y) = some (sl h.length 0 (new.length / z) z, h ++ [⟨new, true⟩]) := by
      simp only [aAppend, hn]
      rw [if_neg (by omega), if_neg hne, if_neg (by simp at hmax; omega), if_pos trivial]
    rw [e]
    exact hk _ _ (Grows.mod ⟨_, rfl⟩) (.inr ⟨h.length, _, rfl, hm, Nat.le_refl _, by simp, by simp⟩)
  · have hnz : n ≤ cs.length := by rw [← h2]; exact Nat.le_mul_of_pos_right n hz
    have e : aAppend z h x (sl b 0 n z) = some (sl h.length 0 (n + new.length / z) z, h.set b ⟨[], false⟩ ++ [⟨cs ++ new, true⟩]) := by
      simp only [aAppend, hn]
      rw [if_neg (by omega), if_neg hne, if_neg (by omega), if_neg (by omega)]
      simp only [h5]
      rw [if_pos ⟨trivial, trivial⟩, cellsAt_all h5 h2]
    rw [e]
    have hb := at_lt h5
    refine hk _ _ ⟨by simp, fun c hc hn => ?_⟩ (.inr ⟨h.length, _, rfl, by rw [Nat.add_mul, hm, h2]; simp, Nat.le_refl _, by simp, by simp⟩)
    rw [List.getElem?_append_left (by simpa using hc), List.getElem?_set_ne (by omega)]
theorem Mod.push {lo hi : Nat} {h : Heap} (k : Blk) : Mod lo hi h (h ++ [k]) := Grows.mod ⟨_, rfl⟩
theorem append_trip2 {h : Heap} {lo hi : Nat} {v : Value} {l : List Trip} {a b c : Int} {K : Value → Heap → Prop} (hp : 0 < lo) (hl : l.length ≤ 1048576) (hv : Bf h lo hi v 3 (trips l))
    (hK : ∀ v' h'', Mod lo hi h h'' → Bf h'' h.length h''.length v' 3 (trips (l ++ [(a, b, c)])) → K v' h'') :
    bindW (aBuildSlice 3 1 h [(0, .agg #[I 0, I 0, I 0]), (3, .agg #[I a, I b, I c])]) fun y h'' => bindW (aAppend 3 h'' y v) K := by
  have e : aBuildSlice 3 1 h [(0, .agg #[I 0, I 0, I 0]), (3, .agg #[I a, I b, I c])] = some (sl h.length 0 1 3, h ++ [⟨[I a, I b, I c], true⟩]) := by simp [aBuildSlice]
  rw [e]
  simp only [bindW_some]
  refine append_bf hp (hv.grow ⟨_, rfl⟩) (new := [I a, I b, I c]) ?_ (by omega) (by simp) (by simp) (by rw [trips_len]; simp [maxSize]; omega) ?_
  · simp [newCells]
    rw [cellsAt_of (k := ⟨[I a, I b, I c], true⟩) (by simp) (by simp)]
    simp
  · intro v' h'' m1 b1
    refine hK v' h'' ((Mod.push _).trans m1) ?_
    rw [trips_append]
    exact b1.wide (by simp) (Nat.le_refl _)

/-! ### squashed -/
def sqAns (X : Jrn) : Jrn × Int := if okJ X then ((X.1, dpre (startB X) X.1.2.2 X.1.2.2.length, []), 0) else (noJ, 1)
theorem sq_siz (X : Jrn) : siz shJournal (sqAns X).1 ≤ 16777216 := by
  obtain ⟨⟨W, H, br⟩, p, f⟩ := X
  unfold sqAns
  split
  · rename_i h
    obtain ⟨ok, _⟩ := okJ_parts h
    have := ok_len ok
    have := dpre_len (startB ((W, H, br), p, f)) br br.length
    rw [siz_journal]
    simp; omega
  · rw [noJ_siz]; omega
/-- Three slices of our own, one behind the other. -/
theorem Vo.three {h : Heap} {lo hi m1 m2 : Nat} {W H : Int} {br : List Int} {p f : List Trip} {s sp sf : Value} (h1 : I64 W) (h2 : I64 H) (r1 : Vo h lo m1 shInts s br) (r2 : Vo h m1 m2 shTrips sp p) (r3 : Vo h m2 hi shTrips sf f) (l1 : lo ≤ m1) (l2 : m1 ≤ m2) (l3 : m2 ≤ hi) :
    Vo h lo hi shJournal (.agg #[I W, I H, s, sp, sf]) ((W, H, br), p, f) := by
  refine Vo.of_journal h1 h2 r1 r2 r3 ?_ ?_ ?_ ?_ ?_ ?_ <;> ((first | unfold Sub2 | unfold Dis) <;> omega)

end Am

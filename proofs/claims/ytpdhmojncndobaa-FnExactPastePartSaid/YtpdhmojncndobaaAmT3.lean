/- The helpers of the laws for slices of structs of three numbers. -/
import Derived.Test.YtpdhmojncndobaaAmT2
set_option linter.unusedVariables false
set_option linter.unusedSimpArgs false
set_option maxHeartbeats 4000000
namespace Am
open Go

abbrev Trip := Int × Int × Int
def trip (t : Trip) : List Value := [I t.1, I t.2.1, I t.2.2]
def trips (l : List Trip) : List Value := (l.map trip).flatten
def T64 (t : Trip) : Prop := I64 t.1 ∧ I64 t.2.1 ∧ I64 t.2.2
theorem trips_append (a b : List Trip) : trips (a ++ b) = trips a ++ trips b := by simp [trips]
theorem trips_cons (a : Trip) (b : List Trip) : trips (a :: b) = I a.1 :: I a.2.1 :: I a.2.2 :: trips b := by simp [trips, trip]
theorem trips_nil : trips [] = [] := rfl
theorem trips_len : ∀ l : List Trip, (trips l).length = 3 * l.length
  | [] => rfl
  | a :: l => by rw [trips_cons]; simp [trips_len l]; omega
theorem rd_trip {h : Heap} {c : List Value} {t : Trip} : Rd h shTrip c t ↔ c = trip t ∧ T64 t := by
  constructor
  · rintro ⟨c1, c2, rfl, ⟨rfl, w1⟩, c3, c4, rfl, ⟨rfl, w2⟩, rfl, w3⟩
    exact ⟨rfl, wf_i64.1 w1, wf_i64.1 w2, wf_i64.1 w3⟩
  · rintro ⟨rfl, w1, w2, w3⟩
    exact ⟨[I t.1], [I t.2.1, I t.2.2], rfl, ⟨rfl, wf_i64.2 w1⟩, [I t.2.1], [I t.2.2], rfl, ⟨rfl, wf_i64.2 w2⟩, rfl, wf_i64.2 w3⟩
theorem rd_trips {h : Heap} : ∀ {css : List (List Value)} {X : List Trip}, All2 (fun c y => Rd h shTrip c y) css X → css.flatten = trips X ∧ ∀ x ∈ X, T64 x
  | [], [], _ => by simp [trips]
  | c :: css, x :: X, r => by
    obtain ⟨e, w⟩ := rd_trip.1 r.1
    obtain ⟨h1, h2⟩ := rd_trips r.2
    refine ⟨by simp [e, h1, trips], fun y hy => ?_⟩
    rcases List.mem_cons.1 hy with rfl | hy
    · exact w
    · exact h2 y hy
theorem Vr.trips {h : Heap} {v : Value} {X : List Trip} (x : Vr h shTrips v X) : ∃ b o z, v = sl b o X.length z ∧ (z = 3 ∨ b = 0 ∧ X = []) ∧ X.length ≤ maxLen ∧ (∀ x ∈ X, T64 x) ∧ (X = [] ∨ cellsAt h b o (X.length * 3) = some (Am.trips X)) := by
  obtain ⟨cs, ⟨b, o, z, css, rfl, hz, hm, h1, h2⟩, rfl⟩ := x
  obtain ⟨e1, e2⟩ := rd_trips h1
  have h2' : X = [] ∨ cellsAt h b o (X.length * 3) = some css.flatten := h2
  rw [e1] at h2'
  exact ⟨b, o, z, rfl, hz, hm, e2, h2'⟩
theorem trips_get : ∀ (X : List Trip) (k : Nat) (hk : k < X.length), (trips X)[3 * k]? = some (I X[k].1) ∧ (trips X)[3 * k + 1]? = some (I X[k].2.1) ∧ (trips X)[3 * k + 2]? = some (I X[k].2.2)
  | [], k, hk => by simp at hk
  | x :: X, 0, _ => by rw [trips_cons]; simp
  | x :: X, k + 1, hk => by
    have := trips_get X k (by simpa using hk)
    rw [trips_cons]
    simpa [Nat.mul_add] using this
theorem trips_cell {h : Heap} {b o k : Nat} {X : List Trip} (hr : X = [] ∨ cellsAt h b o (X.length * 3) = some (trips X)) (hk : k < X.length) : cell h b (o + k * 3) = some (I X[k].1) ∧ cell h b (o + k * 3 + 1) = some (I X[k].2.1) ∧ cell h b (o + k * 3 + 2) = some (I X[k].2.2) := by
  rcases hr with h0 | hr
  · subst h0; simp at hk
  · have := trips_get X k hk
    have h1 := (cell_in (i := 3 * k) hr (by omega)).1
    have h2 := (cell_in (i := 3 * k + 1) hr (by omega)).1
    have h3 := (cell_in (i := 3 * k + 2) hr (by omega)).1
    rw [show o + k * 3 = o + 3 * k by omega]
    exact ⟨by rw [h1]; exact this.1, by rw [Nat.add_assoc, h2]; exact this.2.1, by rw [Nat.add_assoc, h3]; exact this.2.2⟩
theorem all_trips (h : Heap) : ∀ (X : List Trip), (∀ x ∈ X, T64 x) → All2 (fun c y => Rd h shTrip c y) (X.map trip) X
  | [], _ => trivial
  | x :: X, hx => ⟨rd_trip.2 ⟨rfl, hx x (by simp)⟩, all_trips h X fun y hy => hx y (by simp [hy])⟩
theorem Vr.of_trips {h : Heap} {b o z : Nat} {X : List Trip} (hz : z = 3 ∨ b = 0 ∧ X = []) (hm : X.length ≤ maxLen) (hx : ∀ x ∈ X, T64 x) (hc : X = [] ∨ cellsAt h b o (X.length * 3) = some (Am.trips X)) : Vr h shTrips (sl b o X.length z) X :=
  ⟨[sl b o X.length z], ⟨b, o, z, X.map trip, rfl, hz, hm, all_trips h X hx, hc⟩, rfl⟩
theorem ow_trip {h : Heap} {c : List Value} {t : Trip} {bs : List Nat} : Ow h shTrip c t bs ↔ c = trip t ∧ T64 t ∧ bs = [] := by
  constructor
  · rintro ⟨c1, c2, b1, b2, rfl, rfl, ⟨rfl, w1, rfl⟩, c3, c4, b3, b4, rfl, rfl, ⟨rfl, w2, rfl⟩, rfl, w3, rfl⟩
    exact ⟨rfl, ⟨wf_i64.1 w1, wf_i64.1 w2, wf_i64.1 w3⟩, rfl⟩
  · rintro ⟨rfl, ⟨w1, w2, w3⟩, rfl⟩
    exact ⟨[I t.1], [I t.2.1, I t.2.2], [], [], rfl, rfl, ⟨rfl, wf_i64.2 w1, rfl⟩, [I t.2.1], [I t.2.2], [], [], rfl, rfl, ⟨rfl, wf_i64.2 w2, rfl⟩, rfl, wf_i64.2 w3, rfl⟩
theorem all3_trips (h : Heap) : ∀ (X : List Trip), (∀ x ∈ X, T64 x) → All3 (fun c y s => Ow h shTrip c y s) (X.map trip) X (X.map fun _ => [])
  | [], _ => trivial
  | x :: X, hx => ⟨ow_trip.2 ⟨rfl, hx x (by simp), rfl⟩, all3_trips h X fun y hy => hx y (by simp [hy])⟩
theorem Vo.of_trips {h : Heap} {b lo hi z : Nat} {X : List Trip} (hz : z = 3 ∨ b = 0 ∧ X = []) (hm : X.length ≤ maxLen) (hx : ∀ x ∈ X, T64 x) (hc : X = [] ∨ h[b]? = some ⟨Am.trips X, true⟩ ∧ lo ≤ b ∧ b < hi) : Vo h lo hi shTrips (sl b 0 X.length z) X := by
  refine ⟨[sl b 0 X.length z], if X = [] then [] else [b], ⟨b, z, X.map trip, X.map fun _ => [], rfl, hz, hm, all3_trips h X hx, ?_⟩, rfl, ?_, ?_⟩
  · by_cases h0 : X = []
    · exact .inl ⟨h0, by simp [h0]⟩
    · exact .inr ⟨h0, by rw [if_neg h0, nils_flat], (hc.resolve_left h0).1⟩
  · split <;> simp
  · intro b' hb'
    by_cases h0 : X = []
    · simp [h0] at hb'
    · simp [h0] at hb'; subst hb'; exact (hc.resolve_left h0).2
theorem All3.trips {h : Heap} : ∀ {css : List (List Value)} {X : List Trip} {bss : List (List Nat)}, All3 (fun c y s => Ow h shTrip c y s) css X bss → css.flatten = Am.trips X ∧ (∀ x ∈ X, T64 x) ∧ bss.flatten = []
  | [], [], [], _ => by simp [Am.trips]
  | c :: css, x :: X, s :: bss, r => by
    obtain ⟨e, w, es⟩ := ow_trip.1 r.1
    obtain ⟨h1, h2, h3⟩ := All3.trips r.2
    refine ⟨by simp [e, h1, Am.trips], fun y hy => ?_, by simp [es, h3]⟩
    rcases List.mem_cons.1 hy with rfl | hy
    · exact w
    · exact h2 y hy
  | [], _ :: _, _, r => r.elim
  | [], [], _ :: _, r => r.elim
  | _ :: _, [], _, r => r.elim
  | _ :: _, _ :: _, [], r => r.elim
theorem Vo.trips {h : Heap} {lo hi : Nat} {v : Value} {X : List Trip} (x : Vo h lo hi shTrips v X) : ∃ b z, v = sl b 0 X.length z ∧ (z = 3 ∨ b = 0 ∧ X = []) ∧ X.length ≤ maxLen ∧ (∀ x ∈ X, T64 x) ∧ (X = [] ∨ h[b]? = some ⟨Am.trips X, true⟩ ∧ lo ≤ b ∧ b < hi) := by
  obtain ⟨cs, bs, ⟨b, z, css, bss, rfl, hz, hm, h1, h2⟩, rfl, _, hb⟩ := x
  obtain ⟨e1, e2, e3⟩ := All3.trips h1
  refine ⟨b, z, rfl, hz, hm, e2, ?_⟩
  rcases h2 with ⟨h2, _⟩ | ⟨_, h3, h4⟩
  · exact .inl h2
  · rw [e3] at h3; rw [e1] at h4
    exact .inr ⟨h4, hb b (by simp [h3])⟩

theorem Vr.trip {h : Heap} {v : Value} {t : Trip} (x : Vr h shTrip v t) : v = .agg #[I t.1, I t.2.1, I t.2.2] ∧ T64 t := by
  obtain ⟨cs, r, rfl⟩ := x
  obtain ⟨rfl, w⟩ := rd_trip.1 r
  exact ⟨rfl, w⟩

theorem siz_trips (X : List Trip) : siz shTrips X = X.length := by
  show X.length + (X.map fun _ => 0).sum = _
  rw [sum_zero]; rfl
theorem cvd_trips (X : List Trip) : cvd shTrips X = 3 * X.length := by
  show (X.map fun _ => 3).sum = _
  induction X with
  | nil => rfl
  | cons x X ih => simp [ih]; omega
def tnums (k n : Nat) : List Trip := (List.range n).map fun i => (((k + 3 * i : Nat) : Int), ((k + 3 * i + 1 : Nat) : Int), ((k + 3 * i + 2 : Nat) : Int))
theorem tnums_len (k n : Nat) : (tnums k n).length = n := by simp [tnums]
theorem tnums_succ (k n : Nat) : tnums k (n + 1) = tnums k n ++ [(((k + 3 * n : Nat) : Int), ((k + 3 * n + 1 : Nat) : Int), ((k + 3 * n + 2 : Nat) : Int))] := by simp [tnums, List.range_succ]
theorem mvd_trips : ∀ (X : List Trip) (k : Nat), mvd shTrips X k = tnums k X.length
  | [], k => rfl
  | x :: X, k => by
    refine (congrArg (List.cons (((k : Nat) : Int), ((k + 1 : Nat) : Int), ((k + 1 + 1 : Nat) : Int))) (mvd_trips X (k + 3))).trans ?_
    simp only [tnums, List.length_cons, List.range_succ_eq_map, List.map_cons, List.map_map]
    congr 1
    apply List.map_congr_left
    intro i _
    simp; omega
theorem tnums_64 {k n : Nat} (h : k + 3 * n ≤ 1099511627776) : ∀ x ∈ tnums k n, T64 x := by
  intro x hx
  obtain ⟨i, hi, rfl⟩ := List.mem_map.1 hx
  have := List.mem_range.1 hi
  unfold T64 I64; simp; omega

theorem to_trip {g : Nat} (hg : Gam g = some fn304) : ToOk g shTrip := by
  rintro h v ⟨(x : Int), (y : Int), (z : Int)⟩ hp hv hs
  obtain ⟨rfl, w⟩ := hv.trip
  refine ACall_intro hg rfl ?_
  unfold fn304
  simp (disch := omega) [resOf_box, aField]
  exact ⟨Grows.refl _, _, [], ow_trip.2 ⟨rfl, w, rfl⟩, rfl, by simp, by simp⟩
theorem eq_trip {g : Nat} (hg : Gam g = some fn266) : EqTrue g shTrip := by
  rintro h v w ⟨(x : Int), (y : Int), (z : Int)⟩ hv hw
  obtain ⟨rfl, _⟩ := hv.trip
  obtain ⟨rfl, _⟩ := hw.trip
  refine ACall_intro hg rfl ?_
  unfold fn266
  simp (disch := omega)
theorem sz_trips {g : Nat} (hg : Gam g = some fn296) : SzOk g shTrips := by
  intro h v (X : List Trip) left hv hl
  obtain ⟨b, o, zz, rfl, hzz, hm, hx, hc⟩ := hv.trips
  rw [maxLen_eq] at hm
  refine ACall_intro hg rfl ?_
  unfold fn296
  simp (disch := omega) [wrap64]
  rw [siz_trips]
  refine fork_dec (fun h1 => ?_) (fun h1 => ?_)
  · rw [if_neg (by omega)]; simp
  · rw [if_pos (by omega)]; simp; omega
theorem mark_trips {g : Nat} (hg : Gam g = some fn287) : MarkOk g shTrips := by
  intro h lo hi v (X : List Trip) k hv hk
  obtain ⟨bb, zz, rfl, hzz, hm, hx, hc⟩ := hv.trips
  rw [cvd_trips] at hk
  rw [cvd_trips, mvd_trips]
  refine ACall_intro hg rfl ?_
  unfold fn287
  simp (disch := omega)
  refine awp_loop (fun i σ h' => i ≤ X.length ∧ Mod lo hi h h' ∧ σ 0 = sl bb 0 X.length zz ∧ σ 1 = I ((k + 3 * i : Nat) : Int) ∧ σ 5 = I i ∧ (X = [] ∨ h'[bb]? = some ⟨trips (tnums k i ++ X.drop i), true⟩)) (fun i => X.length - i) 0 ?_ ?_
  · exact ⟨by omega, Mod.refl _ _ _, by simp, by simp, by simp, by
      rcases hc with hc | hc
      · exact .inl hc
      · exact .inr (by simpa [tnums] using hc.1)⟩
  · rintro i σ h' ⟨hi', hmd, h0, h1, h5, hb⟩
    simp (disch := omega) [h0, h5]
    refine fork_dec (fun hlt => ?_) (fun hge => ?_)
    · have hlt : i < X.length := by omega
      have hne : X ≠ [] := by intro e; subst e; simp at hlt
      have hb := hb.resolve_left hne
      have hc := hc.resolve_left hne
      have hA : (trips (tnums k i)).length = 3 * i := by rw [trips_len, tnums_len]
      have hL := at_lt hb
      rw [List.drop_eq_getElem_cons hlt, trips_append, trips_cons] at hb
      have s1 := store_one (v := I ((k : Int) + 3 * i)) (o := i * 3) hb (by rw [List.length_append, hA]; simp; omega)
      rw [set_end (by omega)] at s1
      have hb2 : (h'.set bb ⟨trips (tnums k i) ++ I ((k : Int) + 3 * i) :: I X[i].2.1 :: I X[i].2.2 :: trips (X.drop (i + 1)), true⟩)[bb]? = some ⟨trips (tnums k i) ++ I ((k : Int) + 3 * i) :: I X[i].2.1 :: I X[i].2.2 :: trips (X.drop (i + 1)), true⟩ := by simp [hL]
      have s2 := store_one (v := I ((k : Int) + 3 * i + 1)) (o := i * 3 + 1) hb2 (by rw [List.length_append, hA]; simp; omega)
      rw [show trips (tnums k i) ++ I ((k : Int) + 3 * i) :: I X[i].2.1 :: I X[i].2.2 :: trips (X.drop (i + 1)) = (trips (tnums k i) ++ [I ((k : Int) + 3 * i)]) ++ I X[i].2.1 :: I X[i].2.2 :: trips (X.drop (i + 1)) by simp, set_end (by simp; omega), List.set_set] at s2
      have hb3 : (h'.set bb ⟨(trips (tnums k i) ++ [I ((k : Int) + 3 * i)]) ++ I ((k : Int) + 3 * i + 1) :: I X[i].2.2 :: trips (X.drop (i + 1)), true⟩)[bb]? = some ⟨(trips (tnums k i) ++ [I ((k : Int) + 3 * i)]) ++ I ((k : Int) + 3 * i + 1) :: I X[i].2.2 :: trips (X.drop (i + 1)), true⟩ := by simp [hL]
      have s3 := store_one (v := I ((k : Int) + 3 * i + 2)) (o := i * 3 + 2) hb3 (by simp; omega)
      rw [show (trips (tnums k i) ++ [I ((k : Int) + 3 * i)]) ++ I ((k : Int) + 3 * i + 1) :: I X[i].2.2 :: trips (X.drop (i + 1)) = (trips (tnums k i) ++ [I ((k : Int) + 3 * i), I ((k : Int) + 3 * i + 1)]) ++ I X[i].2.2 :: trips (X.drop (i + 1)) by simp, set_end (by simp; omega), List.set_set] at s3
      rw [show trips (tnums k i) ++ I ((k : Int) + 3 * i) :: I X[i].2.1 :: I X[i].2.2 :: trips (X.drop (i + 1)) = (trips (tnums k i) ++ [I ((k : Int) + 3 * i)]) ++ I X[i].2.1 :: I X[i].2.2 :: trips (X.drop (i + 1)) by simp] at s1
      rw [show (trips (tnums k i) ++ [I ((k : Int) + 3 * i)]) ++ I ((k : Int) + 3 * i + 1) :: I X[i].2.2 :: trips (X.drop (i + 1)) = (trips (tnums k i) ++ [I ((k : Int) + 3 * i), I ((k : Int) + 3 * i + 1)]) ++ I X[i].2.2 :: trips (X.drop (i + 1)) by simp] at s2
      generalize hR1 : (trips (tnums k i) ++ [I ((k : Int) + 3 * i)]) ++ I X[i].2.1 :: I X[i].2.2 :: trips (X.drop (i + 1)) = R1 at s1 s2
      generalize hR2 : (trips (tnums k i) ++ [I ((k : Int) + 3 * i), I ((k : Int) + 3 * i + 1)]) ++ I X[i].2.2 :: trips (X.drop (i + 1)) = R2 at s2 s3
      have e1 : (k : Int) + 3 * i + 1 + 1 = (k : Int) + 3 * i + 2 := by omega
      simp (disch := omega) [h0, h1, h5, hlt, s1, wrap64]
      simp (disch := omega) [h0, h1, h5, hlt, s2, wrap64, e1]
      simp (disch := omega) [h0, h1, h5, hlt, s3, wrap64]
      refine ⟨i + 1, ⟨by omega, hmd.put hc.2 _, by omega, by omega, .inr ?_⟩, by omega⟩
      rw [tnums_succ]
      simp [trips_append, trips_cons, trips_nil, hL]
    · have e : i = X.length := by omega
      subst e
      simp (disch := omega) [h0, h1, h5]
      refine ⟨hmd, ?_⟩
      have := Vo.of_trips (h := h') (b := bb) (lo := lo) (hi := hi) (X := tnums k X.length) (hzz.imp id fun e => ⟨e.1, by rw [e.2]; rfl⟩) (by rw [tnums_len]; exact hm) (tnums_64 hk) (by
        rcases hb with hb | hb
        · subst hb; exact .inl rfl
        · by_cases hX : X = []
          · subst hX; exact .inl rfl
          · exact .inr ⟨by simpa using hb, (hc.resolve_left hX).2⟩)
      rw [tnums_len] at this
      exact this
theorem tnums_get {k n i : Nat} (h : i < (tnums k n).length) : (tnums k n)[i] = (((k + 3 * i : Nat) : Int), ((k + 3 * i + 1 : Nat) : Int), ((k + 3 * i + 2 : Nat) : Int)) := by simp [tnums]
theorem held_trips {g : Nat} (hg : Gam g = some fn280) : HeldOk g shTrips := by
  intro h v (X : List Trip) k hv hk
  rw [cvd_trips] at hk ⊢
  rw [mvd_trips] at hv
  obtain ⟨bb, o, zz, rfl, hzz, hm, hx, hc⟩ := hv.trips
  rw [tnums_len]
  refine ACall_intro hg rfl ?_
  unfold fn280
  simp (disch := omega)
  refine awp_loop (fun i σ h' => h' = h ∧ i ≤ X.length ∧ σ 0 = sl bb o X.length zz ∧ σ 1 = I ((k + 3 * i : Nat) : Int) ∧ σ 5 = I i) (fun i => X.length - i) 0 ?_ ?_
  · simp
  · rintro i σ h' ⟨rfl, hi', h0, h1, h5⟩
    simp (disch := omega) [h0, h5]
    refine fork_dec (fun hlt => ?_) (fun hge => ?_)
    · have hlt : i < X.length := by omega
      have hcell := trips_cell hc (k := i) (by rw [tnums_len]; exact hlt)
      rw [tnums_get] at hcell
      obtain ⟨q1, q2, q3⟩ := hcell
      have e1 : (k : Int) + 3 * i + 1 + 1 = (k : Int) + 3 * i + 2 := by omega
      simp (disch := omega) [h0, h1, h5, hlt, q1, q2, q3, wrap64, e1]
      exact ⟨i + 1, ⟨by omega, by omega, by omega⟩, by omega⟩
    · have e : i = X.length := by omega
      subst e
      simp (disch := omega) [h0, h1, h5, Grows.refl]
theorem to_trips {f g : Nat} (hf : Gam f = some fn304) (hg : Gam g = some (toSF 3 7 #[I 0, I 0, I 0] f)) : ToOk g shTrips := toS_ok hg rfl ⟨by decide, rfl⟩ rfl (to_trip hf)
theorem eq_trips {f g : Nat} (hf : Gam f = some fn266) (hg : Gam g = some (eqSF 3 7 f)) : EqTrue g shTrips := eqS_ok hg rfl ⟨by decide, rfl⟩ (eq_trip hf)
theorem c305 : ToOk 305 shTrips := to_trips g304 g305
theorem c267 : EqTrue 267 shTrips := eq_trips g266 g267
theorem c296 : SzOk 296 shTrips := sz_trips g296
theorem c287 : MarkOk 287 shTrips := mark_trips g287
theorem c280 : HeldOk 280 shTrips := held_trips g280
theorem pos_of {h h' : Heap} (hp : 0 < h.length) (g : Grows h h') : 0 < h'.length := Nat.lt_of_lt_of_le hp g.le
theorem cvd_le_shTrips (X : List Trip) : cvd shTrips X ≤ 4 * siz shTrips X := by rw [cvd_trips, siz_trips]; omega
theorem cvd_le_shInts (X : List Int) : cvd shInts X ≤ 4 * siz shInts X := by rw [cvd_ints, siz_ints]; omega
theorem cvd_le_shPanel (X : shPanel.T) : cvd shPanel X ≤ 4 * siz shPanel X := by
  obtain ⟨W, H, br⟩ := X
  rw [cvd_panel, siz_panel]; omega
@[simp] theorem nat_neg (n : Nat) : ((n : Int) < 0) = False := by simp
theorem all2_nil {α β : Type} {R : α → β → Prop} {vs : List β} (h : All2 R [] vs) : vs = [] := by cases vs with | nil => rfl | cons _ _ => exact h.elim
theorem all2_cons {α β : Type} {R : α → β → Prop} {a : α} {l : List α} {vs : List β} (h : All2 R (a :: l) vs) : ∃ v r, vs = v :: r ∧ R a v ∧ All2 R l r := by
  cases vs with
  | nil => exact h.elim
  | cons v r => exact ⟨v, r, rfl, h.1, h.2⟩
theorem ArgR.vr {h : Heap} {D : Shp} {v : Value} (x : ArgR h D v) : ∃ X, Vr h D v X := by obtain ⟨cs, X, r, e⟩ := x; exact ⟨X, cs, r, e⟩
theorem ArgR.int {h : Heap} {v : Value} (x : ArgR h shInt v) : ∃ a, v = I a ∧ I64 a := by obtain ⟨cs, X, ⟨rfl, w⟩, rfl⟩ := x; exact ⟨X, rfl, wf_i64.1 w⟩
theorem ArgR.str {h : Heap} {v : Value} (x : ArgR h .str v) : ∃ s, v = S s ∧ s.length ≤ 9223372036854775807 := by obtain ⟨cs, X, ⟨rfl, w⟩, rfl⟩ := x; exact ⟨X, rfl, by rw [← maxLen_eq]; exact w⟩
theorem Vr.panel3 {h : Heap} {v : Value} {X : shPanel.T} (x : Vr h shPanel v X) : ∃ a b c, v = .agg #[a, b, c] := by
  obtain ⟨W, H, br⟩ := X
  obtain ⟨s, e, _⟩ := x.panel
  exact ⟨_, _, _, e⟩
theorem Vr.journal5 {h : Heap} {v : Value} {X : shJournal.T} (x : Vr h shJournal v X) : ∃ a b c d f, v = .agg #[a, b, c, d, f] := by
  obtain ⟨cs, r, rfl⟩ := x
  have hl := r.len
  match cs, hl with
  | [a, b, c, d, f], _ => exact ⟨a, b, c, d, f, rfl⟩
theorem trips_inj_nil {X : List Trip} (h : trips X = []) : X = [] := by
  cases X with
  | nil => rfl
  | cons x X => rw [trips_cons] at h; cases h
theorem Buf.trips {h0 h : Heap} {v : Value} {X : List Trip} (x : Buf h0 h v 3 (Am.trips X)) (hm : X.length ≤ maxLen) (hx : ∀ x ∈ X, T64 x) : Vo h h0.length h.length shTrips v X := by
  rcases x with ⟨h1, rfl⟩ | ⟨b, n, rfl, h2, h3, h4⟩
  · have := trips_inj_nil h1
    subst this
    exact Vo.of_trips (X := []) (.inl rfl) (by simp) (by simp) (.inl rfl)
  · rw [trips_len] at h2
    have : n = X.length := by omega
    subst this
    exact Vo.of_trips (.inl rfl) hm hx (.inr ⟨h4, h3, at_lt h4⟩)
theorem ints_inj_nil {X : List Int} (h : ints X = []) : X = [] := by
  cases X with
  | nil => rfl
  | cons x X => cases h
theorem Buf.ints {h0 h : Heap} {v : Value} {X : List Int} (x : Buf h0 h v 1 (Am.ints X)) (hm : X.length ≤ maxLen) (hx : ∀ x ∈ X, I64 x) : Vo h h0.length h.length shInts v X := by
  rcases x with ⟨h1, rfl⟩ | ⟨b, n, rfl, h2, h3, h4⟩
  · have := ints_inj_nil h1
    subst this
    exact Vo.of_ints (X := []) (.inl rfl) (by simp) (by simp) (.inl rfl)
  · have : n = X.length := by simpa [Am.ints] using h2
    subst this
    exact Vo.of_ints (.inl rfl) hm hx (.inr ⟨h4, h3, at_lt h4⟩)
end Am

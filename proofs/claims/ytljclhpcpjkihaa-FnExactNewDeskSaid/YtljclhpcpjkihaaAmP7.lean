/- Contracts: NewDesk; panels and journals compared. -/
import Derived.Test.YtljclhpcpjkihaaAmT4
import Derived.Test.YtljclhpcpjkihaaAmP3
set_option linter.unusedVariables false
set_option linter.unusedSimpArgs false
set_option maxHeartbeats 4000000
namespace Am
open Go

def newDesk : Jrn := (newP 3 2, [], [])
theorem inner32 : inner 3 2 = 7 := by decide
theorem newDesk_siz : siz shJournal newDesk ≤ 16777216 := by
  unfold newDesk newP
  rw [siz_journal]; simp [inner32]
theorem Vo.no_steps {h : Heap} {lo hi : Nat} : Vo h lo hi shTrips (sl 0 0 0 0) ([] : List Trip) := Vo.of_trips (X := []) (.inr ⟨rfl, rfl⟩) (by simp) (by simp) (.inl rfl)
theorem c393 (h : Heap) (hp : 0 < h.length) : ACall Gam 393 [] h fun r h' => Grows h h' ∧ Vo h' h.length h'.length shJournal r newDesk ∧ siz shJournal newDesk ≤ 16777216 := by
  refine ACall_intro g393 rfl ?_
  unfold fn393
  simp (disch := omega)
  refine callW_of (c450 h 3 2 (by omega) (by omega) hp) ?_
  rintro _ h1 ⟨g, o⟩
  obtain ⟨s, rfl, w, x, o⟩ := o.panel
  obtain ⟨b, z, e, _⟩ := o.ints
  subst e
  simp (disch := omega) [resOf_box, aField]
  refine ⟨g, Vo.of_journal (l1 := h.length) (u1 := h1.length) (l2 := 0) (u2 := 0) (l3 := 0) (u3 := 0) w x o Vo.no_steps Vo.no_steps ?_ ?_ ?_ ?_ ?_ ?_, newDesk_siz⟩ <;> ((first | unfold Sub2 | unfold Dis) <;> omega)
theorem c100 (h : Heap) (hp : 0 < h.length) : ACall Gam 100 [] h fun r h' => Grows h h' ∧ Vo h' h.length h'.length shJournal r newDesk ∧ siz shJournal newDesk ≤ 16777216 := by
  refine ACall_intro g100 rfl ?_
  unfold fn100
  simp (disch := omega)
  refine callW_of (c177 h 3 2 (by omega) (by omega) hp) ?_
  rintro _ h1 ⟨g, o⟩
  obtain ⟨s, rfl, w, x, o⟩ := o.panel
  obtain ⟨b, z, e, _⟩ := o.ints
  subst e
  simp (disch := omega) [resOf_box, aField]
  refine ⟨g, Vo.of_journal (l1 := h.length) (u1 := h1.length) (l2 := 0) (u2 := 0) (l3 := 0) (u3 := 0) w x o Vo.no_steps Vo.no_steps ?_ ?_ ?_ ?_ ?_ ?_, newDesk_siz⟩ <;> ((first | unfold Sub2 | unfold Dis) <;> omega)

/-! ### equal lists -/
theorem take_ne {α : Type} {X Y : List α} {k : Nat} (h1 : k < X.length) (h2 : k < Y.length) (hne : ¬ X[k] = Y[k]) : ¬ X = Y := fun e => by subst e; exact hne rfl
theorem c436 (h : Heap) (v w : Value) (X Y : List Int) (hv : Vr h shInts v X) (hw : Vr h shInts w Y) : ACall Gam 436 [v, w] h fun r h' => r = B (decide (X = Y)) ∧ h' = h := by
  obtain ⟨b1, o1, z1, rfl, _, hm1, _, hc1⟩ := hv.ints
  obtain ⟨b2, o2, z2, rfl, _, hm2, _, hc2⟩ := hw.ints
  rw [maxLen_eq] at hm1 hm2
  refine ACall_intro g436 rfl ?_
  unfold fn436
  simp (disch := omega)
  refine fork_dec (fun heq => ?_) (fun hne => ?_)
  · simp (disch := omega)
    refine awp_loop (fun k σ h' => h' = h ∧ k ≤ X.length ∧ X.take k = Y.take k ∧ σ 0 = sl b1 o1 X.length z1 ∧ σ 1 = sl b2 o2 Y.length z2 ∧ σ 5 = I k) (fun k => X.length - k) 0 ?_ ?_
    · simp
    · rintro k σ h' ⟨rfl, hk, ht, h0, h1, h5⟩
      simp (disch := omega) [h0, h1, h5]
      refine fork_dec (fun hlt => ?_) (fun hge => ?_)
      · have k1 : k < X.length := by omega
        have k2 : k < Y.length := by omega
        simp (disch := omega) [h0, h1, h5, ints_cell hc1 k1, ints_cell hc2 k2, k1, k2]
        refine fork_dec (fun he => ?_) (fun he => ?_)
        · simp (disch := omega) [h0, h1, h5]
          refine ⟨k + 1, ⟨by omega, ?_, ?_⟩, by omega⟩
          · rw [List.take_succ_eq_append_getElem k1, List.take_succ_eq_append_getElem k2, ht, he]
          · rw [wrap64 (by omega) (by omega)]; simp
        · simp (disch := omega) [h0, h1, h5]
          exact take_ne k1 k2 he
      · simp (disch := omega) [h0, h1, h5]
        have q1 : k = X.length := by omega
        have q2 : X.length = Y.length := by omega
        subst q1
        rw [List.take_length, q2, List.take_length] at ht
        exact ht
  · simp (disch := omega)
    intro e; apply hne; rw [e]
theorem c314 (h : Heap) (v w : Value) (X Y : List Int) (hv : Vr h shInts v X) (hw : Vr h shInts w Y) : ACall Gam 314 [v, w] h fun r h' => r = B (decide (X = Y)) ∧ h' = h := by
  obtain ⟨b1, o1, z1, rfl, _, hm1, _, hc1⟩ := hv.ints
  obtain ⟨b2, o2, z2, rfl, _, hm2, _, hc2⟩ := hw.ints
  rw [maxLen_eq] at hm1 hm2
  refine ACall_intro g314 rfl ?_
  unfold fn314
  simp (disch := omega)
  refine fork_dec (fun heq => ?_) (fun hne => ?_)
  · simp (disch := omega)
    refine awp_loop (fun k σ h' => h' = h ∧ k ≤ X.length ∧ X.take k = Y.take k ∧ σ 0 = sl b1 o1 X.length z1 ∧ σ 1 = sl b2 o2 Y.length z2 ∧ σ 12 = I X.length ∧ σ 13 = I k) (fun k => X.length - k) 0 ?_ ?_
    · simp
    · rintro k σ h' ⟨rfl, hk, ht, h0, h1, h12, h13⟩
      simp (disch := omega) [h0, h1, h12, h13]
      refine fork_dec (fun hlt => ?_) (fun hge => ?_)
      · have k1 : k < X.length := by omega
        have k2 : k < Y.length := by omega
        simp (disch := omega) [h0, h1, h12, h13, ints_cell hc1 k1, ints_cell hc2 k2, k1, k2]
        refine fork_dec (fun he => ?_) (fun he => ?_)
        · simp (disch := omega) [h0, h1, h12, h13]
          refine ⟨k + 1, ⟨by omega, ?_, ?_⟩, by omega⟩
          · rw [List.take_succ_eq_append_getElem k1, List.take_succ_eq_append_getElem k2, ht, he]
          · rw [wrap64 (by omega) (by omega)]; simp
        · simp (disch := omega) [h0, h1, h12, h13]
          exact take_ne k1 k2 he
      · simp (disch := omega) [h0, h1, h12, h13]
        have q1 : k = X.length := by omega
        have q2 : X.length = Y.length := by omega
        subst q1
        rw [List.take_length, q2, List.take_length] at ht
        exact ht
  · simp (disch := omega)
    intro e; apply hne; rw [e]

theorem neq_trip (x y : Trip) : aAgg .neq 3 (trip x) (trip y) = some (.bool (!decide (x = y))) := by
  obtain ⟨a, b, c⟩ := x
  obtain ⟨d, e, f⟩ := y
  by_cases h1 : a = d <;> by_cases h2 : b = e <;> by_cases h3 : c = f <;> simp [aAgg, trip, eqCells, h1, h2, h3]
theorem trips_at {h : Heap} {v : Value} {X : List Trip} (x : Vr h shTrips v X) : ∃ b o z, v = sl b o X.length z ∧ X.length ≤ maxLen ∧ ∀ i (hi : i < X.length), cellsAt h b (o + i * 3) 3 = some (trip X[i]) := by
  obtain ⟨b, o, z, rfl, _, hm, hel⟩ := x.slice
  refine ⟨b, o, z, rfl, hm, fun i hi => ?_⟩
  obtain ⟨c, hc, r⟩ := hel i hi
  obtain ⟨rfl, _⟩ := rd_trip.1 r
  exact hc
theorem c563 (h : Heap) (v w : Value) (X Y : List Trip) (hv : Vr h shTrips v X) (hw : Vr h shTrips w Y) : ACall Gam 563 [v, w] h fun r h' => r = B (decide (X = Y)) ∧ h' = h := by
  obtain ⟨b1, o1, z1, rfl, hm1, hc1⟩ := trips_at hv
  obtain ⟨b2, o2, z2, rfl, hm2, hc2⟩ := trips_at hw
  rw [maxLen_eq] at hm1 hm2
  refine ACall_intro g563 rfl ?_
  unfold fn563
  simp (disch := omega)
  refine fork_dec (fun heq => ?_) (fun hne => ?_)
  · simp (disch := omega)
    refine awp_loop (fun k σ h' => h' = h ∧ k ≤ X.length ∧ X.take k = Y.take k ∧ σ 0 = sl b1 o1 X.length z1 ∧ σ 1 = sl b2 o2 Y.length z2 ∧ σ 5 = I k) (fun k => X.length - k) 0 ?_ ?_
    · simp
    · rintro k σ h' ⟨rfl, hk, ht, h0, h1, h5⟩
      simp (disch := omega) [h0, h1, h5]
      refine fork_dec (fun hlt => ?_) (fun hge => ?_)
      · have k1 : k < X.length := by omega
        have k2 : k < Y.length := by omega
        simp (disch := omega) [h0, h1, h5, hc1 k k1, hc2 k k2, k1, k2, neq_trip]
        refine fork_dec (fun he => ?_) (fun he => ?_)
        · simp (disch := omega) [h0, h1, h5]
          refine ⟨k + 1, ⟨by omega, ?_, ?_⟩, by omega⟩
          · rw [List.take_succ_eq_append_getElem k1, List.take_succ_eq_append_getElem k2, ht, he]
          · rw [wrap64 (by omega) (by omega)]; simp
        · simp (disch := omega) [h0, h1, h5]
          exact take_ne k1 k2 he
      · simp (disch := omega) [h0, h1, h5]
        have q1 : k = X.length := by omega
        have q2 : X.length = Y.length := by omega
        subst q1
        rw [List.take_length, q2, List.take_length] at ht
        exact ht
  · simp (disch := omega)
    intro e; apply hne; rw [e]
theorem c313 (h : Heap) (v w : Value) (X Y : List Trip) (hv : Vr h shTrips v X) (hw : Vr h shTrips w Y) : ACall Gam 313 [v, w] h fun r h' => r = B (decide (X = Y)) ∧ h' = h := by
  obtain ⟨b1, o1, z1, rfl, hm1, hc1⟩ := trips_at hv
  obtain ⟨b2, o2, z2, rfl, hm2, hc2⟩ := trips_at hw
  rw [maxLen_eq] at hm1 hm2
  refine ACall_intro g313 rfl ?_
  unfold fn313
  simp (disch := omega)
  refine fork_dec (fun heq => ?_) (fun hne => ?_)
  · simp (disch := omega)
    refine awp_loop (fun k σ h' => h' = h ∧ k ≤ X.length ∧ X.take k = Y.take k ∧ σ 0 = sl b1 o1 X.length z1 ∧ σ 1 = sl b2 o2 Y.length z2 ∧ σ 12 = I X.length ∧ σ 13 = I k) (fun k => X.length - k) 0 ?_ ?_
    · simp
    · rintro k σ h' ⟨rfl, hk, ht, h0, h1, h12, h13⟩
      simp (disch := omega) [h0, h1, h12, h13]
      refine fork_dec (fun hlt => ?_) (fun hge => ?_)
      · have k1 : k < X.length := by omega
        have k2 : k < Y.length := by omega
        simp (disch := omega) [h0, h1, h12, h13, hc1 k k1, hc2 k k2, k1, k2, neq_trip]
        refine fork_dec (fun he => ?_) (fun he => ?_)
        · simp (disch := omega) [h0, h1, h12, h13]
          refine ⟨k + 1, ⟨by omega, ?_, ?_⟩, by omega⟩
          · rw [List.take_succ_eq_append_getElem k1, List.take_succ_eq_append_getElem k2, ht, he]
          · rw [wrap64 (by omega) (by omega)]; simp
        · simp (disch := omega) [h0, h1, h12, h13]
          exact take_ne k1 k2 he
      · simp (disch := omega) [h0, h1, h12, h13]
        have q1 : k = X.length := by omega
        have q2 : X.length = Y.length := by omega
        subst q1
        rw [List.take_length, q2, List.take_length] at ht
        exact ht
  · simp (disch := omega)
    intro e; apply hne; rw [e]

def samP (X Y : Pan) : Bool := decide (X = Y)
theorem samP_mk (W H W2 H2 : Int) (br br2 : List Int) : samP (W, H, br) (W2, H2, br2) = (decide (W = W2) && (decide (H = H2) && decide (br = br2))) := by
  simp only [samP, Prod.mk.injEq, Bool.decide_and]
theorem c456 (h : Heap) (v w : Value) (X Y : Pan) (hv : PtP h v X) (hw : PtP h w Y) : ACall Gam 456 [v, w] h fun r h' => r = B (samP X Y) ∧ h' = h := by
  obtain ⟨W, H, br⟩ := X
  obtain ⟨W2, H2, br2⟩ := Y
  obtain ⟨b, o, s, rfl, x1, x2, x3, hs, _⟩ := hv
  obtain ⟨b', o', s', rfl, y1, y2, y3, hs', _⟩ := hw
  rw [samP_mk]
  refine ACall_intro g456 rfl ?_
  unfold fn456
  simp (disch := omega) [x1, x2, x3, y1, y2, y3]
  refine fork_dec (fun e1 => ?_) (fun e1 => ?_)
  · simp (disch := omega) [x1, x2, x3, y1, y2, y3, e1]
    refine fork_dec (fun e2 => ?_) (fun e2 => ?_)
    · simp (disch := omega) [x1, x2, x3, y1, y2, y3, e1, e2]
      refine callW_of (c436 h _ _ br br2 hs hs') ?_
      rintro _ h' ⟨rfl, rfl⟩
      simp [e1, e2]
    · simp (disch := omega) [x1, x2, x3, y1, y2, y3, e1, e2]
  · simp (disch := omega) [x1, x2, x3, y1, y2, y3, e1]
theorem c130 (h : Heap) (v w : Value) (X Y : Pan) (hv : Vr h shPanel v X) (hw : Vr h shPanel w Y) : ACall Gam 130 [v, w] h fun r h' => r = B (samP X Y) ∧ h' = h := by
  obtain ⟨W, H, br⟩ := X
  obtain ⟨W2, H2, br2⟩ := Y
  obtain ⟨s, rfl, _, _, hs⟩ := hv.panel
  obtain ⟨s', rfl, _, _, hs'⟩ := hw.panel
  rw [samP_mk]
  refine ACall_intro g130 rfl ?_
  unfold fn130
  simp (disch := omega)
  refine fork_dec (fun e1 => ?_) (fun e1 => ?_)
  · simp (disch := omega) [e1]
    refine fork_dec (fun e2 => ?_) (fun e2 => ?_)
    · simp (disch := omega) [e1, e2]
      refine callW_of (c314 h _ _ br br2 hs hs') ?_
      rintro _ h' ⟨rfl, rfl⟩
      simp [e1, e2]
    · simp (disch := omega) [e1, e2]
  · simp (disch := omega) [e1]

def samJ (X Y : Jrn) : Bool := samP X.1 Y.1 && (decide (X.2.1 = Y.2.1) && decide (X.2.2 = Y.2.2))
theorem c418 (h : Heap) (hp : 0 < h.length) (v0 : Value) (X0 : Jrn) (hv0 : Vr h shJournal v0 X0) (hs0 : siz shJournal X0 ≤ 1048576) (v1 : Value) (X1 : Jrn) (hv1 : Vr h shJournal v1 X1) (hs1 : siz shJournal X1 ≤ 1048576) :
    ACall Gam 418 [v0, v1] h fun r h' => Grows h h' ∧ r = B (samJ X0 X1) := by
  obtain ⟨⟨W, H, br⟩, p, f⟩ := X0
  obtain ⟨⟨W2, H2, br2⟩, p2, f2⟩ := X1
  obtain ⟨s, sp, sf, rfl, w, x, r1, r2, r3⟩ := hv0.journal
  obtain ⟨s', sp', sf', rfl, w', x', r1', r2', r3'⟩ := hv1.journal
  refine ACall_intro g418 rfl ?_
  unfold fn418
  simp (disch := omega)
  obtain ⟨hh, ehh⟩ : ∃ hh, hh = h ++ [⟨[I W, I H, s, sp, sf], true⟩, ⟨[I W2, I H2, s', sp', sf'], true⟩] := ⟨_, rfl⟩
  rw [← ehh]
  have G : Grows h hh := ⟨_, ehh⟩
  have k0 : hh[h.length]? = some ⟨[I W, I H, s, sp, sf], true⟩ := by rw [ehh]; simp
  have k1 : hh[h.length + 1]? = some ⟨[I W2, I H2, s', sp', sf'], true⟩ := by rw [ehh, List.getElem?_append_right (by omega)]; simp
  have c3 : cell hh h.length 3 = some sp := by simp [cell, k0]
  have c4 : cell hh h.length 4 = some sf := by simp [cell, k0]
  have d3 : cell hh (h.length + 1) 3 = some sp' := by simp [cell, k1]
  have d4 : cell hh (h.length + 1) 4 = some sf' := by simp [cell, k1]
  have p0 : PtP hh (pt h.length 0) (W, H, br) := ⟨h.length, 0, s, rfl, by simp [cell, k0], by simp [cell, k0], by simp [cell, k0], r1.grow G, w, x⟩
  have p1 : PtP hh (pt (h.length + 1) 0) (W2, H2, br2) := ⟨h.length + 1, 0, s', rfl, by simp [cell, k1], by simp [cell, k1], by simp [cell, k1], r1'.grow G, w', x'⟩
  refine callW_of (c456 hh _ _ _ _ p0 p1) ?_
  rintro _ h1 ⟨rfl, rfl⟩
  cases q1 : samP (W, H, br) (W2, H2, br2)
  · simp (disch := omega) [samJ, q1]
    exact G
  · simp (disch := omega) [c3, c4, d3, d4]
    refine callW_of (c563 h1 _ _ p p2 (r2.grow G) (r2'.grow G)) ?_
    rintro _ h1 ⟨rfl, rfl⟩
    by_cases q2 : p = p2
    · simp (disch := omega) [c3, c4, d3, d4, q2]
      refine callW_of (c563 h1 _ _ f f2 (r3.grow G) (r3'.grow G)) ?_
      rintro _ h1 ⟨rfl, rfl⟩
      simp (disch := omega) [samJ, q1, q2]
      exact G
    · simp (disch := omega) [c3, c4, d3, d4, q2, samJ, q1]
      exact G
theorem c127 (h : Heap) (hp : 0 < h.length) (v0 : Value) (X0 : Jrn) (hv0 : Vr h shJournal v0 X0) (hs0 : siz shJournal X0 ≤ 1048576) (v1 : Value) (X1 : Jrn) (hv1 : Vr h shJournal v1 X1) (hs1 : siz shJournal X1 ≤ 1048576) :
    ACall Gam 127 [v0, v1] h fun r h' => Grows h h' ∧ r = B (samJ X0 X1) := by
  obtain ⟨⟨W, H, br⟩, p, f⟩ := X0
  obtain ⟨⟨W2, H2, br2⟩, p2, f2⟩ := X1
  obtain ⟨s, sp, sf, rfl, w, x, r1, r2, r3⟩ := hv0.journal
  obtain ⟨s', sp', sf', rfl, w', x', r1', r2', r3'⟩ := hv1.journal
  refine ACall_intro g127 rfl ?_
  unfold fn127
  simp (disch := omega)
  refine callW_of (c130 h _ _ (W, H, br) (W2, H2, br2) (Vr.of_panel w x r1) (Vr.of_panel w' x' r1')) ?_
  rintro _ h1 ⟨rfl, rfl⟩
  cases q1 : samP (W, H, br) (W2, H2, br2)
  · simp (disch := omega) [samJ, q1]
    exact Grows.refl _
  · simp (disch := omega)
    refine callW_of (c313 h1 _ _ p p2 r2 r2') ?_
    rintro _ h1 ⟨rfl, rfl⟩
    by_cases q2 : p = p2
    · simp (disch := omega) [q2]
      refine callW_of (c313 h1 _ _ f f2 r3 r3') ?_
      rintro _ h1 ⟨rfl, rfl⟩
      simp (disch := omega) [samJ, q1, q2]
      exact Grows.refl _
    · simp (disch := omega) [q2, samJ, q1]
      exact Grows.refl _
end Am

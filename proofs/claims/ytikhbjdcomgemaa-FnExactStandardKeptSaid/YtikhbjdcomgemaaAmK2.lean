/- Contracts: AmT3, AmC7, AmP1, AmP3, AmT4, AmT5, AmP4, AmP7, AmP8, AmP2, AmP5, AmP6, AmP9. -/
import Derived.Test.YtikhbjdcomgemaaAmK1
/-! AmT3 -/
set_option linter.unusedVariables false
set_option linter.unusedSimpArgs false
set_option maxHeartbeats 4000000
namespace Am
open Go

abbrev Trip := Int × Int × Int
def trip (t : Trip) : List Value := [I t.1, I t.2.1, I t.2.2]
def trips (l : List Trip) : List Value := (l.map trip).flatten
def T64 (t : Trip) : Prop := I64 t.1 ∧ I64 t.2.1 ∧ I64 t.2.2
theorem trips_cons (a : Trip) (b : List Trip) : trips (a :: b) = I a.1 :: I a.2.1 :: I a.2.2 :: trips b := by simp [trips, trip]
theorem trips_len : ∀ l : List Trip, (trips l).length = 3 * l.length
  | [] => rfl
  | a :: l => by rw [trips_cons]; simp [trips_len l]; omega
theorem rd_trip {h : Heap} {c : List Value} {t : Trip} : Rd h shTrip c t ↔ c = trip t ∧ T64 t := by
  constructor
  · rintro ⟨c1, c2, rfl, ⟨rfl, w1⟩, c3, c4, rfl, ⟨rfl, w2⟩, rfl, w3⟩
    exact ⟨rfl, wf_i64.1 w1, wf_i64.1 w2, wf_i64.1 w3⟩
  · rintro ⟨rfl, w1, w2, w3⟩
    exact ⟨[I t.1], [I t.2.1, I t.2.2], rfl, ⟨rfl, wf_i64.2 w1⟩, [I t.2.1], [I t.2.2], rfl, ⟨rfl, wf_i64.2 w2⟩, rfl, wf_i64.2 w3⟩
theorem rd_trips {h : Heap} : ∀ {css : List (List Value)} {X : List Trip}, All2 (fun c y => Rd h shTrip c y) css X → css.flatten = trips X ∧ ∀ x ∈ X, T64 x
  | [], [], _ => by simp [trips]
  | c :: css, x :: X, r => by
    obtain ⟨e, w⟩ := rd_trip.1 r.1
    obtain ⟨h1, h2⟩ := rd_trips r.2
    refine ⟨by simp [e, h1, trips], fun y hy => ?_⟩
    rcases List.mem_cons.1 hy with rfl | hy
    · exact w
    · exact h2 y hy
theorem Vr.trips {h : Heap} {v : Value} {X : List Trip} (x : Vr h shTrips v X) : ∃ b o z, v = sl b o X.length z ∧ (z = 3 ∨ b = 0 ∧ X = []) ∧ X.length ≤ maxLen ∧ (∀ x ∈ X, T64 x) ∧ (X = [] ∨ cellsAt h b o (X.length * 3) = some (Am.trips X)) := by
  obtain ⟨cs, ⟨b, o, z, css, rfl, hz, hm, h1, h2⟩, rfl⟩ := x
  obtain ⟨e1, e2⟩ := rd_trips h1
  have h2' : X = [] ∨ cellsAt h b o (X.length * 3) = some css.flatten := h2
  rw [e1] at h2'
  exact ⟨b, o, z, rfl, hz, hm, e2, h2'⟩
theorem all_trips (h : Heap) : ∀ (X : List Trip), (∀ x ∈ X, T64 x) → All2 (fun c y => Rd h shTrip c y) (X.map trip) X
  | [], _ => trivial
  | x :: X, hx => ⟨rd_trip.2 ⟨rfl, hx x (by simp)⟩, all_trips h X fun y hy => hx y (by simp [hy])⟩
theorem Vr.of_trips {h : Heap} {b o z : Nat} {X : List Trip} (hz : z = 3 ∨ b = 0 ∧ X = []) (hm : X.length ≤ maxLen) (hx : ∀ x ∈ X, T64 x) (hc : X = [] ∨ cellsAt h b o (X.length * 3) = some (Am.trips X)) : Vr h shTrips (sl b o X.length z) X :=
  ⟨[sl b o X.length z], ⟨b, o, z, X.map trip, rfl, hz, hm, all_trips h X hx, hc⟩, rfl⟩
theorem ow_trip {h : Heap} {c : List Value} {t : Trip} {bs : List Nat} : Ow h shTrip c t bs ↔ c = trip t ∧ T64 t ∧ bs = [] := by
  constructor
  · rintro ⟨c1, c2, b1, b2, rfl, rfl, ⟨rfl, w1, rfl⟩, c3, c4, b3, b4, rfl, rfl, ⟨rfl, w2, rfl⟩, rfl, w3, rfl⟩
    exact ⟨rfl, ⟨wf_i64.1 w1, wf_i64.1 w2, wf_i64.1 w3⟩, rfl⟩
  · rintro ⟨rfl, ⟨w1, w2, w3⟩, rfl⟩
    exact ⟨[I t.1], [I t.2.1, I t.2.2], [], [], rfl, rfl, ⟨rfl, wf_i64.2 w1, rfl⟩, [I t.2.1], [I t.2.2], [], [], rfl, rfl, ⟨rfl, wf_i64.2 w2, rfl⟩, rfl, wf_i64.2 w3, rfl⟩
theorem all3_trips (h : Heap) : ∀ (X : List Trip), (∀ x ∈ X, T64 x) → All3 (fun c y s => Ow h shTrip c y s) (X.map trip) X (X.map fun _ => [])
  | [], _ => trivial
  | x :: X, hx => ⟨ow_trip.2 ⟨rfl, hx x (by simp), rfl⟩, all3_trips h X fun y hy => hx y (by simp [hy])⟩
theorem Vo.of_trips {h : Heap} {b lo hi z : Nat} {X : List Trip} (hz : z = 3 ∨ b = 0 ∧ X = []) (hm : X.length ≤ maxLen) (hx : ∀ x ∈ X, T64 x) (hc : X = [] ∨ h[b]? = some ⟨Am.trips X, true⟩ ∧ lo ≤ b ∧ b < hi) : Vo h lo hi shTrips (sl b 0 X.length z) X := by
  refine ⟨[sl b 0 X.length z], if X = [] then [] else [b], ⟨b, z, X.map trip, X.map fun _ => [], rfl, hz, hm, all3_trips h X hx, ?_⟩, rfl, ?_, ?_⟩
  · by_cases h0 : X = []
    · exact .inl ⟨h0, by simp [h0]⟩
    · exact .inr ⟨h0, by rw [if_neg h0, nils_flat], (hc.resolve_left h0).1⟩
  · split <;> simp
  · intro b' hb'
    by_cases h0 : X = []
    · simp [h0] at hb'
    · simp [h0] at hb'; subst hb'; exact (hc.resolve_left h0).2
theorem All3.trips {h : Heap} : ∀ {css : List (List Value)} {X : List Trip} {bss : List (List Nat)}, All3 (fun c y s => Ow h shTrip c y s) css X bss → css.flatten = Am.trips X ∧ (∀ x ∈ X, T64 x) ∧ bss.flatten = []
  | [], [], [], _ => by simp [Am.trips]
  | c :: css, x :: X, s :: bss, r => by
    obtain ⟨e, w, es⟩ := ow_trip.1 r.1
    obtain ⟨h1, h2, h3⟩ := All3.trips r.2
    refine ⟨by simp [e, h1, Am.trips], fun y hy => ?_, by simp [es, h3]⟩
    rcases List.mem_cons.1 hy with rfl | hy
    · exact w
    · exact h2 y hy
  | [], _ :: _, _, r => r.elim
  | [], [], _ :: _, r => r.elim
  | _ :: _, [], _, r => r.elim
  | _ :: _, _ :: _, [], r => r.elim
theorem Vo.trips {h : Heap} {lo hi : Nat} {v : Value} {X : List Trip} (x : Vo h lo hi shTrips v X) : ∃ b z, v = sl b 0 X.length z ∧ (z = 3 ∨ b = 0 ∧ X = []) ∧ X.length ≤ maxLen ∧ (∀ x ∈ X, T64 x) ∧ (X = [] ∨ h[b]? = some ⟨Am.trips X, true⟩ ∧ lo ≤ b ∧ b < hi) := by
  obtain ⟨cs, bs, ⟨b, z, css, bss, rfl, hz, hm, h1, h2⟩, rfl, _, hb⟩ := x
  obtain ⟨e1, e2, e3⟩ := All3.trips h1
  refine ⟨b, z, rfl, hz, hm, e2, ?_⟩
  rcases h2 with ⟨h2, _⟩ | ⟨_, h3, h4⟩
  · exact .inl h2
  · rw [e3] at h3; rw [e1] at h4
    exact .inr ⟨h4, hb b (by simp [h3])⟩

theorem Vr.trip {h : Heap} {v : Value} {t : Trip} (x : Vr h shTrip v t) : v = .agg #[I t.1, I t.2.1, I t.2.2] ∧ T64 t := by
  obtain ⟨cs, r, rfl⟩ := x
  obtain ⟨rfl, w⟩ := rd_trip.1 r
  exact ⟨rfl, w⟩

def tnums (k n : Nat) : List Trip := (List.range n).map fun i => (((k + 3 * i : Nat) : Int), ((k + 3 * i + 1 : Nat) : Int), ((k + 3 * i + 2 : Nat) : Int))
theorem pos_of {h h' : Heap} (hp : 0 < h.length) (g : Grows h h') : 0 < h'.length := Nat.lt_of_lt_of_le hp g.le
@[simp] theorem nat_neg (n : Nat) : ((n : Int) < 0) = False := by simp
theorem all2_nil {α β : Type} {R : α → β → Prop} {vs : List β} (h : All2 R [] vs) : vs = [] := by cases vs with | nil => rfl | cons _ _ => exact h.elim
theorem all2_cons {α β : Type} {R : α → β → Prop} {a : α} {l : List α} {vs : List β} (h : All2 R (a :: l) vs) : ∃ v r, vs = v :: r ∧ R a v ∧ All2 R l r := by
  cases vs with
  | nil => exact h.elim
  | cons v r => exact ⟨v, r, rfl, h.1, h.2⟩
theorem ArgR.vr {h : Heap} {D : Shp} {v : Value} (x : ArgR h D v) : ∃ X, Vr h D v X := by obtain ⟨cs, X, r, e⟩ := x; exact ⟨X, cs, r, e⟩
theorem ArgR.int {h : Heap} {v : Value} (x : ArgR h shInt v) : ∃ a, v = I a ∧ I64 a := by obtain ⟨cs, X, ⟨rfl, w⟩, rfl⟩ := x; exact ⟨X, rfl, wf_i64.1 w⟩
theorem ArgR.str {h : Heap} {v : Value} (x : ArgR h .str v) : ∃ s, v = S s ∧ s.length ≤ 9223372036854775807 := by obtain ⟨cs, X, ⟨rfl, w⟩, rfl⟩ := x; exact ⟨X, rfl, by rw [← maxLen_eq]; exact w⟩
theorem Vr.panel3 {h : Heap} {v : Value} {X : shPanel.T} (x : Vr h shPanel v X) : ∃ a b c, v = .agg #[a, b, c] := by
  obtain ⟨W, H, br⟩ := X
  obtain ⟨s, e, _⟩ := x.panel
  exact ⟨_, _, _, e⟩
theorem Vr.journal5 {h : Heap} {v : Value} {X : shJournal.T} (x : Vr h shJournal v X) : ∃ a b c d f, v = .agg #[a, b, c, d, f] := by
  obtain ⟨cs, r, rfl⟩ := x
  have hl := r.len
  match cs, hl with
  | [a, b, c, d, f], _ => exact ⟨a, b, c, d, f, rfl⟩
theorem trips_inj_nil {X : List Trip} (h : trips X = []) : X = [] := by
  cases X with
  | nil => rfl
  | cons x X => rw [trips_cons] at h; cases h
theorem Buf.trips {h0 h : Heap} {v : Value} {X : List Trip} (x : Buf h0 h v 3 (Am.trips X)) (hm : X.length ≤ maxLen) (hx : ∀ x ∈ X, T64 x) : Vo h h0.length h.length shTrips v X := by
  rcases x with ⟨h1, rfl⟩ | ⟨b, n, rfl, h2, h3, h4⟩
  · have := trips_inj_nil h1
    subst this
    exact Vo.of_trips (X := []) (.inl rfl) (by simp) (by simp) (.inl rfl)
  · rw [trips_len] at h2
    have : n = X.length := by omega
    subst this
    exact Vo.of_trips (.inl rfl) hm hx (.inr ⟨h4, h3, at_lt h4⟩)
theorem ints_inj_nil {X : List Int} (h : ints X = []) : X = [] := by
  cases X with
  | nil => rfl
  | cons x X => cases h
theorem Buf.ints {h0 h : Heap} {v : Value} {X : List Int} (x : Buf h0 h v 1 (Am.ints X)) (hm : X.length ≤ maxLen) (hx : ∀ x ∈ X, I64 x) : Vo h h0.length h.length shInts v X := by
  rcases x with ⟨h1, rfl⟩ | ⟨b, n, rfl, h2, h3, h4⟩
  · have := ints_inj_nil h1
    subst this
    exact Vo.of_ints (X := []) (.inl rfl) (by simp) (by simp) (.inl rfl)
  · have : n = X.length := by simpa [Am.ints] using h2
    subst this
    exact Vo.of_ints (.inl rfl) hm hx (.inr ⟨h4, h3, at_lt h4⟩)
end Am
/-! AmC7 -/
set_option linter.unusedVariables false
set_option linter.unusedSimpArgs false
set_option maxHeartbeats 4000000
namespace Am
open Go

def inverse (X : List Trip) : List Trip := X.reverse.map fun t => (t.1, t.2.2, t.2.1)
end Am
/-! AmP1 -/
set_option linter.unusedVariables false
set_option linter.unusedSimpArgs false
set_option maxHeartbeats 4000000
namespace Am
open Go

abbrev Pan := Int × Int × List Int
def okBr (b : Int) : Bool := inR b 0 2
def okP (X : Pan) : Bool := okSz X.1 X.2.1 && (decide ((X.2.2.length : Int) = inner X.1 X.2.1) && X.2.2.all okBr)
structure OkP (X : Pan) : Prop where
  w : 1 ≤ X.1 ∧ X.1 ≤ 8
  h : 1 ≤ X.2.1 ∧ X.2.1 ≤ 8
  n : (X.2.2.length : Int) = inner X.1 X.2.1
  b : ∀ x ∈ X.2.2, 0 ≤ x ∧ x ≤ 2
theorem okP_iff {X : Pan} : okP X = true ↔ OkP X := by
  unfold okP
  simp only [Bool.and_eq_true, okSz_iff, decide_eq_true_eq, List.all_eq_true, okBr, inR_iff]
  exact ⟨fun ⟨⟨a, b⟩, c, d⟩ => ⟨a, b, c, d⟩, fun ⟨a, b, c, d⟩ => ⟨⟨a, b⟩, c, d⟩⟩

/-- A pointer to a panel. -/
def PtP (h : Heap) (v : Value) (X : Pan) : Prop := ∃ b o s, v = pt b o ∧ cell h b o = some (I X.1) ∧ cell h b (o + 1) = some (I X.2.1) ∧ cell h b (o + 2) = some s ∧ Vr h shInts s X.2.2 ∧ I64 X.1 ∧ I64 X.2.1
theorem Grows.cell {h h' : Heap} (g : Grows h h') {b o : Nat} {v : Value} (x : Am.cell h b o = some v) : Am.cell h' b o = some v := by
  unfold Am.cell at *
  split at x
  · rename_i k hk; rw [g.at hk]; exact x
  · cases x
theorem PtP.grow {h h' : Heap} {v : Value} {X : Pan} (x : PtP h v X) (g : Grows h h') : PtP h' v X := by
  obtain ⟨b, o, s, e, h1, h2, h3, h4, h5⟩ := x
  exact ⟨b, o, s, e, g.cell h1, g.cell h2, g.cell h3, h4.grow g, h5⟩
theorem PtP.push {h : Heap} {W H : Int} {s : Value} {br : List Int} {r : Bool} {l : List Blk} (hs : Vr h shInts s br) (hW : I64 W) (hH : I64 H) : PtP (h ++ ⟨[I W, I H, s], r⟩ :: l) (pt h.length 0) (W, H, br) := by
  refine ⟨h.length, 0, s, rfl, ?_, ?_, ?_, hs.grow ⟨_, rfl⟩, hW, hH⟩ <;> simp [Am.cell]

theorem all_drop {α : Type} {p : α → Bool} {l : List α} {k : Nat} (hk : k < l.length) : (l.drop k).all p = (p l[k] && (l.drop (k + 1)).all p) := by
  rw [List.drop_eq_getElem_cons hk]; rfl

theorem c452 (v : Value) (X : Pan) (h : Heap) (hv : PtP h v X) : ACall Gam 452 [v] h fun r h' => r = B (okP X) ∧ h' = h := by
  obtain ⟨b, o, s, rfl, h1, h2, h3, hs, hW, hH⟩ := hv
  obtain ⟨W, H, br⟩ := X
  obtain ⟨b2, o2, z, rfl, _, hm, hx, hc⟩ := hs.ints
  rw [maxLen_eq] at hm
  have hm : br.length ≤ 9223372036854775807 := hm
  simp only at h1 h2
  refine ACall_intro g452 rfl ?_
  unfold fn452
  simp (disch := omega) [h1, h2, h3]
  refine callW_of (c457 W h) ?_
  rintro v h' ⟨rfl, rfl⟩
  cases hb : inR W 1 8
  · simp [okP, okSz, hb]
  · simp (disch := omega) [h1, h2, h3]
    refine callW_of (c457 H h') ?_
    rintro v h' ⟨rfl, rfl⟩
    cases hc' : inR H 1 8
    · simp [okP, okSz, hb, hc']
    · simp (disch := omega) [h1, h2, h3]
      have qW := inR_iff.1 hb
      have qH := inR_iff.1 hc'
      refine callW_of (c448 W H qW qH h') ?_
      rintro v h' ⟨rfl, rfl⟩
      refine ⟨fun _ => Grows.refl _, ?_⟩
      simp (disch := omega) [h1, h2, h3]
      refine fork_dec (fun hn => ?_) (fun hn => ?_)
      · simp (disch := omega)
        refine awp_loop (fun k σ h'' => h'' = h' ∧ k ≤ br.length ∧ (br.drop k).all okBr = br.all okBr ∧ σ 0 = pt b o ∧ σ 3 = I k) (fun k => br.length - k) 0 ?_ ?_
        · simp
        · rintro k σ h'' ⟨rfl, hk, ht, q0, q3⟩
          simp (disch := omega) [q0, q3, h3]
          refine fork_dec (fun hlt => ?_) (fun hge => ?_)
          · have k1 : k < br.length := by omega
            simp (disch := omega) [q0, q3, h3, k1, ints_cell hc k1]
            refine callW_of (c432 br[k] 0 2 _) ?_
            rintro v h' ⟨rfl, rfl⟩
            rw [all_drop k1] at ht
            have eb : inR br[k] 0 2 = okBr br[k] := rfl
            rw [eb]
            cases hbr : okBr br[k]
            · rw [hbr] at ht
              simp [okP, okSz, hb, hc', hn, ← ht]
            · rw [hbr] at ht
              simp (disch := omega) [q0, q3, wrap64]
              exact ⟨k + 1, ⟨by omega, by simpa using ht, by omega⟩, by omega⟩
          · have : k = br.length := by omega
            subst this
            simp at ht
            simp [okP, okSz, hb, hc', hn]
            exact ht
      · simp [okP, okSz, hb, hc', hn]

def at0 (br : List Int) (i : Nat) : Int := br.getD i 0
theorem at0_of {br : List Int} {i : Nat} (h : i < br.length) : at0 br i = br[i] := by simp [at0, h]
end Am
/-! AmP3 -/
set_option linter.unusedVariables false
set_option linter.unusedSimpArgs false
set_option maxHeartbeats 4000000
namespace Am
open Go

/-- A slice of numbers appended to an empty one: its own copy. -/
theorem own_ints {h : Heap} {v : Value} {X : List Int} {K : Value → Heap → Prop} (hp : 0 < h.length) (hv : Vr h shInts v X) (hs : X.length ≤ 1048576) (hK : ∀ v' h', Grows h h' → Vo h' h.length h'.length shInts v' X → K v' h') :
    bindW (aAppend 1 h v (sl 0 0 0 1)) K := by
  obtain ⟨b, o, z, rfl, hz, hm, hx, hc⟩ := hv.ints
  by_cases hX : X = []
  · subst hX
    have e : aAppend 1 h (sl b o (List.length ([] : List Int)) z) (sl 0 0 0 1) = some (sl 0 0 0 1, h) := by simp [aAppend, newCells]
    rw [e]
    exact hK _ _ (Grows.refl _) (Vo.of_ints (X := []) (.inl rfl) (by simp) (by simp) (.inl rfl))
  · have hc := hc.resolve_left hX
    have hne : X.length ≠ 0 := by simpa using hX
    refine append_buf hp (Grows.refl h) Buf.nil (new := ints X) ?_ (by omega) (by simpa [ints] using hX) (by simp [ints]) (by simp [ints, maxSize]; omega) ?_
    · simp [newCells, hX, hc]
    · intro v' h' g b1 _
      refine hK v' h' g ?_
      obtain ⟨b2, z2, rfl, hz2, _, _, hc2⟩ := (Buf.ints (by simpa using b1) hm hx).ints
      exact Vo.of_ints hz2 hm hx (hc2.imp id fun q => ⟨q.1, q.2.1, at_lt q.1⟩)

theorem c435 (h : Heap) (v : Value) (X : List Int) (hp : 0 < h.length) (hv : Vr h shInts v X) (hs : X.length ≤ 1048576) : ACall Gam 435 [v] h fun r h' => Grows h h' ∧ Vo h' h.length h'.length shInts r X := by
  refine ACall_intro g435 rfl ?_
  unfold fn435
  simp (disch := omega)
  refine own_ints hp hv hs fun v' h' g o => ?_
  obtain ⟨b, z, e, _⟩ := o.ints
  subst e
  exact ⟨g, o⟩
theorem c453 (h : Heap) (v : Value) (X : Pan) (hp : 0 < h.length) (hv : PtP h v X) (hs : X.2.2.length ≤ 1048576) : ACall Gam 453 [v] h fun r h' => Grows h h' ∧ Vo h' h.length h'.length shPanel r X := by
  obtain ⟨b, o, s, rfl, h1, h2, h3, hvs, hW, hH⟩ := hv
  obtain ⟨W, H, br⟩ := X
  refine ACall_intro g453 rfl ?_
  unfold fn453
  simp (disch := omega) [h1, h2, h3]
  refine callW_of (c435 _ _ br hp hvs hs) ?_
  rintro v' h' ⟨g, ov⟩
  refine ⟨fun _ => g, ?_⟩
  obtain ⟨b, z, e, _⟩ := ov.ints
  subst e
  simp (disch := omega) [resOf_box, aField]
  exact ⟨g, Vo.of_panel hW hH ov⟩
/-! ### new panels -/
def newP (W H : Int) : Pan := (W, H, List.replicate (inner W H).toNat 0)
theorem reps_ints (n : Nat) : reps n [I 0] = ints (List.replicate n 0) := by
  induction n with
  | zero => rfl
  | succ n ih => rw [reps_succ, ih, List.replicate_succ]; rfl
theorem new_ints {h : Heap} {n : Nat} (hp : 0 < h.length) (hn : n ≤ 1048576) : Vo (h ++ [⟨reps n [I 0], true⟩]) h.length (h.length + 1) shInts (sl h.length 0 n 1) (List.replicate n 0) := by
  have := Vo.of_ints (h := h ++ [⟨reps n [I 0], true⟩]) (b := h.length) (lo := h.length) (hi := h.length + 1) (z := 1) (X := List.replicate n 0) (.inl rfl) (by simp [maxLen_eq]; omega) (by intro x hx; simp at hx; unfold I64; omega) (.inr ⟨by simp [reps_ints], by omega, by omega⟩)
  simpa using this
theorem c450 (h : Heap) (W H : Int) (hW : 1 ≤ W ∧ W ≤ 8) (hH : 1 ≤ H ∧ H ≤ 8) (hp : 0 < h.length) : ACall Gam 450 [I W, I H] h fun r h' => Grows h h' ∧ Vo h' h.length h'.length shPanel r (newP W H) := by
  have hi := inner_bd hW hH
  refine ACall_intro g450 rfl ?_
  unfold fn450
  simp (disch := omega)
  refine callW_of (c448 W H hW hH h) ?_
  rintro v' h' ⟨rfl, rfl⟩
  simp (disch := omega) [aMake, maxSize]
  rw [if_pos (by omega)]
  simp (disch := omega) [resOf_box, aField]
  refine ⟨⟨_, rfl⟩, ?_⟩
  have := new_ints (h := h') (n := (inner W H).toNat) hp (by omega)
  exact Vo.of_panel (by unfold I64; omega) (by unfold I64; omega) this
theorem c177 (h : Heap) (W H : Int) (hW : 1 ≤ W ∧ W ≤ 8) (hH : 1 ≤ H ∧ H ≤ 8) (hp : 0 < h.length) : ACall Gam 177 [I W, I H] h fun r h' => Grows h h' ∧ Vo h' h.length h'.length shPanel r (newP W H) := by
  have hi := inner_bd hW hH
  refine ACall_intro g177 rfl ?_
  unfold fn177
  simp (disch := omega)
  refine callW_of (c166 W H hW hH h) ?_
  rintro v' h' ⟨rfl, rfl⟩
  simp (disch := omega) [aMake, maxSize]
  rw [if_pos (by omega)]
  simp (disch := omega) [resOf_box, aField]
  refine ⟨⟨_, rfl⟩, ?_⟩
  have := new_ints (h := h') (n := (inner W H).toNat) hp (by omega)
  exact Vo.of_panel (by unfold I64; omega) (by unfold I64; omega) this

/-! ### sizes -/
def sameSz (X Y : Pan) : Bool := decide (X.1 = Y.1) && decide (X.2.1 = Y.2.1)
def allOk : List Pan → Bool := fun l => l.all okP
def sizesCode (l : List Pan) : Int := if l.all okP then (if (l.drop 1).all fun y => sameSz y (l.headD (0, 0, [])) then 0 else 6) else 1
end Am
/-! AmT4 -/
set_option linter.unusedVariables false
set_option linter.unusedSimpArgs false
set_option maxHeartbeats 4000000
namespace Am
open Go

abbrev Pan3 := Int × Int × List Int
abbrev Jrn := Pan3 × List Trip × List Trip
theorem Rd.one {h : Heap} {a : Shp} {cs : List Value} {X : List a.T} (r : Rd h (.slice a) cs X) : ∃ s, cs = [s] := by
  have := r.len
  match cs, this with
  | [s], _ => exact ⟨s, rfl⟩
theorem Vr.journal {h : Heap} {v : Value} {W H : Int} {br : List Int} {p f : List Trip} (x : Vr h shJournal v ((W, H, br), p, f)) : ∃ s sp sf, v = .agg #[I W, I H, s, sp, sf] ∧ I64 W ∧ I64 H ∧ Vr h shInts s br ∧ Vr h shTrips sp p ∧ Vr h shTrips sf f := by
  obtain ⟨cs, ⟨c1, c2, rfl, ⟨c3, c4, rfl, ⟨rfl, w1⟩, c5, c6, rfl, ⟨rfl, w2⟩, r1⟩, c7, c8, rfl, r2, r3⟩, rfl⟩ := x
  obtain ⟨s, rfl⟩ := Rd.one r1
  obtain ⟨sp, rfl⟩ := Rd.one r2
  obtain ⟨sf, rfl⟩ := Rd.one r3
  exact ⟨s, sp, sf, rfl, wf_i64.1 w1, wf_i64.1 w2, ⟨_, r1, rfl⟩, ⟨_, r2, rfl⟩, ⟨_, r3, rfl⟩⟩
/-- The blocks from l on, before u: none, or within these bounds. -/
def Sub2 (lo hi l u : Nat) : Prop := l = u ∨ lo ≤ l ∧ u ≤ hi
theorem iv_ints {h : Heap} {cs : List Value} {X : List Int} {bs : List Nat} (r : Ow h shInts cs X bs) : ∃ s l u, cs = [s] ∧ Vo h l u shInts s X ∧ (bs = [] ∧ l = 0 ∧ u = 0 ∨ bs = [l] ∧ u = l + 1) := by
  obtain ⟨b, z, css, bss, rfl, hz, hm, h1, h2⟩ := r
  obtain ⟨e1, e2, e3⟩ := All3.ints h1
  rcases h2 with ⟨h2, h3⟩ | ⟨h2, h3, h4⟩
  · exact ⟨_, 0, 0, rfl, Vo.of_ints hz hm e2 (.inl h2), .inl ⟨h3, rfl, rfl⟩⟩
  · rw [e3] at h3; rw [e1] at h4
    exact ⟨_, b, b + 1, rfl, Vo.of_ints hz hm e2 (.inr ⟨h4, by omega, by omega⟩), .inr ⟨h3, rfl⟩⟩
theorem iv_trips {h : Heap} {cs : List Value} {X : List Trip} {bs : List Nat} (r : Ow h shTrips cs X bs) : ∃ s l u, cs = [s] ∧ Vo h l u shTrips s X ∧ (bs = [] ∧ l = 0 ∧ u = 0 ∨ bs = [l] ∧ u = l + 1) := by
  obtain ⟨b, z, css, bss, rfl, hz, hm, h1, h2⟩ := r
  obtain ⟨e1, e2, e3⟩ := All3.trips h1
  rcases h2 with ⟨h2, h3⟩ | ⟨h2, h3, h4⟩
  · exact ⟨_, 0, 0, rfl, Vo.of_trips hz hm e2 (.inl h2), .inl ⟨h3, rfl, rfl⟩⟩
  · rw [e3] at h3; rw [e1] at h4
    exact ⟨_, b, b + 1, rfl, Vo.of_trips hz hm e2 (.inr ⟨h4, by omega, by omega⟩), .inr ⟨h3, rfl⟩⟩
/-- Apart. -/
def Dis (l u l' u' : Nat) : Prop := u ≤ l' ∨ u' ≤ l
theorem Vo.journal {h : Heap} {lo hi : Nat} {v : Value} {W H : Int} {br : List Int} {p f : List Trip} (x : Vo h lo hi shJournal v ((W, H, br), p, f)) : ∃ s sp sf l1 u1 l2 u2 l3 u3, v = .agg #[I W, I H, s, sp, sf] ∧ I64 W ∧ I64 H ∧
    Vo h l1 u1 shInts s br ∧ Vo h l2 u2 shTrips sp p ∧ Vo h l3 u3 shTrips sf f ∧ Sub2 lo hi l1 u1 ∧ Sub2 lo hi l2 u2 ∧ Sub2 lo hi l3 u3 ∧ Dis l1 u1 l2 u2 ∧ Dis l1 u1 l3 u3 ∧ Dis l2 u2 l3 u3 := by
  obtain ⟨cs, bs, ⟨c1, c2, b1, b2, rfl, rfl, ⟨c3, c4, b3, b4, rfl, rfl, ⟨rfl, w1, rfl⟩, c5, c6, b5, b6, rfl, rfl, ⟨rfl, w2, rfl⟩, r1⟩, c7, c8, b7, b8, rfl, rfl, r2, r3⟩, rfl, nd, hb⟩ := x
  obtain ⟨s, l1, u1, rfl, o1, q1⟩ := iv_ints r1
  obtain ⟨sp, l2, u2, rfl, o2, q2⟩ := iv_trips r2
  obtain ⟨sf, l3, u3, rfl, o3, q3⟩ := iv_trips r3
  refine ⟨s, sp, sf, l1, u1, l2, u2, l3, u3, rfl, wf_i64.1 w1, wf_i64.1 w2, o1, o2, o3, ?_, ?_, ?_, ?_, ?_, ?_⟩
  all_goals
    (first | unfold Sub2 | unfold Dis) <;>
    rcases q1 with ⟨rfl, rfl, rfl⟩ | ⟨rfl, rfl⟩ <;> rcases q2 with ⟨rfl, rfl, rfl⟩ | ⟨rfl, rfl⟩ <;> rcases q3 with ⟨rfl, rfl, rfl⟩ | ⟨rfl, rfl⟩ <;> simp at nd hb <;> omega
end Am
/-! AmT5 -/
set_option linter.unusedVariables false
set_option linter.unusedSimpArgs false
set_option maxHeartbeats 4000000
namespace Am
open Go

abbrev Kpt := List UInt8 × Pan3
theorem Vr.kept {h : Heap} {v : Value} {n : List UInt8} {W H : Int} {br : List Int} (x : Vr h shKept v (n, W, H, br)) : ∃ s, v = .agg #[S n, I W, I H, s] ∧ n.length ≤ 9223372036854775807 ∧ I64 W ∧ I64 H ∧ Vr h shInts s br := by
  obtain ⟨cs, ⟨c1, c2, rfl, ⟨rfl, w0⟩, c3, c4, rfl, ⟨rfl, w1⟩, c5, c6, rfl, ⟨rfl, w2⟩, r⟩, rfl⟩ := x
  obtain ⟨s, rfl⟩ := Rd.one r
  exact ⟨s, rfl, by rw [← maxLen_eq]; exact w0, wf_i64.1 w1, wf_i64.1 w2, _, r, rfl⟩
/-- A library's entries, one by one. -/
theorem kepts_at {h : Heap} {v : Value} {X : List Kpt} (x : Vr h shKepts v X) : ∃ b o z, v = sl b o X.length z ∧ X.length ≤ maxLen ∧ ∀ i (hi : i < X.length), ∃ s, cellsAt h b (o + i * 4) 4 = some [S X[i].1, I X[i].2.1, I X[i].2.2.1, s] ∧ Vr h shInts s X[i].2.2.2 ∧ Vr h shKept (.agg #[S X[i].1, I X[i].2.1, I X[i].2.2.1, s]) X[i] := by
  obtain ⟨b, o, z, rfl, _, hm, hel⟩ := x.slice
  refine ⟨b, o, z, rfl, hm, fun i hi => ?_⟩
  obtain ⟨c, hc, r⟩ := hel i hi
  have hv : Vr h shKept (asVal shKept c) X[i] := ⟨c, r, rfl⟩
  obtain ⟨c1, c2, rfl, ⟨rfl, w0⟩, c3, c4, rfl, ⟨rfl, w1⟩, c5, c6, rfl, ⟨rfl, w2⟩, r⟩ := r
  obtain ⟨s, rfl⟩ := Rd.one r
  exact ⟨s, hc, ⟨_, r, rfl⟩, hv⟩
theorem siz_kept (n : List UInt8) (W H : Int) (br : List Int) : siz shKept (n, W, H, br) = n.length + br.length := by
  show n.length + siz shPanel (W, H, br) = _
  rw [siz_panel]

theorem c263 : EqTrue 263 shKept := by
  rintro h v w ⟨(n : List UInt8), (W : Int), (H : Int), (br : List Int)⟩ hv hw
  obtain ⟨s, rfl, w0, w1, w2, r⟩ := hv.kept
  obtain ⟨s', rfl, _, _, _, r'⟩ := hw.kept
  refine ACall_intro g263 rfl ?_
  unfold fn263
  simp (disch := omega)
  refine callW_of (c265 _ _ _ (W, H, br) (Vr.of_panel w1 w2 r) (Vr.of_panel w1 w2 r')) ?_
  rintro v h' ⟨rfl, rfl⟩
  simp (disch := omega)
theorem c264 : EqTrue 264 shKepts := eqS_ok g264 rfl ⟨by decide, rfl⟩ c263

def sizL (X : List Kpt) : Nat := (X.map fun y => siz shKept y).sum
theorem siz_kepts (X : List Kpt) : siz shKepts X = X.length + sizL X := rfl
end Am
/-! AmP4 -/
set_option linter.unusedVariables false
set_option linter.unusedSimpArgs false
set_option maxHeartbeats 4000000
namespace Am
open Go

/-! ### differences -/
def dpre (a b : List Int) (n : Nat) : List Trip := (List.range n).flatMap fun i => if at0 a i = at0 b i then [] else [((i : Int), at0 a i, at0 b i)]
def diffAns (X Y : Pan) : List Trip × Int := if okP X && okP Y then (if sameSz X Y then (dpre X.2.2 Y.2.2 X.2.2.length, 0) else ([], 6)) else ([], 1)
end Am
/-! AmP7 -/
set_option linter.unusedVariables false
set_option linter.unusedSimpArgs false
set_option maxHeartbeats 4000000
namespace Am
open Go

def newDesk : Jrn := (newP 3 2, [], [])
/-! ### equal lists -/
def samP (X Y : Pan) : Bool := decide (X = Y)
def samJ (X Y : Jrn) : Bool := samP X.1 Y.1 && (decide (X.2.1 = Y.2.1) && decide (X.2.2 = Y.2.2))
end Am
/-! AmP8 -/
set_option linter.unusedVariables false
set_option linter.unusedSimpArgs false
set_option maxHeartbeats 4000000
namespace Am
open Go

def samK (X Y : List Kpt) : Bool := decide (X = Y)
end Am
/-! AmP2 -/
set_option linter.unusedVariables false
set_option linter.unusedSimpArgs false
set_option maxHeartbeats 4000000
namespace Am
open Go

def byteI (x : Int) : UInt8 := UInt8.ofNat x.toNat
theorem append_bytes {h h' : Heap} {v : Value} {l xs : List UInt8} {n : Nat} {bs : Option (Value × Heap)} {K : Value → Heap → Prop} (hp : 0 < h.length) (hl : l.length + xs.length ≤ 1048576) (hg : Grows h h') (hv : Buf h h' v 1 (bytesV l)) (hne : xs ≠ []) (hn : n = xs.length)
    (e : bs = some (sl h'.length 0 n 1, h' ++ [⟨bytesV xs, true⟩]))
    (hK : ∀ v' h'', Grows h h'' → Buf h h'' v' 1 (bytesV (l ++ xs)) → K v' h'') : bindW bs fun y h'' => bindW (aAppend 1 h'' y v) K := by
  subst hn
  rw [e]
  simp only [bindW_some]
  have hne' : xs.length ≠ 0 := by simpa using hne
  refine append_buf hp (hg.push _) (hv.grow ⟨_, rfl⟩) (new := bytesV xs) ?_ (by omega) (by simpa [bytesV] using hne) (by simp [bytesV]) (by simp [bytesV, maxSize]; omega) ?_
  · simp [newCells, hne]
    rw [cellsAt_of (k := ⟨bytesV xs, true⟩) (by simp) (by simp [bytesV])]
    simp [bytesV, List.take_of_length_le]
  · intro v' h'' g1 b1 _
    exact hK v' h'' g1 (by simpa [bytesV] using b1)

theorem checksum_bd (l : List UInt8) : 0 ≤ checksum l ∧ checksum l < 64256 := by
  have := sums_bd l
  unfold checksum; omega
def ended (l : List UInt8) : List UInt8 := l ++ [byteI (checksum l / 256), byteI (checksum l % 256)]
theorem two_bytes {h' : Heap} {l : List UInt8} : aBuildSlice 1 2 h' [(0, Value.agg #[U 0, U 0]), (1, U (IntKind.u8.wrap (checksum l / 256))), (1001, U (IntKind.u8.wrap (checksum l % 256)))] =
    some (sl h'.length 0 2 1, h' ++ [⟨bytesV [byteI (checksum l / 256), byteI (checksum l % 256)], true⟩]) := by
  have hb := checksum_bd l
  rw [wrap8 (by omega) (by omega), wrap8 (by omega) (by omega)]
  simp [aBuildSlice, bytesV, byteI]
  omega

theorem c568 (l : List UInt8) (hl : l.length ≤ 1048000) (h0 h : Heap) (hp : 0 < h0.length) (v : Value) (hg : Grows h0 h) (hv : Buf h0 h v 1 (bytesV l)) : ACall Gam 568 [v] h fun r h' => r = S (ended l) ∧ Grows h0 h' := by
  have hb := checksum_bd l
  refine ACall_intro g568 rfl ?_
  unfold fn568
  simp (disch := omega)
  rw [text_buf hv]
  simp
  refine callW_of (c573 l (by omega) h) ?_
  rintro v' h' ⟨rfl, rfl⟩
  simp (disch := omega) [wrap64, tdiv_pos, tmod_pos]
  refine append_bytes hp (xs := [byteI (checksum l / 256), byteI (checksum l % 256)]) (by simp; omega) hg hv (by simp) rfl two_bytes ?_
  intro v' h'' g1 b1
  rw [text_buf b1]
  simp [ended]
  exact g1

theorem c191 (l : List UInt8) (hl : l.length ≤ 1048000) (h : Heap) : ACall Gam 191 [S l] h fun r h' => r = S (ended l) ∧ Grows h h' := by
  have hb := checksum_bd l
  refine ACall_intro g191 rfl ?_
  unfold fn191
  simp (disch := omega)
  refine callW_of (c64 l (by omega) h) ?_
  rintro v' h' ⟨rfl, rfl⟩
  simp (disch := omega) [wrap64, tdiv_pos, tmod_pos]
  rw [two_bytes]
  simp only [bindW_some]
  rw [text_buf (h0 := h') (l := [byteI (checksum l / 256), byteI (checksum l % 256)]) (.inr ⟨h'.length, 2, rfl, by simp [bytesV], Nat.le_refl _, by simp⟩)]
  simp
  rw [if_pos (by omega)]
  simp [ended]
  exact ⟨_, rfl⟩

/-! ### the digits of five breaks -/

def pv (br : List Int) (i : Nat) : Nat → Int
  | 0 => 0
  | j + 1 => 3 * pv br i j + at0 br (i + j)
def fiveV (br : List Int) (i : Nat) : Int := pv br i 5
theorem at0_bd {br : List Int} (hb : ∀ x ∈ br, 0 ≤ x ∧ x ≤ 2) (i : Nat) : 0 ≤ at0 br i ∧ at0 br i ≤ 2 := by
  unfold at0
  rw [List.getD_eq_getElem?_getD]
  by_cases h : i < br.length
  · rw [List.getElem?_eq_getElem h]
    exact hb _ (List.getElem_mem h)
  · rw [List.getElem?_eq_none (by omega)]; simp
theorem pv_bd {br : List Int} (hb : ∀ x ∈ br, 0 ≤ x ∧ x ≤ 2) (i : Nat) : ∀ j, 0 ≤ pv br i j ∧ pv br i j < 3 ^ j
  | 0 => by simp [pv]
  | j + 1 => by
    have := pv_bd hb i j
    have h2 := at0_bd hb (i + j)
    simp only [pv, Int.pow_succ]
    omega
theorem pv_le {br : List Int} (hb : ∀ x ∈ br, 0 ≤ x ∧ x ≤ 2) (i j : Nat) (hj : j ≤ 5) : 0 ≤ pv br i j ∧ pv br i j ≤ 242 ∧ (j ≤ 4 → pv br i j ≤ 80) := by
  have h1 := pv_bd hb i j
  have : j = 0 ∨ j = 1 ∨ j = 2 ∨ j = 3 ∨ j = 4 ∨ j = 5 := by omega
  rcases this with rfl | rfl | rfl | rfl | rfl | rfl <;> simp at h1 <;> omega
def packB (br : List Int) (q : Nat) : List UInt8 := (List.range q).map fun i => byteI (fiveV br (5 * i))
theorem packB_succ (br : List Int) (q : Nat) : packB br (q + 1) = packB br q ++ [byteI (fiveV br (5 * q))] := by simp [packB, List.range_succ]
theorem packB_len (br : List Int) (q : Nat) : (packB br q).length = q := by simp [packB]
def packBody (X : Pan) : List UInt8 := [77, byteI X.1, byteI X.2.1] ++ packB X.2.2 ((X.2.2.length + 4) / 5)
def packP (X : Pan) : List UInt8 := ended (packBody X)

theorem three_bytes {h' : Heap} {W H : Int} (hW : 1 ≤ W ∧ W ≤ 8) (hH : 1 ≤ H ∧ H ≤ 8) : aBuildSlice 1 3 h' [(0, Value.agg #[U 0, U 0, U 0]), (1, U 77), (1001, U (IntKind.u8.wrap W)), (2001, U (IntKind.u8.wrap H))] =
    some (sl h'.length 0 3 1, h' ++ [⟨bytesV [77, byteI W, byteI H], true⟩]) := by
  rw [wrap8 (by omega) (by omega), wrap8 (by omega) (by omega)]
  simp [aBuildSlice, bytesV, byteI]
  omega
theorem one_byte {h' : Heap} {x : Int} (hx : 0 ≤ x ∧ x < 256) : aBuildSlice 1 1 h' [(0, Value.agg #[U 0]), (1, U x)] = some (sl h'.length 0 1 1, h' ++ [⟨bytesV [byteI x], true⟩]) := by
  simp [aBuildSlice, bytesV, byteI]
  omega

theorem c571 (v : Value) (X : Pan) (h : Heap) (hp : 0 < h.length) (hv : PtP h v X) (ok : OkP X) : ACall Gam 571 [v] h fun r h' => r = S (packP X) ∧ Grows h h' := by
  obtain ⟨b, o, s, rfl, h1, h2, h3, hs, hW, hH⟩ := hv
  obtain ⟨W, H, br⟩ := X
  obtain ⟨b2, o2, z, rfl, _, hm, hx, hc⟩ := hs.ints
  obtain ⟨qW, qH, qn, qb⟩ := ok
  have qi := inner_bd qW qH
  simp only at h1 h2 qW qH qn qb qi
  refine ACall_intro g571 rfl ?_
  unfold fn571
  simp (disch := omega) [h1, h2]
  rw [three_bytes qW qH]
  simp
  have g0 : Grows h (h ++ [⟨bytesV [77, byteI W, byteI H], true⟩]) := ⟨_, rfl⟩
  refine awp_loop (fun q σ h' => Grows h h' ∧ 5 * q ≤ br.length + 4 ∧ σ 0 = pt b o ∧ σ 4 = I ((5 * q : Nat) : Int) ∧ Buf h h' (σ 3) 1 (bytesV ([77, byteI W, byteI H] ++ packB br q))) (fun q => br.length + 4 - 5 * q) 0 ?_ ?_
  · refine ⟨g0, by omega, by simp, by simp, ?_⟩
    simp [packB]
    exact .inr ⟨h.length, 3, rfl, by simp [bytesV], Nat.le_refl _, by simp⟩
  · rintro q σ h' ⟨hg, hq, q0, q4, hb⟩
    have h3' := hg.cell h3
    simp (disch := omega) [q0, q4, h3']
    refine fork_dec (fun hlt => ?_) (fun hge => ?_)
    · simp (disch := omega) [q0, q4]
      refine awp_loop (fun j σ' h'' => h'' = h' ∧ j ≤ 5 ∧ σ' 0 = pt b o ∧ σ' 3 = σ 3 ∧ σ' 4 = I ((5 * q : Nat) : Int) ∧ σ' 6 = I ((5 * q + j : Nat) : Int) ∧ σ' 5 = I (pv br (5 * q) j)) (fun j => 5 - j) 0 ?_ ?_
      · simp [q0, q4, pv]
      · rintro j σ' h'' ⟨rfl, hj, p0, p3, p4, p6, p5⟩
        simp (disch := omega) [p4, p6, wrap64]
        refine fork_dec (fun hlt2 => ?_) (fun hge2 => ?_)
        · have hj4 : j ≤ 4 := by omega
          have hpv := pv_le qb (5 * q) j hj
          have hpv2 := pv_le qb (5 * q) (j + 1) (by omega)
          have e1 : pv br (5 * q) (j + 1) = 3 * pv br (5 * q) j + at0 br (5 * q + j) := rfl
          have ha := at0_bd qb (5 * q + j)
          simp (disch := omega) [p0, p5, p6, h3', wrap64]
          refine fork_dec (fun hlt3 => ?_) (fun hge3 => ?_)
          · have k1 : 5 * q + j < br.length := by omega
            have hcell := ints_cell (hc.imp id (grows_cellsAt hg)) k1
            have eat : at0 br (5 * q + j) = br[5 * q + j] := by simp [at0, k1]
            have et : (5 * (q : Int) + j).toNat = 5 * q + j := by omega
            have c1 : (0 : Int) ≤ 5 * q + j := by omega
            have c2 : 5 * (q : Int) + j < br.length := by omega
            simp (disch := omega) [p0, p5, p6, h3', et, c1, c2, hcell, wrap64, p3, p4]
            refine ⟨j + 1, ⟨by omega, by omega, ?_⟩, by omega⟩
            rw [e1, eat]; omega
          · have eat : at0 br (5 * q + j) = 0 := by
              unfold at0; rw [List.getD_eq_getElem?_getD, List.getElem?_eq_none (by omega)]; rfl
            simp (disch := omega) [p0, p5, p6, p3, p4, wrap64]
            exact ⟨j + 1, ⟨by omega, by omega, by omega⟩, by omega⟩
        · have : j = 5 := by omega
          subst this
          have hpv := pv_le qb (5 * q) 5 (by omega)
          simp (disch := omega) [p0, p5, p3, p4, wrap64]
          rw [wrap8 (by omega) (by omega)]
          refine append_bytes hp (xs := [byteI (pv br (5 * q) 5)]) (by simp [packB_len]; omega) hg hb (by simp) rfl (one_byte (by omega)) ?_
          intro v' h2 g1 b1
          refine ⟨q + 1, ⟨g1, by omega, by omega, ?_⟩, by omega⟩
          rw [packB_succ]
          simpa [fiveV] using b1
    · have e : q = (br.length + 4) / 5 := by omega
      simp (disch := omega) [q0, q4]
      refine callW_of (c568 _ (by simp [packB_len]; omega) h h' hp _ hg hb) ?_
      rintro v' h2 ⟨rfl, g2⟩
      simp [packP, packBody, ← e]
      exact g2

theorem c180 (v : Value) (X : Pan) (h : Heap) (hp : 0 < h.length) (hv : Vr h shPanel v X) (ok : OkP X) : ACall Gam 180 [v] h fun r h' => r = S (packP X) ∧ Grows h h' := by
  obtain ⟨W, H, br⟩ := X
  obtain ⟨s, rfl, hW, hH, hs⟩ := hv.panel
  obtain ⟨b2, o2, z, rfl, _, hm, hx, hc⟩ := hs.ints
  obtain ⟨qW, qH, qn, qb⟩ := ok
  have qi := inner_bd qW qH
  simp only at qW qH qn qb qi
  refine ACall_intro g180 rfl ?_
  unfold fn180
  simp (disch := omega)
  rw [three_bytes qW qH]
  simp
  have g0 : Grows h (h ++ [⟨bytesV [77, byteI W, byteI H], true⟩]) := ⟨_, rfl⟩
  refine awp_loop (fun q σ h' => Grows h h' ∧ 5 * q ≤ br.length + 4 ∧ σ 1 = .agg #[I W, I H, sl b2 o2 br.length z] ∧ σ 4 = I ((5 * q : Nat) : Int) ∧ Buf h h' (σ 3) 1 (bytesV ([77, byteI W, byteI H] ++ packB br q))) (fun q => br.length + 4 - 5 * q) 0 ?_ ?_
  · refine ⟨g0, by omega, by simp, by simp, ?_⟩
    simp [packB]
    exact .inr ⟨h.length, 3, rfl, by simp [bytesV], Nat.le_refl _, by simp⟩
  · rintro q σ h' ⟨hg, hq, q0, q4, hb⟩
    simp (disch := omega) [q0, q4]
    refine fork_dec (fun hlt => ?_) (fun hge => ?_)
    · simp (disch := omega) [q0, q4]
      refine awp_loop (fun j σ' h'' => h'' = h' ∧ j ≤ 5 ∧ σ' 1 = .agg #[I W, I H, sl b2 o2 br.length z] ∧ σ' 3 = σ 3 ∧ σ' 4 = I ((5 * q : Nat) : Int) ∧ σ' 6 = I ((5 * q + j : Nat) : Int) ∧ σ' 5 = U (pv br (5 * q) j)) (fun j => 5 - j) 0 ?_ ?_
      · simp [q0, q4, pv]
      · rintro j σ' h'' ⟨rfl, hj, p0, p3, p4, p6, p5⟩
        simp (disch := omega) [p4, p6, wrap64]
        refine fork_dec (fun hlt2 => ?_) (fun hge2 => ?_)
        · have hj4 : j ≤ 4 := by omega
          have hpv := pv_le qb (5 * q) j hj
          have hpv2 := pv_le qb (5 * q) (j + 1) (by omega)
          have e1 : pv br (5 * q) (j + 1) = 3 * pv br (5 * q) j + at0 br (5 * q + j) := rfl
          have ha := at0_bd qb (5 * q + j)
          simp (disch := omega) [p0, p5, p6, wrap64, wrap8]
          refine fork_dec (fun hlt3 => ?_) (fun hge3 => ?_)
          · have k1 : 5 * q + j < br.length := by omega
            have hcell := ints_cell (hc.imp id (grows_cellsAt hg)) k1
            have eat : at0 br (5 * q + j) = br[5 * q + j] := by simp [at0, k1]
            have et : (5 * (q : Int) + j).toNat = 5 * q + j := by omega
            have c1 : (0 : Int) ≤ 5 * q + j := by omega
            have c2 : 5 * (q : Int) + j < br.length := by omega
            simp (disch := omega) [p0, p5, p6, et, c1, c2, hcell, wrap64, p3, p4]
            refine ⟨j + 1, ⟨by omega, by omega, ?_⟩, by omega⟩
            rw [wrap8 (n := br[5 * q + j]) (by rw [← eat]; omega) (by rw [← eat]; omega), wrap8 (by rw [← eat]; omega) (by rw [← eat]; omega), e1, eat]; omega
          · have eat : at0 br (5 * q + j) = 0 := by
              unfold at0; rw [List.getD_eq_getElem?_getD, List.getElem?_eq_none (by omega)]; rfl
            simp (disch := omega) [p0, p5, p6, p3, p4, wrap64]
            exact ⟨j + 1, ⟨by omega, by omega, by omega⟩, by omega⟩
        · have : j = 5 := by omega
          subst this
          have hpv := pv_le qb (5 * q) 5 (by omega)
          simp (disch := omega) [p0, p5, p3, p4, wrap64]
          refine append_bytes hp (xs := [byteI (pv br (5 * q) 5)]) (by simp [packB_len]; omega) hg hb (by simp) rfl (one_byte (by omega)) ?_
          intro v' h2 g1 b1
          refine ⟨q + 1, ⟨g1, by omega, by omega, ?_⟩, by omega⟩
          rw [packB_succ]
          simpa [fiveV] using b1
    · have e : q = (br.length + 4) / 5 := by omega
      simp (disch := omega) [q0, q4]
      rw [text_buf hb]
      simp
      refine callW_of (c191 _ (by simp [packB_len]; omega) h') ?_
      rintro v' h2 ⟨rfl, g2⟩
      simp [packP, packBody, ← e]
      exact hg.trans g2

def packAnsP (X : Pan) : List UInt8 × Int := if okP X then (packP X, 0) else ([], 1)
end Am
/-! AmP5 -/
set_option linter.unusedVariables false
set_option linter.unusedSimpArgs false
set_option maxHeartbeats 4000000
namespace Am
open Go

def clash (o a b : List Int) (i : Nat) : Bool := decide (at0 a i ≠ at0 o i) && (decide (at0 b i ≠ at0 o i) && decide (at0 a i ≠ at0 b i))
def cpre (o a b : List Int) (n : Nat) : List Int := (List.range n).flatMap fun i => if clash o a b i then [(i : Int)] else []
def clashCode (X0 X1 X2 : Pan) : Int := if okP X0 && (okP X1 && okP X2) then (if sameSz X0 X1 && sameSz X0 X2 then 0 else 6) else 1
def clashAns (X0 X1 X2 : Pan) : List Int × Int := (if clashCode X0 X1 X2 = 0 then cpre X0.2.2 X1.2.2 X2.2.2 X0.2.2.length else [], clashCode X0 X1 X2)
end Am
/-! AmP6 -/
set_option linter.unusedVariables false
set_option linter.unusedSimpArgs false
set_option maxHeartbeats 4000000
namespace Am
open Go

def mpre (o a b : List Int) (n : Nat) : List Int := (List.range n).map fun i => if at0 b i = at0 o i then at0 a i else at0 b i
def mergeCode (X0 X1 X2 : Pan) : Int := if (clashAns X0 X1 X2).2 = 0 then (if (clashAns X0 X1 X2).1 = [] then 0 else 9) else (clashAns X0 X1 X2).2
def mergeAns (X0 X1 X2 : Pan) : Pan × Int := (if mergeCode X0 X1 X2 = 0 then (X1.1, X1.2.1, mpre X0.2.2 X1.2.2 X2.2.2 X0.2.2.length) else (0, 0, []), mergeCode X0 X1 X2)
end Am
/-! AmP9 -/
set_option linter.unusedVariables false
set_option linter.unusedSimpArgs false
set_option maxHeartbeats 4000000
set_option maxRecDepth 4000
namespace Am
open Go

/-! ### numbers written one by one -/
def fillB (f : Nat → Int) (P : Nat → Bool) (n : Nat) : List Int := (List.range n).map fun j => if P j then f j else 0
theorem fillB_len (f : Nat → Int) (P : Nat → Bool) (n : Nat) : (fillB f P n).length = n := by simp [fillB]
theorem fillB_set {f : Nat → Int} {P P' : Nat → Bool} {n k : Nat} (h : ∀ j, j < n → P' j = (P j || j == k)) : (fillB f P n).set k (f k) = fillB f P' n := by
  apply List.ext_getElem
  · simp [fillB]
  · intro i h1 h2
    simp [fillB] at h1 h2 ⊢
    rw [List.getElem_set]
    simp only [List.getElem_map, List.getElem_range]
    have := h i h2
    by_cases e : k = i
    · subst e; simp [this]
    · have e' : ¬ i = k := fun h => e h.symm
      simp [e, this, e']
theorem fillB_none (f : Nat → Int) (P : Nat → Bool) (n : Nat) (h : ∀ j, j < n → P j = false) : fillB f P n = List.replicate n 0 := by
  apply List.ext_getElem
  · simp [fillB]
  · intro i h1 h2
    simp [fillB] at h1 ⊢
    simp [h i h1]
theorem fillB_all (f : Nat → Int) (P : Nat → Bool) (n : Nat) (h : ∀ j, j < n → P j = true) : fillB f P n = (List.range n).map f := by
  apply List.map_congr_left
  intro i hi
  simp [h i (List.mem_range.1 hi)]
theorem fillB_same {f : Nat → Int} {P P' : Nat → Bool} {n : Nat} (h : ∀ j, j < n → P j = P' j) : fillB f P n = fillB f P' n := by
  apply List.map_congr_left
  intro i hi
  rw [h i (List.mem_range.1 hi)]
theorem store_fill {h : Heap} {b k n : Nat} {f : Nat → Int} {P P' : Nat → Bool} {v : Int} (hb : h[b]? = some ⟨ints (fillB f P n), true⟩) (hk : k < n) (hv : v = f k) (hp : ∀ j, j < n → P' j = (P j || j == k)) :
    storeAt h b k [I v] = some (h.set b ⟨ints (fillB f P' n), true⟩) := by
  rw [store_one hb (by simp [ints, fillB_len]; exact hk), ← fillB_set hp, hv]
  simp [ints, List.map_set]

/-! ### the bytes -/
def bn (s : List UInt8) (i : Nat) : Nat := (s.getD i 0).toNat
theorem bn_lt (s : List UInt8) (i : Nat) : bn s i < 256 := UInt8.toNat_lt _
theorem bn_at {s : List UInt8} {i : Nat} (h : i < s.length) : s[i]? = some s[i] ∧ s[i].toNat = bn s i := by simp [bn, h]
def dv (x j : Nat) : Nat := x / 3 ^ j
theorem dv_succ (x j : Nat) : dv x (j + 1) = dv x j / 3 := by unfold dv; rw [Nat.pow_succ, Nat.div_div_eq_div_mul]
theorem dv_zero (x : Nat) : dv x 0 = x := by simp [dv]
theorem dv_le (x j : Nat) : dv x j ≤ x := Nat.div_le_self _ _
def brk (s : List UInt8) (k : Nat) : Nat := dv (bn s (3 + k / 5)) (4 - k % 5) % 3
def unB (s : List UInt8) (n : Nat) : List Int := (List.range n).map fun k => ((brk s k : Nat) : Int)
def unP (s : List UInt8) : Pan := (bn s 1, bn s 2, unB s (inner (bn s 1) (bn s 2)).toNat)
theorem unP_ok {s : List UInt8} (h : okSz (bn s 1) (bn s 2) = true) : OkP (unP s) := by
  obtain ⟨hW, hH⟩ := okSz_iff.1 h
  have hi := inner_bd hW hH
  refine ⟨hW, hH, ?_, ?_⟩
  · simp [unP, unB]; omega
  · intro x hx
    obtain ⟨k, _, rfl⟩ := List.mem_map.1 hx
    have : brk s k < 3 := Nat.mod_lt _ (by decide)
    omega
def lenOk (s : List UInt8) : Bool := decide (5 ≤ s.length) && (okSz (bn s 1) (bn s 2) && decide ((s.length : Int) = packSize (bn s 1) (bn s 2)))
def unOk (s : List UInt8) : Bool := lenOk s && decide (packP (unP s) = s)
def sumOk (s : List UInt8) : Bool := decide (checksum (s.take (s.length - 2)) = 256 * (bn s (s.length - 2) : Int) + bn s (s.length - 1))
def fault (s : List UInt8) : Int := if s.length < 5 ∨ bn s 0 ≠ 77 ∨ okSz (bn s 1) (bn s 2) = false then 1 else if (s.length : Int) ≠ packSize (bn s 1) (bn s 2) then 2 else if sumOk s = false then 3 else if packP (unP s) ≠ s then 4 else 0

/-! ### the program's -/
def unRes (s : List UInt8) : Pan := if lenOk s then unP s else (0, 0, [])
theorem c195 (h : Heap) (hp : 0 < h.length) (s : List UInt8) (hs : s.length ≤ 1048576) : ACall Gam 195 [S s] h fun r h' => Grows h h' ∧ ∃ r0, r = .tuple #[r0, B (unOk s)] ∧ Vo h' h.length h'.length shPanel r0 (unRes s) := by
  refine ACall_intro g195 rfl ?_
  unfold fn195
  simp (disch := omega)
  refine fork_dec (fun h5 => ?_) (fun h5 => ?_)
  · have e : lenOk s = false := by simp [lenOk]; omega
    simp (disch := omega) [h5, resOf, resAll, resOne, aField, unOk, unRes, e]
    exact ⟨Grows.refl _, Vo.of_panel (by unfold I64; omega) (by unfold I64; omega) (Vo.of_ints (X := []) (.inr ⟨rfl, rfl⟩) (by simp) (by simp) (.inl rfl))⟩
  · have l1 : 1 < s.length := by omega
    have l2 : 2 < s.length := by omega
    obtain ⟨a1, a2⟩ := bn_at l1
    obtain ⟨b1, b2⟩ := bn_at l2
    have t1 := bn_lt s 1
    have t2 := bn_lt s 2
    have i1 : (1 : Int) < s.length := by omega
    have i2 : (2 : Int) < s.length := by omega
    simp (disch := omega) [h5, i1, i2, a1, b1, a2, b2, wrap64]
    refine callW_of (c198 (bn s 1) (bn s 2) h) ?_
    rintro _ h' ⟨rfl, rfl⟩
    cases q : okSz (bn s 1) (bn s 2)
    · have e : lenOk s = false := by simp [lenOk, q]
      simp (disch := omega) [resOf, resAll, resOne, aField, unOk, unRes, e]
      exact ⟨Grows.refl _, Vo.of_panel (by unfold I64; omega) (by unfold I64; omega) (Vo.of_ints (X := []) (.inr ⟨rfl, rfl⟩) (by simp) (by simp) (.inl rfl))⟩
    · obtain ⟨qW, qH⟩ := okSz_iff.1 q
      have hi := inner_bd qW qH
      simp (disch := omega) [h5, i1, i2, a1, b1, a2, b2, wrap64]
      refine callW_of (c181 (bn s 1) (bn s 2) qW qH h') ?_
      rintro _ h' ⟨rfl, rfl⟩
      simp (disch := omega)
      refine fork_dec (fun hl => ?_) (fun hl => ?_)
      rotate_left
      · have e : lenOk s = false := by simp [lenOk, hl]
        simp (disch := omega) [hl, resOf, resAll, resOne, aField, unOk, unRes, e]
        exact ⟨Grows.refl _, Vo.of_panel (by unfold I64; omega) (by unfold I64; omega) (Vo.of_ints (X := []) (.inr ⟨rfl, rfl⟩) (by simp) (by simp) (.inl rfl))⟩
      · have e : lenOk s = true := by simp [lenOk, q, hl]; omega
        simp (disch := omega) [i1, i2, a1, b1, a2, b2, wrap64]
        refine callW_of (c177 h' (bn s 1) (bn s 2) qW qH hp) ?_
        rintro _ h1 ⟨g1, o1⟩
        obtain ⟨so, rfl, w1, w2, o1⟩ := o1.panel
        obtain ⟨bb, zz, rfl, hz, hm, hx, hc⟩ := o1.ints
        obtain ⟨n, hn⟩ : ∃ n, n = (inner (bn s 1) (bn s 2)).toNat := ⟨_, rfl⟩
        rw [← hn] at hz hc ⊢
        simp only [List.length_replicate] at hc ⊢
        have hps : (s.length : Int) = 5 + (inner (bn s 1) (bn s 2) + 4) / 5 := hl
        have hlen : s.length = 5 + (n + 4) / 5 := by omega
        have hn112 : n ≤ 112 := by omega
        simp (disch := omega)
        refine awp_loop (fun k σ hh => k ≤ n ∧ Grows h' hh ∧ σ 0 = S s ∧ σ 2 = .agg #[I 0, I 0, sl 0 0 0 0] ∧ σ 4 = .agg #[I (bn s 1), I (bn s 2), sl bb 0 n zz] ∧ σ 42 = I n ∧ σ 43 = I k ∧ (n = 0 ∨ hh[bb]? = some ⟨ints (fillB (fun j => (brk s j : Nat)) (fun j => decide (j < k)) n), true⟩)) (fun k => n - k) 0 ?_ ?_
        · refine ⟨by omega, g1, by simp, by simp, by simp, by simp, by simp, ?_⟩
          rcases hc with hc | hc
          · left; simpa using hc
          · right; rw [fillB_none _ _ _ (by simp)]; exact hc.1
        · rintro k σ hh ⟨hk, hg, q0, q2, q4, q42, q43, hb⟩
          simp (disch := omega) [q42, q43]
          refine fork_dec (fun hlt => ?_) (fun hge => ?_)
          · have k1 : k < n := by omega
            have hb := hb.resolve_left (by omega)
            have hbb : h'.length ≤ bb := by
              rcases hc with hc | hc
              · simp at hc; omega
              · exact hc.2.1
            have lk : 3 + k / 5 < s.length := by omega
            obtain ⟨d1, d2⟩ := bn_at lk
            have t3 := bn_lt s (3 + k / 5)
            have ei : (3 + (k : Int) / 5).toNat = 3 + k / 5 := by omega
            have ec : 3 + (k : Int) / 5 < s.length := by omega
            have ec0 : 0 ≤ 3 + (k : Int) / 5 := by omega
            simp (disch := omega) [q0, q43, tdiv_pos, wrap64, tmod_pos, ei, ec, ec0, d1, d2]
            refine awp_loop (fun j σ' h'' => h'' = hh ∧ j ≤ 4 - k % 5 ∧ σ' 0 = S s ∧ σ' 2 = .agg #[I 0, I 0, sl 0 0 0 0] ∧ σ' 4 = .agg #[I (bn s 1), I (bn s 2), sl bb 0 n zz] ∧ σ' 5 = I k ∧ σ' 42 = I n ∧ σ' 43 = I k ∧ σ' 54 = I ((4 - k % 5 : Nat) : Int) ∧ σ' 55 = I j ∧ σ' 6 = I ((dv (bn s (3 + k / 5)) j : Nat) : Int)) (fun j => 4 - k % 5 - j) 0 ?_ ?_
            · simp [q0, q2, q4, q42, q43, dv_zero]; omega
            · rintro j σ' h'' ⟨rfl, hj, p0, p2, p4, p5, p42, p43, p54, p55, p6⟩
              simp (disch := omega) [p54, p55]
              refine fork_dec (fun hlt2 => ?_) (fun hge2 => ?_)
              · obtain ⟨x, hx⟩ : ∃ x, x = dv (bn s (3 + k / 5)) j := ⟨_, rfl⟩
                have hxl : x < 256 := by rw [hx]; exact Nat.lt_of_le_of_lt (dv_le _ _) t3
                rw [← hx] at p6
                simp (disch := omega) [p0, p2, p4, p5, p42, p43, p54, p55, p6, tdiv_pos, wrap64]
                refine ⟨j + 1, ⟨by omega, by omega, ?_⟩, by omega⟩
                rw [dv_succ, ← hx]; omega
              · have ej : j = 4 - k % 5 := by omega
                rw [ej] at p6
                obtain ⟨x, hx⟩ : ∃ x, x = dv (bn s (3 + k / 5)) (4 - k % 5) := ⟨_, rfl⟩
                have hxl : x < 256 := by rw [hx]; exact Nat.lt_of_le_of_lt (dv_le _ _) t3
                rw [← hx] at p6
                have hv : (x : Int) % 3 = ((brk s k : Nat) : Int) := by simp [brk, ← hx]
                have hst := store_fill (P' := fun j => decide (j < k + 1)) (v := (x : Int) % 3) hb k1 hv (by
                  intro j _
                  by_cases h1 : j < k
                  · simp [h1, show j < k + 1 by omega]
                  · by_cases h2 : j = k
                    · simp [h2]
                    · simp [h1, h2, show ¬ j < k + 1 by omega])
                simp (disch := omega) [p0, p2, p4, p5, p42, p43, p54, p55, p6, tmod_pos, k1, hst, wrap64]
                exact ⟨k + 1, ⟨by omega, hg.put hbb _, by omega, .inr (by simp [at_lt hb])⟩, by omega⟩
          · have ek : k = n := by omega
            subst ek
            have hu : unP s = (((bn s 1 : Nat) : Int), ((bn s 2 : Nat) : Int), unB s k) := by rw [hn]; rfl
            have hul : (unB s k).length = k := by simp [unB]
            have hfill : fillB (fun j => ((brk s j : Nat) : Int)) (fun j => decide (j < k)) k = unB s k := fillB_all _ _ _ fun j hj => by simp [hj]
            have ho : Vo hh h'.length hh.length shInts (sl bb 0 k zz) (unB s k) := by
              have := Vo.of_ints (h := hh) (b := bb) (lo := h'.length) (hi := hh.length) (z := zz) (X := unB s k) (by
                rcases hz with e | ⟨e, e'⟩
                · exact .inl e
                · have : k = 0 := by simpa using e'
                  exact .inr ⟨e, by rw [this]; rfl⟩) (by rw [hul, maxLen_eq]; omega) (by
                intro x hx
                obtain ⟨j, _, rfl⟩ := List.mem_map.1 hx
                have : brk s j < 3 := Nat.mod_lt _ (by decide)
                unfold I64; omega) (by
                rcases hb with e | e
                · exact .inl (by rw [e]; rfl)
                · rw [hfill] at e
                  by_cases hk0 : k = 0
                  · exact .inl (by rw [hk0]; rfl)
                  · refine .inr ⟨e, ?_, at_lt e⟩
                    rcases hc with hc | hc
                    · simp at hc; omega
                    · exact hc.2.1)
              rw [hul] at this
              exact this
            have hov := Vo.of_panel w1 w2 ho
            rw [← hu] at hov
            simp (disch := omega) [q0, q4]
            refine callW_of (c180 _ (unP s) hh (pos_of hp hg) hov.vr (unP_ok q)) ?_
            rintro _ h2 ⟨rfl, g2⟩
            refine ⟨fun _ => g2, ?_⟩
            have er : unRes s = unP s := by simp [unRes, e]
            have eo : unOk s = decide (packP (unP s) = s) := by simp [unOk, e]
            have hov2 := (hov.grow g2).wide (Nat.le_refl _) g2.le
            simp (disch := omega) [q0, q2, q4, resOf, resAll, resOne, aField, er, eo]
            exact ⟨hg.trans g2, hov2⟩

def unAns (s : List UInt8) : Pan × Int := if unOk s then (unP s, 0) else ((0, 0, []), 8)
theorem Vo.zero_panel {h : Heap} {lo hi : Nat} : Vo h lo hi shPanel (.agg #[I 0, I 0, sl 0 0 0 0]) ((0, 0, []) : Pan) := Vo.of_panel (by unfold I64; omega) (by unfold I64; omega) (Vo.of_ints (X := []) (.inr ⟨rfl, rfl⟩) (by simp) (by simp) (.inl rfl))
end Am

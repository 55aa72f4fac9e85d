/- Contracts: AmT3, AmC7, AmP1, AmP3, AmT4, AmT5, AmT6, AmP4, AmP7, AmP2, AmP5, AmP6, AmP9, AmP10, AmP11. -/
import Derived.Test.YtnklgbafjppgoaaAmK1
set_option linter.unusedVariables false
set_option linter.unusedSimpArgs false
set_option maxHeartbeats 4000000
set_option maxRecDepth 40000
namespace Am
open Go
abbrev Trip := Int × Int × Int
def trip (t : Trip) : List Value := [I t.1, I t.2.1, I t.2.2]
def trips (l : List Trip) : List Value := (l.map trip).flatten
def T64 (t : Trip) : Prop := I64 t.1 ∧ I64 t.2.1 ∧ I64 t.2.2
theorem trips_append (a b : List Trip) : trips (a ++ b) = trips a ++ trips b := by simp [trips]
theorem trips_cons (a : Trip) (b : List Trip) : trips (a :: b) = I a.1 :: I a.2.1 :: I a.2.2 :: trips b := by simp [trips, trip]
theorem trips_nil : trips [] = [] := rfl
theorem trips_len : ∀ l : List Trip, (trips l).length = 3 * l.length
 | [] => rfl
 | a :: l => by rw [trips_cons]; simp [trips_len l]; omega
theorem rd_trip {h : Heap} {c : List Value} {t : Trip} : Rd h shTrip c t ↔ c = trip t ∧ T64 t := by
 constructor
 ·rintro ⟨c1, c2, rfl, ⟨rfl, w1⟩, c3, c4, rfl, ⟨rfl, w2⟩, rfl, w3⟩
  exact ⟨rfl, wf_i64.1 w1, wf_i64.1 w2, wf_i64.1 w3⟩
 ·rintro ⟨rfl, w1, w2, w3⟩
  exact ⟨[I t.1], [I t.2.1, I t.2.2], rfl, ⟨rfl, wf_i64.2 w1⟩, [I t.2.1], [I t.2.2], rfl, ⟨rfl, wf_i64.2 w2⟩, rfl, wf_i64.2 w3⟩
theorem rd_trips {h : Heap} : ∀ {css : List (List Value)} {X : List Trip}, All2 (fun c y => Rd h shTrip c y) css X → css.flatten = trips X ∧ ∀ x ∈ X, T64 x
 | [], [], _ => by simp [trips]
 | c :: css, x :: X, r => by
  obtain ⟨e, w⟩ := rd_trip.1 r.1
  obtain ⟨h1, h2⟩ := rd_trips r.2
  refine ⟨by simp [e, h1, trips], fun y hy => ?_⟩
  rcases List.mem_cons.1 hy with rfl | hy
  ·exact w
  ·exact h2 y hy
theorem Vr.trips {h : Heap} {v : Value} {X : List Trip} (x : Vr h shTrips v X) : ∃ b o z, v = sl b o X.length z ∧ (z = 3 ∨ b = 0 ∧ X = []) ∧ X.length ≤ maxLen ∧ (∀ x ∈ X, T64 x) ∧ (X = [] ∨ cellsAt h b o (X.length * 3) = some (Am.trips X)) := by
 obtain ⟨cs, ⟨b, o, z, css, rfl, hz, hm, h1, h2⟩, rfl⟩ := x
 obtain ⟨e1, e2⟩ := rd_trips h1
 have h2' : X = [] ∨ cellsAt h b o (X.length * 3) = some css.flatten := h2
 rw [e1] at h2'
 exact ⟨b, o, z, rfl, hz, hm, e2, h2'⟩
theorem trips_get : ∀ (X : List Trip) (k : Nat) (hk : k < X.length), (trips X)[3 * k]? = some (I X[k].1) ∧ (trips X)[3 * k + 1]? = some (I X[k].2.1) ∧ (trips X)[3 * k + 2]? = some (I X[k].2.2)
 | [], k, hk => by simp at hk
 | x :: X, 0, _ => by rw [trips_cons]; simp
 | x :: X, k + 1, hk => by
  have := trips_get X k (by simpa using hk)
  rw [trips_cons]
  simpa [Nat.mul_add] using this
theorem trips_cell {h : Heap} {b o k : Nat} {X : List Trip} (hr : X = [] ∨ cellsAt h b o (X.length * 3) = some (trips X)) (hk : k < X.length) : cell h b (o + k * 3) = some (I X[k].1) ∧ cell h b (o + k * 3 + 1) = some (I X[k].2.1) ∧ cell h b (o + k * 3 + 2) = some (I X[k].2.2) := by
 rcases hr with h0 | hr
 ·subst h0; simp at hk
 ·have := trips_get X k hk
  have h1 := (cell_in (i := 3 * k) hr (by omega)).1
  have h2 := (cell_in (i := 3 * k + 1) hr (by omega)).1
  have h3 := (cell_in (i := 3 * k + 2) hr (by omega)).1
  rw [show o + k * 3 = o + 3 * k by omega]
  exact ⟨by rw [h1]; exact this.1, by rw [Nat.add_assoc, h2]; exact this.2.1, by rw [Nat.add_assoc, h3]; exact this.2.2⟩
theorem ow_trip {h : Heap} {c : List Value} {t : Trip} {bs : List Nat} : Ow h shTrip c t bs ↔ c = trip t ∧ T64 t ∧ bs = [] := by
 constructor
 ·rintro ⟨c1, c2, b1, b2, rfl, rfl, ⟨rfl, w1, rfl⟩, c3, c4, b3, b4, rfl, rfl, ⟨rfl, w2, rfl⟩, rfl, w3, rfl⟩
  exact ⟨rfl, ⟨wf_i64.1 w1, wf_i64.1 w2, wf_i64.1 w3⟩, rfl⟩
 ·rintro ⟨rfl, ⟨w1, w2, w3⟩, rfl⟩
  exact ⟨[I t.1], [I t.2.1, I t.2.2], [], [], rfl, rfl, ⟨rfl, wf_i64.2 w1, rfl⟩, [I t.2.1], [I t.2.2], [], [], rfl, rfl, ⟨rfl, wf_i64.2 w2, rfl⟩, rfl, wf_i64.2 w3, rfl⟩
theorem all3_trips (h : Heap) : ∀ (X : List Trip), (∀ x ∈ X, T64 x) → All3 (fun c y s => Ow h shTrip c y s) (X.map trip) X (X.map fun _ => [])
 | [], _ => trivial
 | x :: X, hx => ⟨ow_trip.2 ⟨rfl, hx x (by simp), rfl⟩, all3_trips h X fun y hy => hx y (by simp [hy])⟩
theorem Vo.of_trips {h : Heap} {b lo hi z : Nat} {X : List Trip} (hz : z = 3 ∨ b = 0 ∧ X = []) (hm : X.length ≤ maxLen) (hx : ∀ x ∈ X, T64 x) (hc : X = [] ∨ h[b]? = some ⟨Am.trips X, true⟩ ∧ lo ≤ b ∧ b < hi) : Vo h lo hi shTrips (sl b 0 X.length z) X := by
 refine ⟨[sl b 0 X.length z], if X = [] then [] else [b], ⟨b, z, X.map trip, X.map fun _ => [], rfl, hz, hm, all3_trips h X hx, ?_⟩, rfl, ?_, ?_⟩
 ·by_cases h0 : X = []
  ·exact .inl ⟨h0, by simp [h0]⟩
  ·exact .inr ⟨h0, by rw [if_neg h0, nils_flat], (hc.resolve_left h0).1⟩
 ·split <;> simp
 ·intro b' hb'
  by_cases h0 : X = []
  ·simp [h0] at hb'
  ·simp [h0] at hb'; subst hb'; exact (hc.resolve_left h0).2
theorem All3.trips {h : Heap} : ∀ {css : List (List Value)} {X : List Trip} {bss : List (List Nat)}, All3 (fun c y s => Ow h shTrip c y s) css X bss → css.flatten = Am.trips X ∧ (∀ x ∈ X, T64 x) ∧ bss.flatten = []
 | [], [], [], _ => by simp [Am.trips]
 | c :: css, x :: X, s :: bss, r => by
  obtain ⟨e, w, es⟩ := ow_trip.1 r.1
  obtain ⟨h1, h2, h3⟩ := All3.trips r.2
  refine ⟨by simp [e, h1, Am.trips], fun y hy => ?_, by simp [es, h3]⟩
  rcases List.mem_cons.1 hy with rfl | hy
  ·exact w
  ·exact h2 y hy
 | [], _ :: _, _, r => r.elim
 | [], [], _ :: _, r => r.elim
 | _ :: _, [], _, r => r.elim
 | _ :: _, _ :: _, [], r => r.elim
theorem Vo.trips {h : Heap} {lo hi : Nat} {v : Value} {X : List Trip} (x : Vo h lo hi shTrips v X) : ∃ b z, v = sl b 0 X.length z ∧ (z = 3 ∨ b = 0 ∧ X = []) ∧ X.length ≤ maxLen ∧ (∀ x ∈ X, T64 x) ∧ (X = [] ∨ h[b]? = some ⟨Am.trips X, true⟩ ∧ lo ≤ b ∧ b < hi) := by
 obtain ⟨cs, bs, ⟨b, z, css, bss, rfl, hz, hm, h1, h2⟩, rfl, _, hb⟩ := x
 obtain ⟨e1, e2, e3⟩ := All3.trips h1
 refine ⟨b, z, rfl, hz, hm, e2, ?_⟩
 rcases h2 with ⟨h2, _⟩ | ⟨_, h3, h4⟩
 ·exact .inl h2
 ·rw [e3] at h3; rw [e1] at h4
  exact .inr ⟨h4, hb b (by simp [h3])⟩
theorem Vr.trip {h : Heap} {v : Value} {t : Trip} (x : Vr h shTrip v t) : v = .agg #[I t.1, I t.2.1, I t.2.2] ∧ T64 t := by
 obtain ⟨cs, r, rfl⟩ := x
 obtain ⟨rfl, w⟩ := rd_trip.1 r
 exact ⟨rfl, w⟩
theorem siz_trips (X : List Trip) : siz shTrips X = X.length := by
 show X.length + (X.map fun _ => 0).sum = _
 rw [sum_zero]; rfl
theorem cvd_trips (X : List Trip) : cvd shTrips X = 3 * X.length := by
 show (X.map fun _ => 3).sum = _
 induction X with
 | nil => rfl
 | cons x X ih => simp [ih]; omega
def tnums (k n : Nat) : List Trip := (List.range n).map fun i => (((k + 3 * i : Nat) : Int), ((k + 3 * i + 1 : Nat) : Int), ((k + 3 * i + 2 : Nat) : Int))
theorem tnums_len (k n : Nat) : (tnums k n).length = n := by simp [tnums]
theorem tnums_succ (k n : Nat) : tnums k (n + 1) = tnums k n ++ [(((k + 3 * n : Nat) : Int), ((k + 3 * n + 1 : Nat) : Int), ((k + 3 * n + 2 : Nat) : Int))] := by simp [tnums, List.range_succ]
theorem mvd_trips : ∀ (X : List Trip) (k : Nat), mvd shTrips X k = tnums k X.length
 | [], k => rfl
 | x :: X, k => by
  refine (congrArg (List.cons (((k : Nat) : Int), ((k + 1 : Nat) : Int), ((k + 1 + 1 : Nat) : Int))) (mvd_trips X (k + 3))).trans ?_
  simp only [tnums, List.length_cons, List.range_succ_eq_map, List.map_cons, List.map_map]
  congr 1
  apply List.map_congr_left
  intro i _
  simp; omega
theorem tnums_64 {k n : Nat} (h : k + 3 * n ≤ 1099511627776) : ∀ x ∈ tnums k n, T64 x := by
 intro x hx
 obtain ⟨i, hi, rfl⟩ := List.mem_map.1 hx
 have := List.mem_range.1 hi
 unfold T64 I64; simp; omega
theorem pos_of {h h' : Heap} (hp : 0 < h.length) (g : Grows h h') : 0 < h'.length := Nat.lt_of_lt_of_le hp g.le
theorem cvd_le_shInts (X : List Int) : cvd shInts X ≤ 4 * siz shInts X := by rw [cvd_ints, siz_ints]; omega
@[simp] theorem nat_neg (n : Nat) : ((n : Int) < 0) = False := by simp
theorem all2_nil {α β : Type} {R : α → β → Prop} {vs : List β} (h : All2 R [] vs) : vs = [] := by cases vs with | nil => rfl | cons _ _ => exact h.elim
theorem all2_cons {α β : Type} {R : α → β → Prop} {a : α} {l : List α} {vs : List β} (h : All2 R (a :: l) vs) : ∃ v r, vs = v :: r ∧ R a v ∧ All2 R l r := by
 cases vs with
 | nil => exact h.elim
 | cons v r => exact ⟨v, r, rfl, h.1, h.2⟩
theorem ArgR.vr {h : Heap} {D : Shp} {v : Value} (x : ArgR h D v) : ∃ X, Vr h D v X := by obtain ⟨cs, X, r, e⟩ := x; exact ⟨X, cs, r, e⟩
theorem Vr.journal5 {h : Heap} {v : Value} {X : shJournal.T} (x : Vr h shJournal v X) : ∃ a b c d f, v = .agg #[a, b, c, d, f] := by
 obtain ⟨cs, r, rfl⟩ := x
 have hl := r.len
 match cs, hl with
 | [a, b, c, d, f], _ => exact ⟨a, b, c, d, f, rfl⟩
theorem ints_inj_nil {X : List Int} (h : ints X = []) : X = [] := by
 cases X with
 | nil => rfl
 | cons x X => cases h
theorem Buf.ints {h0 h : Heap} {v : Value} {X : List Int} (x : Buf h0 h v 1 (Am.ints X)) (hm : X.length ≤ maxLen) (hx : ∀ x ∈ X, I64 x) : Vo h h0.length h.length shInts v X := by
 rcases x with ⟨h1, rfl⟩ | ⟨b, n, rfl, h2, h3, h4⟩
 ·have := ints_inj_nil h1
  subst this
  exact Vo.of_ints (X := []) (.inl rfl) (by simp) (by simp) (.inl rfl)
 ·have : n = X.length := by simpa [Am.ints] using h2
  subst this
  exact Vo.of_ints (.inl rfl) hm hx (.inr ⟨h4, h3, at_lt h4⟩)
abbrev Pan := Int × Int × List Int
def okBr (b : Int) : Bool := inR b 0 2
def okP (X : Pan) : Bool := okSz X.1 X.2.1 && (decide ((X.2.2.length : Int) = inner X.1 X.2.1) && X.2.2.all okBr)
structure OkP (X : Pan) : Prop where
 w : 1 ≤ X.1 ∧ X.1 ≤ 8
 h : 1 ≤ X.2.1 ∧ X.2.1 ≤ 8
 n : (X.2.2.length : Int) = inner X.1 X.2.1
 b : ∀ x ∈ X.2.2, 0 ≤ x ∧ x ≤ 2
theorem okP_iff {X : Pan} : okP X = true ↔ OkP X := by
 unfold okP
 simp only [Bool.and_eq_true, okSz_iff, decide_eq_true_eq, List.all_eq_true, okBr, inR_iff]
 exact ⟨fun ⟨⟨a, b⟩, c, d⟩ => ⟨a, b, c, d⟩, fun ⟨a, b, c, d⟩ => ⟨⟨a, b⟩, c, d⟩⟩
/-- A pointer to a panel. -/
def PtP (h : Heap) (v : Value) (X : Pan) : Prop := ∃ b o s, v = pt b o ∧ cell h b o = some (I X.1) ∧ cell h b (o + 1) = some (I X.2.1) ∧ cell h b (o + 2) = some s ∧ Vr h shInts s X.2.2 ∧ I64 X.1 ∧ I64 X.2.1
theorem Grows.cell {h h' : Heap} (g : Grows h h') {b o : Nat} {v : Value} (x : Am.cell h b o = some v) : Am.cell h' b o = some v := by
 unfold Am.cell at *
 split at x
 ·rename_i k hk; rw [g.at hk]; exact x
 ·cases x
theorem PtP.grow {h h' : Heap} {v : Value} {X : Pan} (x : PtP h v X) (g : Grows h h') : PtP h' v X := by
 obtain ⟨b, o, s, e, h1, h2, h3, h4, h5⟩ := x
 exact ⟨b, o, s, e, g.cell h1, g.cell h2, g.cell h3, h4.grow g, h5⟩
theorem c449 (a : Int) (h : Heap) : ACall Gam 449 [I a] h fun v h' => v = B (okBr a) ∧ h' = h := by
 refine ACall_intro g449 rfl ?_
 unfold fn449
 simp (disch := omega)
 refine callW_of (c432 a 0 2 h) ?_
 rintro v h' ⟨rfl, rfl⟩
 simp [okBr]
theorem c196 (a : Int) (h : Heap) : ACall Gam 196 [I a] h fun v h' => v = B (okBr a) ∧ h' = h := by
 refine ACall_intro g196 rfl ?_
 unfold fn196
 simp (disch := omega)
 refine callW_of (c164 a 0 2 h) ?_
 rintro v h' ⟨rfl, rfl⟩
 simp [okBr]
theorem all_drop {α : Type} {p : α → Bool} {l : List α} {k : Nat} (hk : k < l.length) : (l.drop k).all p = (p l[k] && (l.drop (k + 1)).all p) := by
 rw [List.drop_eq_getElem_cons hk]; rfl
theorem c452 (v : Value) (X : Pan) (h : Heap) (hv : PtP h v X) : ACall Gam 452 [v] h fun r h' => r = B (okP X) ∧ h' = h := by
 obtain ⟨b, o, s, rfl, h1, h2, h3, hs, hW, hH⟩ := hv
 obtain ⟨W, H, br⟩ := X
 obtain ⟨b2, o2, z, rfl, _, hm, hx, hc⟩ := hs.ints
 rw [maxLen_eq] at hm
 have hm : br.length ≤ 9223372036854775807 := hm
 simp only at h1 h2
 refine ACall_intro g452 rfl ?_
 unfold fn452
 simp (disch := omega) [h1, h2, h3]
 refine callW_of (c457 W h) ?_
 rintro v h' ⟨rfl, rfl⟩
 cases hb : inR W 1 8
 ·simp [okP, okSz, hb]
 ·simp (disch := omega) [h1, h2, h3]
  refine callW_of (c457 H h') ?_
  rintro v h' ⟨rfl, rfl⟩
  cases hc' : inR H 1 8
  ·simp [okP, okSz, hb, hc']
  ·simp (disch := omega) [h1, h2, h3]
   have qW := inR_iff.1 hb
   have qH := inR_iff.1 hc'
   refine callW_of (c448 W H qW qH h') ?_
   rintro v h' ⟨rfl, rfl⟩
   refine ⟨fun _ => Grows.refl _, ?_⟩
   simp (disch := omega) [h1, h2, h3]
   refine fork_dec (fun hn => ?_) (fun hn => ?_)
   ·simp (disch := omega)
    refine awp_loop (fun k σ h'' => h'' = h' ∧ k ≤ br.length ∧ (br.drop k).all okBr = br.all okBr ∧ σ 0 = pt b o ∧ σ 3 = I k) (fun k => br.length - k) 0 ?_ ?_
    ·simp
    ·rintro k σ h'' ⟨rfl, hk, ht, q0, q3⟩
     simp (disch := omega) [q0, q3, h3]
     refine fork_dec (fun hlt => ?_) (fun hge => ?_)
     ·have k1 : k < br.length := by omega
      simp (disch := omega) [q0, q3, h3, k1, ints_cell hc k1]
      refine callW_of (c432 br[k] 0 2 _) ?_
      rintro v h' ⟨rfl, rfl⟩
      rw [all_drop k1] at ht
      have eb : inR br[k] 0 2 = okBr br[k] := rfl
      rw [eb]
      cases hbr : okBr br[k]
      ·rw [hbr] at ht
       simp [okP, okSz, hb, hc', hn, ← ht]
      ·rw [hbr] at ht
       simp (disch := omega) [q0, q3, wrap64]
       exact ⟨k + 1, ⟨by omega, by simpa using ht, by omega⟩, by omega⟩
     ·have : k = br.length := by omega
      subst this
      simp at ht
      simp [okP, okSz, hb, hc', hn]
      exact ht
   ·simp [okP, okSz, hb, hc', hn]
theorem c140 (v : Value) (X : Pan) (h : Heap) (hv : Vr h shPanel v X) : ACall Gam 140 [v] h fun r h' => r = B (okP X) ∧ h' = h := by
 obtain ⟨W, H, br⟩ := X
 obtain ⟨s, rfl, hW, hH, hs⟩ := hv.panel
 obtain ⟨b2, o2, z, rfl, _, hm, hx, hc⟩ := hs.ints
 rw [maxLen_eq] at hm
 refine ACall_intro g140 rfl ?_
 unfold fn140
 simp (disch := omega)
 refine callW_of (c198 W H h) ?_
 rintro v h' ⟨rfl, rfl⟩
 cases hb : okSz W H
 ·simp [okP, hb]
 ·obtain ⟨qW, qH⟩ := okSz_iff.1 hb
  simp (disch := omega)
  refine callW_of (c166 W H qW qH h') ?_
  rintro v h' ⟨rfl, rfl⟩
  simp (disch := omega)
  refine fork_dec (fun hn => ?_) (fun hn => ?_)
  ·simp (disch := omega)
   refine awp_loop (fun k σ h'' => h'' = h' ∧ k ≤ br.length ∧ (br.drop k).all okBr = br.all okBr ∧ σ 23 = sl b2 o2 br.length z ∧ σ 24 = I br.length ∧ σ 25 = I k) (fun k => br.length - k) 0 ?_ ?_
   ·simp
   ·rintro k σ h'' ⟨rfl, hk, ht, q0, q1, q3⟩
    simp (disch := omega) [q0, q1, q3]
    refine fork_dec (fun hlt => ?_) (fun hge => ?_)
    ·have k1 : k < br.length := by omega
     simp (disch := omega) [q0, q1, q3, k1, ints_cell hc k1]
     refine callW_of (c196 br[k] _) ?_
     rintro v h' ⟨rfl, rfl⟩
     rw [all_drop k1] at ht
     cases hbr : okBr br[k]
     ·rw [hbr] at ht
      simp [okP, hb, hn, ← ht]
     ·rw [hbr] at ht
      simp (disch := omega) [q0, q1, q3, wrap64]
      exact ⟨k + 1, ⟨by omega, by simpa using ht, by omega⟩, by omega⟩
    ·have : k = br.length := by omega
     subst this
     simp at ht
     simp [okP, hb, hn]
     exact ht
  ·simp [okP, hb, hn]
def at0 (br : List Int) (i : Nat) : Int := br.getD i 0
theorem at0_of {br : List Int} {i : Nat} (h : i < br.length) : at0 br i = br[i] := by simp [at0, h]
/-- A slice of numbers appended to an empty one: its own copy. -/
theorem own_ints {h : Heap} {v : Value} {X : List Int} {K : Value → Heap → Prop} (hp : 0 < h.length) (hv : Vr h shInts v X) (hs : X.length ≤ 1048576) (hK : ∀ v' h', Grows h h' → Vo h' h.length h'.length shInts v' X → K v' h') :
  bindW (aAppend 1 h v (sl 0 0 0 1)) K := by
 obtain ⟨b, o, z, rfl, hz, hm, hx, hc⟩ := hv.ints
 by_cases hX : X = []
 ·subst hX
  have e : aAppend 1 h (sl b o (List.length ([] : List Int)) z) (sl 0 0 0 1) = some (sl 0 0 0 1, h) := by simp [aAppend, newCells]
  rw [e]
  exact hK _ _ (Grows.refl _) (Vo.of_ints (X := []) (.inl rfl) (by simp) (by simp) (.inl rfl))
 ·have hc := hc.resolve_left hX
  have hne : X.length ≠ 0 := by simpa using hX
  refine append_buf hp (Grows.refl h) Buf.nil (new := ints X) ?_ (by omega) (by simpa [ints] using hX) (by simp [ints]) (by simp [ints, maxSize]; omega) ?_
  ·simp [newCells, hX, hc]
  ·intro v' h' g b1 _
   refine hK v' h' g ?_
   obtain ⟨b2, z2, rfl, hz2, _, _, hc2⟩ := (Buf.ints (by simpa using b1) hm hx).ints
   exact Vo.of_ints hz2 hm hx (hc2.imp id fun q => ⟨q.1, q.2.1, at_lt q.1⟩)
theorem c435 (h : Heap) (v : Value) (X : List Int) (hp : 0 < h.length) (hv : Vr h shInts v X) (hs : X.length ≤ 1048576) : ACall Gam 435 [v] h fun r h' => Grows h h' ∧ Vo h' h.length h'.length shInts r X := by
 refine ACall_intro g435 rfl ?_
 unfold fn435
 simp (disch := omega)
 refine own_ints hp hv hs fun v' h' g o => ?_
 obtain ⟨b, z, e, _⟩ := o.ints
 subst e
 exact ⟨g, o⟩
theorem c308 (h : Heap) (v : Value) (X : List Int) (hp : 0 < h.length) (hv : Vr h shInts v X) (hs : X.length ≤ 1048576) : ACall Gam 308 [v] h fun r h' => Grows h h' ∧ Vo h' h.length h'.length shInts r X := by
 have hv0 := hv
 obtain ⟨b, o, z, rfl, hz, hm, hx, hc⟩ := hv.ints
 refine ACall_intro g308 rfl ?_
 unfold fn308
 simp (disch := omega)
 refine fork_intro (fun hn => ?_) (fun hn => ?_)
 ·simp at hn
  rcases hz with hz | ⟨_, rfl⟩
  ·omega
  ·simp
   exact ⟨Grows.refl _, Vo.of_ints (X := []) (.inr ⟨rfl, rfl⟩) (by simp) (by simp) (.inl rfl)⟩
 ·simp (disch := omega)
  refine own_ints hp hv0 hs fun v' h' g o => ?_
  obtain ⟨b, z, e, _⟩ := o.ints
  subst e
  exact ⟨g, o⟩
theorem c453 (h : Heap) (v : Value) (X : Pan) (hp : 0 < h.length) (hv : PtP h v X) (hs : X.2.2.length ≤ 1048576) : ACall Gam 453 [v] h fun r h' => Grows h h' ∧ Vo h' h.length h'.length shPanel r X := by
 obtain ⟨b, o, s, rfl, h1, h2, h3, hvs, hW, hH⟩ := hv
 obtain ⟨W, H, br⟩ := X
 refine ACall_intro g453 rfl ?_
 unfold fn453
 simp (disch := omega) [h1, h2, h3]
 refine callW_of (c435 _ _ br hp hvs hs) ?_
 rintro v' h' ⟨g, ov⟩
 refine ⟨fun _ => g, ?_⟩
 obtain ⟨b, z, e, _⟩ := ov.ints
 subst e
 simp (disch := omega) [resOf_box, aField]
 exact ⟨g, Vo.of_panel hW hH ov⟩
theorem c150 (h : Heap) (v : Value) (X : Pan) (hp : 0 < h.length) (hv : Vr h shPanel v X) (hs : X.2.2.length ≤ 1048576) : ACall Gam 150 [v] h fun r h' => Grows h h' ∧ Vo h' h.length h'.length shPanel r X := by
 obtain ⟨W, H, br⟩ := X
 obtain ⟨s, rfl, hW, hH, hvs⟩ := hv.panel
 refine ACall_intro g150 rfl ?_
 unfold fn150
 simp (disch := omega)
 refine callW_of (c308 _ _ br hp hvs hs) ?_
 rintro v' h' ⟨g, ov⟩
 obtain ⟨b, z, e, _⟩ := ov.ints
 subst e
 simp (disch := omega) [resOf_box, aField]
 exact ⟨g, Vo.of_panel hW hH ov⟩
theorem reps_ints (n : Nat) : reps n [I 0] = ints (List.replicate n 0) := by
 induction n with
 | zero => rfl
 | succ n ih => rw [reps_succ, ih, List.replicate_succ]; rfl
abbrev Pan3 := Int × Int × List Int
abbrev Jrn := Pan3 × List Trip × List Trip
theorem Rd.one {h : Heap} {a : Shp} {cs : List Value} {X : List a.T} (r : Rd h (.slice a) cs X) : ∃ s, cs = [s] := by
 have := r.len
 match cs, this with
 | [s], _ => exact ⟨s, rfl⟩
theorem Vr.journal {h : Heap} {v : Value} {W H : Int} {br : List Int} {p f : List Trip} (x : Vr h shJournal v ((W, H, br), p, f)) : ∃ s sp sf, v = .agg #[I W, I H, s, sp, sf] ∧ I64 W ∧ I64 H ∧ Vr h shInts s br ∧ Vr h shTrips sp p ∧ Vr h shTrips sf f := by
 obtain ⟨cs, ⟨c1, c2, rfl, ⟨c3, c4, rfl, ⟨rfl, w1⟩, c5, c6, rfl, ⟨rfl, w2⟩, r1⟩, c7, c8, rfl, r2, r3⟩, rfl⟩ := x
 obtain ⟨s, rfl⟩ := Rd.one r1
 obtain ⟨sp, rfl⟩ := Rd.one r2
 obtain ⟨sf, rfl⟩ := Rd.one r3
 exact ⟨s, sp, sf, rfl, wf_i64.1 w1, wf_i64.1 w2, ⟨_, r1, rfl⟩, ⟨_, r2, rfl⟩, ⟨_, r3, rfl⟩⟩
/-- The blocks from l on, before u: none, or within these bounds. -/
def Sub2 (lo hi l u : Nat) : Prop := l = u ∨ lo ≤ l ∧ u ≤ hi
theorem Mod.sub {l u lo hi : Nat} {h h' : Heap} (m : Mod l u h h') (s : Sub2 lo hi l u) : Mod lo hi h h' :=
 ⟨m.1, fun b hb hn => m.2 b hb (by rcases s with s | s <;> omega)⟩
theorem iv_ints {h : Heap} {cs : List Value} {X : List Int} {bs : List Nat} (r : Ow h shInts cs X bs) : ∃ s l u, cs = [s] ∧ Vo h l u shInts s X ∧ (bs = [] ∧ l = 0 ∧ u = 0 ∨ bs = [l] ∧ u = l + 1) := by
 obtain ⟨b, z, css, bss, rfl, hz, hm, h1, h2⟩ := r
 obtain ⟨e1, e2, e3⟩ := All3.ints h1
 rcases h2 with ⟨h2, h3⟩ | ⟨h2, h3, h4⟩
 ·exact ⟨_, 0, 0, rfl, Vo.of_ints hz hm e2 (.inl h2), .inl ⟨h3, rfl, rfl⟩⟩
 ·rw [e3] at h3; rw [e1] at h4
  exact ⟨_, b, b + 1, rfl, Vo.of_ints hz hm e2 (.inr ⟨h4, by omega, by omega⟩), .inr ⟨h3, rfl⟩⟩
theorem iv_trips {h : Heap} {cs : List Value} {X : List Trip} {bs : List Nat} (r : Ow h shTrips cs X bs) : ∃ s l u, cs = [s] ∧ Vo h l u shTrips s X ∧ (bs = [] ∧ l = 0 ∧ u = 0 ∨ bs = [l] ∧ u = l + 1) := by
 obtain ⟨b, z, css, bss, rfl, hz, hm, h1, h2⟩ := r
 obtain ⟨e1, e2, e3⟩ := All3.trips h1
 rcases h2 with ⟨h2, h3⟩ | ⟨h2, h3, h4⟩
 ·exact ⟨_, 0, 0, rfl, Vo.of_trips hz hm e2 (.inl h2), .inl ⟨h3, rfl, rfl⟩⟩
 ·rw [e3] at h3; rw [e1] at h4
  exact ⟨_, b, b + 1, rfl, Vo.of_trips hz hm e2 (.inr ⟨h4, by omega, by omega⟩), .inr ⟨h3, rfl⟩⟩
/-- Apart. -/
def Dis (l u l' u' : Nat) : Prop := u ≤ l' ∨ u' ≤ l
theorem Vo.journal {h : Heap} {lo hi : Nat} {v : Value} {W H : Int} {br : List Int} {p f : List Trip} (x : Vo h lo hi shJournal v ((W, H, br), p, f)) : ∃ s sp sf l1 u1 l2 u2 l3 u3, v = .agg #[I W, I H, s, sp, sf] ∧ I64 W ∧ I64 H ∧
  Vo h l1 u1 shInts s br ∧ Vo h l2 u2 shTrips sp p ∧ Vo h l3 u3 shTrips sf f ∧ Sub2 lo hi l1 u1 ∧ Sub2 lo hi l2 u2 ∧ Sub2 lo hi l3 u3 ∧ Dis l1 u1 l2 u2 ∧ Dis l1 u1 l3 u3 ∧ Dis l2 u2 l3 u3 := by
 obtain ⟨cs, bs, ⟨c1, c2, b1, b2, rfl, rfl, ⟨c3, c4, b3, b4, rfl, rfl, ⟨rfl, w1, rfl⟩, c5, c6, b5, b6, rfl, rfl, ⟨rfl, w2, rfl⟩, r1⟩, c7, c8, b7, b8, rfl, rfl, r2, r3⟩, rfl, nd, hb⟩ := x
 obtain ⟨s, l1, u1, rfl, o1, q1⟩ := iv_ints r1
 obtain ⟨sp, l2, u2, rfl, o2, q2⟩ := iv_trips r2
 obtain ⟨sf, l3, u3, rfl, o3, q3⟩ := iv_trips r3
 refine ⟨s, sp, sf, l1, u1, l2, u2, l3, u3, rfl, wf_i64.1 w1, wf_i64.1 w2, o1, o2, o3, ?_, ?_, ?_, ?_, ?_, ?_⟩
 all_goals
  (first | unfold Sub2 | unfold Dis) <;>
  rcases q1 with ⟨rfl, rfl, rfl⟩ | ⟨rfl, rfl⟩ <;> rcases q2 with ⟨rfl, rfl, rfl⟩ | ⟨rfl, rfl⟩ <;> rcases q3 with ⟨rfl, rfl, rfl⟩ | ⟨rfl, rfl⟩ <;> simp at nd hb <;> omega
theorem Vo.of_journal {h : Heap} {lo hi l1 u1 l2 u2 l3 u3 : Nat} {W H : Int} {br : List Int} {p f : List Trip} {s sp sf : Value} (h1 : I64 W) (h2 : I64 H) (r1 : Vo h l1 u1 shInts s br) (r2 : Vo h l2 u2 shTrips sp p) (r3 : Vo h l3 u3 shTrips sf f)
  (s1 : Sub2 lo hi l1 u1) (s2 : Sub2 lo hi l2 u2) (s3 : Sub2 lo hi l3 u3) (d1 : Dis l1 u1 l2 u2) (d2 : Dis l1 u1 l3 u3) (d3 : Dis l2 u2 l3 u3) : Vo h lo hi shJournal (.agg #[I W, I H, s, sp, sf]) ((W, H, br), p, f) := by
 obtain ⟨_, b1, r1, rfl, n1, k1⟩ := r1
 obtain ⟨_, b2, r2, rfl, n2, k2⟩ := r2
 obtain ⟨_, b3, r3, rfl, n3, k3⟩ := r3
 obtain ⟨s, rfl⟩ := Rd.one r1.rd
 obtain ⟨sp, rfl⟩ := Rd.one r2.rd
 obtain ⟨sf, rfl⟩ := Rd.one r3.rd
 refine ⟨[I W, I H, s, sp, sf], b1 ++ (b2 ++ b3), ⟨[I W, I H, s], [sp, sf], b1, b2 ++ b3, rfl, rfl, ⟨[I W], [I H, s], [], b1, rfl, rfl, ⟨rfl, wf_i64.2 h1, rfl⟩, [I H], [s], [], b1, rfl, rfl, ⟨rfl, wf_i64.2 h2, rfl⟩, r1⟩, [sp], [sf], b2, b3, rfl, rfl, r2, r3⟩, rfl, ?_, ?_⟩
 ·rw [List.nodup_append, List.nodup_append]
  refine ⟨n1, ⟨n2, n3, fun a ha b hb e => ?_⟩, fun a ha b hb e => ?_⟩
  ·subst e
   have := k2 a ha; have := k3 a hb
   unfold Dis at d3; omega
  ·subst e
   have := k1 a ha
   unfold Dis at d1 d2
   rcases List.mem_append.1 hb with hb | hb
   ·have := k2 a hb; omega
   ·have := k3 a hb; omega
 ·intro b hb
  unfold Sub2 at s1 s2 s3
  rcases List.mem_append.1 hb with hb | hb
  ·have := k1 b hb; omega
  ·rcases List.mem_append.1 hb with hb | hb
   ·have := k2 b hb; omega
   ·have := k3 b hb; omega
theorem siz_journal (W H : Int) (br : List Int) (p f : List Trip) : siz shJournal ((W, H, br), p, f) = br.length + (p.length + f.length) := by
 show siz shPanel (W, H, br) + (siz shTrips p + siz shTrips f) = _
 rw [siz_panel, siz_trips, siz_trips]
theorem cvd_journal (W H : Int) (br : List Int) (p f : List Trip) : cvd shJournal ((W, H, br), p, f) = br.length + (3 * p.length + 3 * f.length) := by
 show cvd shPanel (W, H, br) + (cvd shTrips p + cvd shTrips f) = _
 rw [cvd_panel, cvd_trips, cvd_trips]
theorem mvd_journal (W H : Int) (br : List Int) (p f : List Trip) (k : Nat) : mvd shJournal ((W, H, br), p, f) k = ((W, H, nums k br.length), tnums (k + br.length) p.length, tnums (k + br.length + 3 * p.length) f.length) := by
 show (mvd shPanel (W, H, br) k, mvd shTrips p (k + cvd shPanel (W, H, br)), mvd shTrips f (k + cvd shPanel (W, H, br) + cvd shTrips p)) = _
 rw [mvd_panel, mvd_trips, mvd_trips, cvd_panel, cvd_trips]
theorem cvd_le_shJournal (X : shJournal.T) : cvd shJournal X ≤ 4 * siz shJournal X := by
 obtain ⟨⟨W, H, br⟩, p, f⟩ := X
 rw [cvd_journal, siz_journal]; omega
theorem to_tripJ {g : Nat} (hg : Gam g = some fn299) : ToOk g shTrip := by
 rintro h v ⟨(x : Int), (y : Int), (z : Int)⟩ hp hv hs
 obtain ⟨rfl, w⟩ := hv.trip
 refine ACall_intro hg rfl ?_
 unfold fn299
 simp (disch := omega) [resOf_box, aField]
 exact ⟨Grows.refl _, _, [], ow_trip.2 ⟨rfl, w, rfl⟩, rfl, by simp, by simp⟩
theorem eq_tripJ {g : Nat} (hg : Gam g = some fn261) : EqTrue g shTrip := by
 rintro h v w ⟨(x : Int), (y : Int), (z : Int)⟩ hv hw
 obtain ⟨rfl, _⟩ := hv.trip
 obtain ⟨rfl, _⟩ := hw.trip
 refine ACall_intro hg rfl ?_
 unfold fn261
 simp (disch := omega)
theorem sz_tripsJ {g : Nat} (hg : Gam g = some fn292) : SzOk g shTrips := by
 intro h v (X : List Trip) left hv hl
 obtain ⟨b, o, zz, rfl, hzz, hm, hx, hc⟩ := hv.trips
 rw [maxLen_eq] at hm
 refine ACall_intro hg rfl ?_
 unfold fn292
 simp (disch := omega) [wrap64]
 rw [siz_trips]
 refine fork_dec (fun h1 => ?_) (fun h1 => ?_)
 ·rw [if_neg (by omega)]; simp
 ·rw [if_pos (by omega)]; simp; omega
theorem mark_tripsJ {g : Nat} (hg : Gam g = some fn284) : MarkOk g shTrips := by
 intro h lo hi v (X : List Trip) k hv hk
 obtain ⟨bb, zz, rfl, hzz, hm, hx, hc⟩ := hv.trips
 rw [cvd_trips] at hk
 rw [cvd_trips, mvd_trips]
 refine ACall_intro hg rfl ?_
 unfold fn284
 simp (disch := omega)
 refine awp_loop (fun i σ h' => i ≤ X.length ∧ Mod lo hi h h' ∧ σ 0 = sl bb 0 X.length zz ∧ σ 1 = I ((k + 3 * i : Nat) : Int) ∧ σ 5 = I i ∧ (X = [] ∨ h'[bb]? = some ⟨trips (tnums k i ++ X.drop i), true⟩)) (fun i => X.length - i) 0 ?_ ?_
 ·exact ⟨by omega, Mod.refl _ _ _, by simp, by simp, by simp, by
   rcases hc with hc | hc
   ·exact .inl hc
   ·exact .inr (by simpa [tnums] using hc.1)⟩
 ·rintro i σ h' ⟨hi', hmd, h0, h1, h5, hb⟩
  simp (disch := omega) [h0, h5]
  refine fork_dec (fun hlt => ?_) (fun hge => ?_)
  ·have hlt : i < X.length := by omega
   have hne : X ≠ [] := by intro e; subst e; simp at hlt
   have hb := hb.resolve_left hne
   have hc := hc.resolve_left hne
   have hA : (trips (tnums k i)).length = 3 * i := by rw [trips_len, tnums_len]
   have hL := at_lt hb
   rw [List.drop_eq_getElem_cons hlt, trips_append, trips_cons] at hb
   have s1 := store_one (v := I ((k : Int) + 3 * i)) (o := i * 3) hb (by rw [List.length_append, hA]; simp; omega)
   rw [set_end (by omega)] at s1
   have hb2 : (h'.set bb ⟨trips (tnums k i) ++ I ((k : Int) + 3 * i) :: I X[i].2.1 :: I X[i].2.2 :: trips (X.drop (i + 1)), true⟩)[bb]? = some ⟨trips (tnums k i) ++ I ((k : Int) + 3 * i) :: I X[i].2.1 :: I X[i].2.2 :: trips (X.drop (i + 1)), true⟩ := by simp [hL]
   have s2 := store_one (v := I ((k : Int) + 3 * i + 1)) (o := i * 3 + 1) hb2 (by rw [List.length_append, hA]; simp; omega)
   rw [show trips (tnums k i) ++ I ((k : Int) + 3 * i) :: I X[i].2.1 :: I X[i].2.2 :: trips (X.drop (i + 1)) = (trips (tnums k i) ++ [I ((k : Int) + 3 * i)]) ++ I X[i].2.1 :: I X[i].2.2 :: trips (X.drop (i + 1)) by simp, set_end (by simp; omega), List.set_set] at s2
   have hb3 : (h'.set bb ⟨(trips (tnums k i) ++ [I ((k : Int) + 3 * i)]) ++ I ((k : Int) + 3 * i + 1) :: I X[i].2.2 :: trips (X.drop (i + 1)), true⟩)[bb]? = some ⟨(trips (tnums k i) ++ [I ((k : Int) + 3 * i)]) ++ I ((k : Int) + 3 * i + 1) :: I X[i].2.2 :: trips (X.drop (i + 1)), true⟩ := by simp [hL]
   have s3 := store_one (v := I ((k : Int) + 3 * i + 2)) (o := i * 3 + 2) hb3 (by simp; omega)
   rw [show (trips (tnums k i) ++ [I ((k : Int) + 3 * i)]) ++ I ((k : Int) + 3 * i + 1) :: I X[i].2.2 :: trips (X.drop (i + 1)) = (trips (tnums k i) ++ [I ((k : Int) + 3 * i), I ((k : Int) + 3 * i + 1)]) ++ I X[i].2.2 :: trips (X.drop (i + 1)) by simp, set_end (by simp; omega), List.set_set] at s3
   rw [show trips (tnums k i) ++ I ((k : Int) + 3 * i) :: I X[i].2.1 :: I X[i].2.2 :: trips (X.drop (i + 1)) = (trips (tnums k i) ++ [I ((k : Int) + 3 * i)]) ++ I X[i].2.1 :: I X[i].2.2 :: trips (X.drop (i + 1)) by simp] at s1
   rw [show (trips (tnums k i) ++ [I ((k : Int) + 3 * i)]) ++ I ((k : Int) + 3 * i + 1) :: I X[i].2.2 :: trips (X.drop (i + 1)) = (trips (tnums k i) ++ [I ((k : Int) + 3 * i), I ((k : Int) + 3 * i + 1)]) ++ I X[i].2.2 :: trips (X.drop (i + 1)) by simp] at s2
   generalize hR1 : (trips (tnums k i) ++ [I ((k : Int) + 3 * i)]) ++ I X[i].2.1 :: I X[i].2.2 :: trips (X.drop (i + 1)) = R1 at s1 s2
   generalize hR2 : (trips (tnums k i) ++ [I ((k : Int) + 3 * i), I ((k : Int) + 3 * i + 1)]) ++ I X[i].2.2 :: trips (X.drop (i + 1)) = R2 at s2 s3
   have e1 : (k : Int) + 3 * i + 1 + 1 = (k : Int) + 3 * i + 2 := by omega
   simp (disch := omega) [h0, h1, h5, hlt, s1, wrap64]
   simp (disch := omega) [h0, h1, h5, hlt, s2, wrap64, e1]
   simp (disch := omega) [h0, h1, h5, hlt, s3, wrap64]
   refine ⟨i + 1, ⟨by omega, hmd.put hc.2 _, by omega, by omega, .inr ?_⟩, by omega⟩
   rw [tnums_succ]
   simp [trips_append, trips_cons, trips_nil, hL]
  ·have e : i = X.length := by omega
   subst e
   simp (disch := omega) [h0, h1, h5]
   refine ⟨hmd, ?_⟩
   have := Vo.of_trips (h := h') (b := bb) (lo := lo) (hi := hi) (X := tnums k X.length) (hzz.imp id fun e => ⟨e.1, by rw [e.2]; rfl⟩) (by rw [tnums_len]; exact hm) (tnums_64 hk) (by
    rcases hb with hb | hb
    ·subst hb; exact .inl rfl
    ·by_cases hX : X = []
     ·subst hX; exact .inl rfl
     ·exact .inr ⟨by simpa using hb, (hc.resolve_left hX).2⟩)
   rw [tnums_len] at this
   exact this
theorem to_tripsJ {f g : Nat} (hf : Gam f = some fn299) (hg : Gam g = some (toSF 3 7 #[I 0, I 0, I 0] f)) : ToOk g shTrips := toS_ok hg rfl ⟨by decide, rfl⟩ rfl (to_tripJ hf)
theorem eq_tripsJ {f g : Nat} (hf : Gam f = some fn261) (hg : Gam g = some (eqSF 3 7 f)) : EqTrue g shTrips := eqS_ok hg rfl ⟨by decide, rfl⟩ (eq_tripJ hf)
theorem c292J : SzOk 292 shTrips := sz_tripsJ (show Gam 292 = some fn292 from g292)
theorem c300J : ToOk 300 shTrips := to_tripsJ (show Gam 299 = some fn299 from g299) g300
theorem c262J : EqTrue 262 shTrips := eq_tripsJ (show Gam 261 = some fn261 from g261) g262
theorem c284J : MarkOk 284 shTrips := mark_tripsJ (show Gam 284 = some fn284 from g284)
theorem c291J : SzOk 291 shJournal := by
 rintro h v ⟨⟨(W : Int), (H : Int), (br : List Int)⟩, (p : List Trip), (f : List Trip)⟩ left hv hl
 obtain ⟨s, sp, sf, rfl, w1, w2, r1, r2, r3⟩ := hv.journal
 rw [siz_journal]
 have rp : Vr h shPanel (.agg #[I W, I H, s]) (W, H, br) := Vr.of_panel w1 w2 r1
 refine ACall_intro g291 rfl ?_
 unfold fn291
 simp (disch := omega)
 refine callW_of (c295 _ _ (W, H, br) left rp hl) ?_
 rintro v h' ⟨rfl, rfl⟩
 rw [siz_panel]
 by_cases h1 : br.length ≤ left
 rotate_left
 ·rw [if_neg h1, if_neg (by omega)]; simp
 rw [if_pos h1]
 obtain ⟨l1, e1⟩ : ∃ k, k = left - br.length := ⟨_, rfl⟩
 rw [← e1]
 simp (disch := omega)
 refine callW_of (c292J _ _ p l1 r2 (by omega)) ?_
 rintro v h' ⟨rfl, rfl⟩
 rw [siz_trips]
 by_cases h2 : p.length ≤ l1
 rotate_left
 ·rw [if_neg h2, if_neg (by omega)]; simp
 rw [if_pos h2]
 obtain ⟨l2, e2⟩ : ∃ k, k = l1 - p.length := ⟨_, rfl⟩
 rw [← e2]
 simp (disch := omega)
 refine callW_of (c292J _ _ f l2 r3 (by omega)) ?_
 rintro v h' ⟨rfl, rfl⟩
 rw [siz_trips]
 by_cases h3 : f.length ≤ l2
 rotate_left
 ·rw [if_neg h3, if_neg (by omega)]; simp
 rw [if_pos h3, if_pos (by omega)]
 have e3 : l2 - f.length = left - (br.length + (p.length + f.length)) := by omega
 rw [e3]
 obtain ⟨l3, e4⟩ : ∃ k, k = left - (br.length + (p.length + f.length)) := ⟨_, rfl⟩
 rw [← e4]
 simp (disch := omega)
theorem c298J : ToOk 298 shJournal := by
 rintro h v ⟨⟨(W : Int), (H : Int), (br : List Int)⟩, (p : List Trip), (f : List Trip)⟩ hp hv hs
 obtain ⟨s, sp, sf, rfl, w1, w2, r1, r2, r3⟩ := hv.journal
 rw [siz_journal] at hs
 have rp : Vr h shPanel (.agg #[I W, I H, s]) (W, H, br) := Vr.of_panel w1 w2 r1
 refine ACall_intro g298 rfl ?_
 unfold fn298
 simp (disch := omega)
 refine callW_of (c303 _ _ (W, H, br) hp rp (by rw [siz_panel]; omega)) ?_
 rintro v h1 ⟨hg1, o1⟩
 obtain ⟨s', rfl, _, _, o1⟩ := o1.panel
 simp (disch := omega)
 refine callW_of (c300J _ _ p (pos_of hp hg1) (r2.grow hg1) (by rw [siz_trips]; omega)) ?_
 rintro v h2 ⟨hg2, o2⟩
 obtain ⟨b2, z2, e2, _⟩ := o2.trips
 subst e2
 simp (disch := omega)
 refine callW_of (c300J _ _ f (pos_of hp (hg1.trans hg2)) ((r3.grow hg1).grow hg2) (by rw [siz_trips]; omega)) ?_
 rintro v h3 ⟨hg3, o3⟩
 obtain ⟨b3, z3, e3, _⟩ := o3.trips
 subst e3
 have := hg1.le; have := hg2.le; have := hg3.le
 simp (disch := omega) [resOf_box, aField]
 refine ⟨(hg1.trans hg2).trans hg3, Vo.of_journal w1 w2 ((o1.grow hg2).grow hg3) (o2.grow hg3) o3 ?_ ?_ ?_ ?_ ?_ ?_⟩ <;> ((first | unfold Sub2 | unfold Dis) <;> omega)
theorem c260J : EqTrue 260 shJournal := by
 rintro h v w ⟨⟨(W : Int), (H : Int), (br : List Int)⟩, (p : List Trip), (f : List Trip)⟩ hv hw
 obtain ⟨s, sp, sf, rfl, w1, w2, r1, r2, r3⟩ := hv.journal
 obtain ⟨s', sp', sf', rfl, _, _, r1', r2', r3'⟩ := hw.journal
 refine ACall_intro g260 rfl ?_
 unfold fn260
 simp (disch := omega)
 refine callW_of (c265 _ _ _ (W, H, br) (Vr.of_panel w1 w2 r1) (Vr.of_panel w1 w2 r1')) ?_
 rintro v h' ⟨rfl, rfl⟩
 simp (disch := omega)
 refine callW_of (c262J _ _ _ p r2 r2') ?_
 rintro v h' ⟨rfl, rfl⟩
 simp (disch := omega)
 refine callW_of (c262J _ _ _ f r3 r3') ?_
 rintro v h' ⟨rfl, rfl⟩
 simp (disch := omega)
theorem c283J : MarkOk 283 shJournal := by
 rintro h lo hi v ⟨⟨(W : Int), (H : Int), (br : List Int)⟩, (p : List Trip), (f : List Trip)⟩ k hv hk
 obtain ⟨s, sp, sf, l1, u1, l2, u2, l3, u3, rfl, w1, w2, o1, o2, o3, s1, s2, s3, d1, d2, d3⟩ := hv.journal
 rw [cvd_journal] at hk ⊢
 rw [mvd_journal]
 refine ACall_intro g283 rfl ?_
 unfold fn283
 simp (disch := omega)
 refine callW_of (c286 _ l1 u1 _ (W, H, br) k (Vo.of_panel w1 w2 o1) (by rw [cvd_panel]; omega)) ?_
 rintro v h1 ⟨rfl, m1, q1⟩
 rw [mvd_panel] at q1
 rw [cvd_panel]
 obtain ⟨s', e, _, _, q1⟩ := q1.panel
 obtain rfl : s = s' := by simpa using e
 obtain ⟨k1, e1⟩ : ∃ j, j = k + br.length := ⟨_, rfl⟩
 rw [← e1]
 simp (disch := omega)
 refine callW_of (c284J _ l2 u2 _ p k1 (o2.mod m1 (by unfold Dis at d1; omega)) (by rw [cvd_trips]; omega)) ?_
 rintro v h2 ⟨rfl, m2, q2⟩
 rw [mvd_trips] at q2
 rw [cvd_trips]
 obtain ⟨k2, e2⟩ : ∃ j, j = k1 + 3 * p.length := ⟨_, rfl⟩
 rw [← e2]
 simp (disch := omega)
 refine callW_of (c284J _ l3 u3 _ f k2 ((o3.mod m1 (by unfold Dis at d2; omega)).mod m2 (by unfold Dis at d3; omega)) (by rw [cvd_trips]; omega)) ?_
 rintro v h3 ⟨rfl, m3, q3⟩
 rw [mvd_trips] at q3
 rw [cvd_trips]
 have e3 : k2 + 3 * f.length = k + (br.length + (3 * p.length + 3 * f.length)) := by omega
 rw [e3]
 obtain ⟨k3, e4⟩ : ∃ j, j = k + (br.length + (3 * p.length + 3 * f.length)) := ⟨_, rfl⟩
 rw [← e4]
 simp (disch := omega)
 refine ⟨by omega, ((m1.sub s1).trans (m2.sub s2)).trans (m3.sub s3), Vo.of_journal w1 w2 ((q1.mod m2 (by unfold Dis at d1; omega)).mod m3 (by unfold Dis at d2; omega)) (q2.mod m3 (by unfold Dis at d3; omega)) q3 s1 s2 s3 d1 d2 d3⟩
theorem Vo.no_ints {h : Heap} {lo hi : Nat} : Vo h lo hi shInts (sl 0 0 0 0) ([] : List Int) := Vo.of_ints (X := []) (.inr ⟨rfl, rfl⟩) (by simp) (by simp) (.inl rfl)
theorem trips_at {h : Heap} {v : Value} {X : List Trip} (x : Vr h shTrips v X) : ∃ b o z, v = sl b o X.length z ∧ X.length ≤ maxLen ∧ ∀ i (hi : i < X.length), cellsAt h b (o + i * 3) 3 = some (trip X[i]) := by
 obtain ⟨b, o, z, rfl, _, hm, hel⟩ := x.slice
 refine ⟨b, o, z, rfl, hm, fun i hi => ?_⟩
 obtain ⟨c, hc, r⟩ := hel i hi
 obtain ⟨rfl, _⟩ := rd_trip.1 r
 exact hc
theorem store_box {h : Heap} {cs xs : List Value} (hl : xs.length = cs.length) : storeAt (h ++ [⟨cs, true⟩]) h.length 0 xs = some (h ++ [⟨xs, true⟩]) := by
 unfold storeAt
 simp [hl]
theorem PtP.at {h : Heap} {b : Nat} {W H : Int} {s : Value} {br : List Int} {r : Bool} (hb : h[b]? = some ⟨[I W, I H, s], r⟩) (hs : Vr h shInts s br) (hW : I64 W) (hH : I64 H) : PtP h (pt b 0) (W, H, br) :=
 ⟨b, 0, s, rfl, by simp [Am.cell, hb], by simp [Am.cell, hb], by simp [Am.cell, hb], hs, hW, hH⟩
/-- How many inner points lie above row y. -/
def rowN (W : Nat) : Nat → Nat
 | 0 => 0
 | y + 1 => rowN W y + if y = 0 then 0 else W - y % 2
theorem rowN_succ {W y : Nat} (h : 1 ≤ y) : rowN W (y + 1) = rowN W y + (W - y % 2) := by
 simp only [rowN]; rw [if_neg (by omega)]
theorem rowN_mono {W : Nat} : ∀ {y z : Nat}, y ≤ z → rowN W y ≤ rowN W z := by
  intro y z h
  induction z with
  | zero => have : y = 0 := by omega
            subst this; exact Nat.le_refl _
  | succ z ih =>
    by_cases e : y = z + 1
    · subst e; exact Nat.le_refl _
    · have := ih (by omega)
      simp only [rowN]; omega
theorem rowN_le : ∀ {W : Nat}, W < 9 → ∀ {y : Nat}, y < 17 → rowN W y ≤ 128 := by decide +kernel
theorem rowN_end : ∀ {W : Nat}, W < 9 → ∀ {H : Nat}, H < 9 → 1 ≤ W → 1 ≤ H → (rowN W (2 * H) : Int) = (W : Int) * (H - 1) + H * (W - 1) := by decide +kernel
theorem rowN_form : ∀ {W : Nat}, W < 9 → ∀ {y : Nat}, y < 17 → 1 ≤ W → 1 ≤ y → ((y / 2 : Nat) : Int) * ((W : Int) - 1) + ((y - 1) / 2 : Nat) * (W : Int) = rowN W y := by decide +kernel
/-- The number of a point. -/
def numP (W x y : Nat) : Nat := rowN W y + (x - 1) / 2
theorem numP_lt {W H x y : Nat} (hx : 1 ≤ x ∧ x < 2 * W) (hy : 1 ≤ y ∧ y < 2 * H) (hp : (x + y) % 2 = 1) : numP W x y < rowN W (2 * H) := by
 have h1 := rowN_mono (W := W) (show y + 1 ≤ 2 * H by omega)
 rw [rowN_succ hy.1] at h1
 unfold numP; omega
theorem c455 (h : Heap) (v : Value) (X : Pan) (W y : Nat) (hv : PtP h v X) (hW : X.1 = W) (w1 : 1 ≤ W) (w8 : W < 9) (hy1 : 1 ≤ y) (hy : y < 17) : ACall Gam 455 [v, I y] h fun r h' => r = I (rowN W y) ∧ h' = h := by
 obtain ⟨b, o, s, rfl, h1, _⟩ := hv
 rw [hW] at h1
 refine ACall_intro g455 rfl ?_
 unfold fn455
 simp (disch := omega)
 refine awp_loop (fun (k : Nat) σ h' => h' = h ∧ 1 ≤ k ∧ k ≤ y ∧ σ 0 = pt b o ∧ σ 1 = I y ∧ σ 5 = I (rowN W k) ∧ σ 6 = I k) (fun k => y - k) 1 ?_ ?_
 ·refine ⟨rfl, Nat.le_refl _, hy1, by simp, by simp, by simp [rowN], by simp⟩
 ·rintro k σ h' ⟨rfl, hk1, hk, q0, q1, q5, q6⟩
  simp (disch := omega) [q1, q6]
  refine fork_dec (fun hlt => ?_) (fun hge => ?_)
  ·have hb := rowN_le w8 (y := k) (by omega)
   have hs := rowN_succ (W := W) hk1
   simp (disch := omega) [q0, q5, q6, h1, wrap64, tmod_pos]
   refine fork_dec (fun ho => ?_) (fun ho => ?_)
   ·simp (disch := omega) [q0, q1, q5, q6, wrap64]
    exact ⟨k + 1, ⟨by omega, by omega, by omega, by omega⟩, by omega⟩
   ·simp (disch := omega) [q0, q1, q5, q6, wrap64]
    exact ⟨k + 1, ⟨by omega, by omega, by omega, by omega⟩, by omega⟩
  ·have : k = y := by omega
   subst this
   simp (disch := omega) [q5]
theorem c451 (h : Heap) (v : Value) (X : Pan) (W x y : Nat) (hv : PtP h v X) (hW : X.1 = W) (w1 : 1 ≤ W) (w8 : W < 9) (hx : 1 ≤ x ∧ x < 17) (hy : 1 ≤ y ∧ y < 17) : ACall Gam 451 [v, .agg #[I x, I y]] h fun r h' => r = I (numP W x y) ∧ h' = h := by
 refine ACall_intro g451 rfl ?_
 unfold fn451
 have hb := rowN_le w8 (y := y) (by omega)
 simp (disch := omega)
 refine callW_of (c455 h v X W y hv hW w1 w8 hy.1 hy.2) ?_
 rintro _ h' ⟨rfl, rfl⟩
 simp (disch := omega) [wrap64, tdiv_pos]
 simp [numP]; omega
theorem c40v (h : Heap) (W H x y a W1 p y1 b q r c d e : Int) (s : Value) (h1 : IntKind.i64.wrap (y.tdiv 2) = a) (h2 : IntKind.i64.wrap (W - 1) = W1) (h3 : IntKind.i64.wrap (a * W1) = p) (h4 : IntKind.i64.wrap (y - 1) = y1) (h5 : IntKind.i64.wrap (y1.tdiv 2) = b) (h6 : IntKind.i64.wrap (b * W) = q)
  (h7 : IntKind.i64.wrap (p + q) = r) (h8 : IntKind.i64.wrap (x.tdiv 2) = c) (h9 : IntKind.i64.wrap (r + c) = d) (h10 : IntKind.i64.wrap (d - 1) = e) : ACall Gam 40 [.agg #[I W, I H, s], .agg #[I x, I y]] h fun v h' => v = I (if y.tmod 2 = 1 then e else d) ∧ h' = h := by
 refine ACall_intro g40 rfl ?_
 unfold fn40
 simp only []
 rw [awp_seq, awp_reg]
 generalize hK : seqQ Gam _ _ 0 = K
 simp
 subst hK
 simp only [seqQ_zero]
 rw [awp_seq, awp_reg]
 generalize hK : seqQ Gam _ _ 0 = K
 simp [h1, h2, h3, h4, h5, h6, h7]
 subst hK
 simp
 refine fork_dec (fun ho => ?_) (fun ho => ?_)
 ·simp [h8, h9, h10, ho]
 ·simp [h8, h9, h10, ho]
theorem c40 (h : Heap) (W H x y : Nat) (s : Value) (w1 : 1 ≤ W) (w8 : W < 9) (hx : 1 ≤ x ∧ x < 17) (hy : 1 ≤ y ∧ y < 17) (hp : (x + y) % 2 = 1) : ACall Gam 40 [.agg #[I W, I H, s], .agg #[I x, I y]] h fun r h' => r = I (numP W x y) ∧ h' = h := by
 have hb := rowN_le w8 (y := y) (by omega)
 have hf := rowN_form w8 (y := y) (by omega) w1 hy.1
 have e1 : (y : Int) / 2 = ((y / 2 : Nat) : Int) := by omega
 have e2 : ((y : Int) - 1) / 2 = (((y - 1) / 2 : Nat) : Int) := by omega
 have hf' : (y : Int) / 2 * ((W : Int) - 1) + ((y : Int) - 1) / 2 * (W : Int) = rowN W y := by rw [e1, e2]; exact hf
 have b1 : 0 ≤ (y : Int) / 2 * ((W : Int) - 1) := Int.mul_nonneg (by omega) (by omega)
 have b2 : 0 ≤ ((y : Int) - 1) / 2 * (W : Int) := Int.mul_nonneg (by omega) (by omega)
 have hrow : (rowN W y : Int) ≤ 128 := by omega
 have u0 : IntKind.i64.wrap ((W : Int) - 1) = (W : Int) - 1 := wrap64 (by omega) (by omega)
 have u1 : IntKind.i64.wrap ((y : Int) - 1) = (y : Int) - 1 := wrap64 (by omega) (by omega)
 have u2 : IntKind.i64.wrap ((y : Int) / 2) = (y : Int) / 2 := wrap64 (by omega) (by omega)
 have u3 : IntKind.i64.wrap (((y : Int) - 1) / 2) = ((y : Int) - 1) / 2 := wrap64 (by omega) (by omega)
 have u4 : IntKind.i64.wrap ((x : Int) / 2) = (x : Int) / 2 := wrap64 (by omega) (by omega)
 have u5 : IntKind.i64.wrap (IntKind.i64.wrap ((y : Int) / 2 * ((W : Int) - 1)) + IntKind.i64.wrap (((y : Int) - 1) / 2 * (W : Int))) = rowN W y := by
  rw [wrap64 (n := (y : Int) / 2 * ((W : Int) - 1)) (by omega) (by omega), wrap64 (n := ((y : Int) - 1) / 2 * (W : Int)) (by omega) (by omega), hf', wrap64 (by omega) (by omega)]
 have t1 : (y : Int).tdiv 2 = (y : Int) / 2 := tdiv_pos (by omega)
 have t2 : ((y : Int) - 1).tdiv 2 = ((y : Int) - 1) / 2 := tdiv_pos (by omega)
 have t3 : (x : Int).tdiv 2 = (x : Int) / 2 := tdiv_pos (by omega)
 have t4 : (y : Int).tmod 2 = (y : Int) % 2 := tmod_pos (by omega)
 refine (c40v h W H x y _ _ _ _ _ _ _ _ _ _ s rfl rfl rfl rfl rfl rfl rfl rfl rfl rfl).mono ?_
 rintro r h' ⟨rfl, rfl⟩
 rw [t1, t3, t4, u2, u0, u1, t2, u3, u5, u4]
 refine ⟨?_, rfl⟩
 split
 ·rw [wrap64 (n := (rowN W y : Int) + (x : Int) / 2) (by omega) (by omega), wrap64 (by omega) (by omega)]
  simp [numP]; omega
 ·rw [wrap64 (by omega) (by omega)]
  simp [numP]; omega
end Am

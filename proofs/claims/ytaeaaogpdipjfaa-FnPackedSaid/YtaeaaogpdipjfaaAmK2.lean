/- Contracts: AmT2, AmT3, AmC7, AmP1, AmP3, AmT4, AmT5, AmP4, AmP7, AmP8, AmP2. -/
import Derived.Test.YtaeaaogpdipjfaaAmK1
/-! AmT2 -/
set_option linter.unusedVariables false
set_option linter.unusedSimpArgs false
set_option maxHeartbeats 4000000
namespace Am
open Go

def SzOk (f : Nat) (D : Shp) : Prop := ∀ h v X (left : Nat), Vr h D v X → left ≤ 1048576 → ACall Gam f [v, I left] h fun r h' => (r = if siz D X ≤ left then I ((left - siz D X : Nat) : Int) else I (-1)) ∧ h' = h
def MarkOk (f : Nat) (D : Shp) : Prop := ∀ h lo hi v X (k : Nat), Vo h lo hi D v X → k + cvd D X ≤ 1099511627776 → ACall Gam f [v, I k] h fun r h' => r = I ((k + cvd D X : Nat) : Int) ∧ Mod lo hi h h' ∧ Vo h' lo hi D v (mvd D X k)
def HeldOk (f : Nat) (D : Shp) : Prop := ∀ h v X (k : Nat), Vr h D v (mvd D X k) → k + cvd D X ≤ 1099511627776 → ACall Gam f [v, I k] h fun r h' => r = I ((k + cvd D X : Nat) : Int) ∧ Grows h h'

theorem sum_zero {α : Type} : ∀ (X : List α), (X.map fun _ => 0).sum = 0
  | [] => rfl
  | x :: X => by simp [sum_zero X]
theorem siz_ints (X : List Int) : siz shInts X = X.length := by
  show X.length + (X.map fun _ => 0).sum = _
  rw [sum_zero]; rfl
def nums (k n : Nat) : List Int := (List.range n).map fun i => ((k + i : Nat) : Int)
/-- One cell is written. -/
theorem store_one {h : Heap} {b o : Nat} {cs : List Value} {v : Value} (hk : h[b]? = some ⟨cs, true⟩) (ho : o < cs.length) : storeAt h b o [v] = some (h.set b ⟨cs.set o v, true⟩) := by
  unfold storeAt
  simp only [hk]
  rw [if_pos ⟨trivial, ho⟩]
  congr 3
  unfold splice
  rw [List.set_eq_take_append_cons_drop, if_pos ho]
  simp
theorem Mod.put {lo hi b : Nat} {h h' : Heap} (m : Mod lo hi h h') (hb : lo ≤ b ∧ b < hi) (k : Blk) : Mod lo hi h (h'.set b k) :=
  ⟨by simpa using m.1, fun c hc hn => by rw [List.getElem?_set_ne (by omega)]; exact m.2 c hc hn⟩
theorem Mod.refl (lo hi : Nat) (h : Heap) : Mod lo hi h h := ⟨Nat.le_refl _, fun _ _ _ => rfl⟩
theorem Mod.grow {lo hi : Nat} {a b c : Heap} (m : Mod lo hi a b) (g : Grows b c) : Mod lo hi a c := m.trans g.mod

/-! ### panels -/
theorem Vr.panel {h : Heap} {v : Value} {W H : Int} {br : List Int} (x : Vr h shPanel v (W, H, br)) : ∃ s, v = .agg #[I W, I H, s] ∧ I64 W ∧ I64 H ∧ Vr h shInts s br := by
  obtain ⟨cs, ⟨c1, c2, rfl, ⟨rfl, w1⟩, ⟨c3, c4, rfl, ⟨rfl, w2⟩, r⟩⟩, rfl⟩ := x
  have hl := r.len
  match c4, hl with
  | [s], _ => exact ⟨s, rfl, wf_i64.1 w1, wf_i64.1 w2, [s], r, rfl⟩
theorem Vr.of_panel {h : Heap} {s : Value} {W H : Int} {br : List Int} (h1 : I64 W) (h2 : I64 H) (x : Vr h shInts s br) : Vr h shPanel (.agg #[I W, I H, s]) (W, H, br) := by
  obtain ⟨cs, r, rfl⟩ := x
  have hl := r.len
  match cs, hl with
  | [s], _ => exact ⟨[I W, I H, s], ⟨[I W], [I H, s], rfl, ⟨rfl, wf_i64.2 h1⟩, [I H], [s], rfl, ⟨rfl, wf_i64.2 h2⟩, r⟩, rfl⟩
theorem Vo.panel {h : Heap} {lo hi : Nat} {v : Value} {W H : Int} {br : List Int} (x : Vo h lo hi shPanel v (W, H, br)) : ∃ s, v = .agg #[I W, I H, s] ∧ I64 W ∧ I64 H ∧ Vo h lo hi shInts s br := by
  obtain ⟨cs, bs, ⟨c1, c2, b1, b2, rfl, rfl, ⟨rfl, w1, rfl⟩, ⟨c3, c4, b3, b4, rfl, rfl, ⟨rfl, w2, rfl⟩, r⟩⟩, rfl, nd, hb⟩ := x
  have hl := r.len
  match c4, hl with
  | [s], _ => exact ⟨s, rfl, wf_i64.1 w1, wf_i64.1 w2, [s], _, r, rfl, by simpa using nd, by simpa using hb⟩
theorem Vo.of_panel {h : Heap} {lo hi : Nat} {s : Value} {W H : Int} {br : List Int} (h1 : I64 W) (h2 : I64 H) (x : Vo h lo hi shInts s br) : Vo h lo hi shPanel (.agg #[I W, I H, s]) (W, H, br) := by
  obtain ⟨cs, bs, r, rfl, nd, hb⟩ := x
  have hl := r.len
  match cs, hl with
  | [s], _ => exact ⟨[I W, I H, s], bs, ⟨[I W], [I H, s], [], bs, rfl, rfl, ⟨rfl, wf_i64.2 h1, rfl⟩, [I H], [s], [], bs, rfl, rfl, ⟨rfl, wf_i64.2 h2, rfl⟩, r⟩, rfl, nd, hb⟩
theorem siz_panel (W H : Int) (br : List Int) : siz shPanel (W, H, br) = br.length := by
  show 0 + (0 + siz shInts br) = _
  rw [siz_ints]; omega
end Am
/-! AmT3 -/
set_option linter.unusedVariables false
set_option linter.unusedSimpArgs false
set_option maxHeartbeats 4000000
namespace Am
open Go

abbrev Trip := Int × Int × Int
def trip (t : Trip) : List Value := [I t.1, I t.2.1, I t.2.2]
def trips (l : List Trip) : List Value := (l.map trip).flatten
def T64 (t : Trip) : Prop := I64 t.1 ∧ I64 t.2.1 ∧ I64 t.2.2
theorem trips_cons (a : Trip) (b : List Trip) : trips (a :: b) = I a.1 :: I a.2.1 :: I a.2.2 :: trips b := by simp [trips, trip]
theorem trips_len : ∀ l : List Trip, (trips l).length = 3 * l.length
  | [] => rfl
  | a :: l => by rw [trips_cons]; simp [trips_len l]; omega
theorem rd_trip {h : Heap} {c : List Value} {t : Trip} : Rd h shTrip c t ↔ c = trip t ∧ T64 t := by
  constructor
  · rintro ⟨c1, c2, rfl, ⟨rfl, w1⟩, c3, c4, rfl, ⟨rfl, w2⟩, rfl, w3⟩
    exact ⟨rfl, wf_i64.1 w1, wf_i64.1 w2, wf_i64.1 w3⟩
  · rintro ⟨rfl, w1, w2, w3⟩
    exact ⟨[I t.1], [I t.2.1, I t.2.2], rfl, ⟨rfl, wf_i64.2 w1⟩, [I t.2.1], [I t.2.2], rfl, ⟨rfl, wf_i64.2 w2⟩, rfl, wf_i64.2 w3⟩
theorem rd_trips {h : Heap} : ∀ {css : List (List Value)} {X : List Trip}, All2 (fun c y => Rd h shTrip c y) css X → css.flatten = trips X ∧ ∀ x ∈ X, T64 x
  | [], [], _ => by simp [trips]
  | c :: css, x :: X, r => by
    obtain ⟨e, w⟩ := rd_trip.1 r.1
    obtain ⟨h1, h2⟩ := rd_trips r.2
    refine ⟨by simp [e, h1, trips], fun y hy => ?_⟩
    rcases List.mem_cons.1 hy with rfl | hy
    · exact w
    · exact h2 y hy
theorem Vr.trips {h : Heap} {v : Value} {X : List Trip} (x : Vr h shTrips v X) : ∃ b o z, v = sl b o X.length z ∧ (z = 3 ∨ b = 0 ∧ X = []) ∧ X.length ≤ maxLen ∧ (∀ x ∈ X, T64 x) ∧ (X = [] ∨ cellsAt h b o (X.length * 3) = some (Am.trips X)) := by
  obtain ⟨cs, ⟨b, o, z, css, rfl, hz, hm, h1, h2⟩, rfl⟩ := x
  obtain ⟨e1, e2⟩ := rd_trips h1
  have h2' : X = [] ∨ cellsAt h b o (X.length * 3) = some css.flatten := h2
  rw [e1] at h2'
  exact ⟨b, o, z, rfl, hz, hm, e2, h2'⟩
theorem all_trips (h : Heap) : ∀ (X : List Trip), (∀ x ∈ X, T64 x) → All2 (fun c y => Rd h shTrip c y) (X.map trip) X
  | [], _ => trivial
  | x :: X, hx => ⟨rd_trip.2 ⟨rfl, hx x (by simp)⟩, all_trips h X fun y hy => hx y (by simp [hy])⟩
theorem Vr.of_trips {h : Heap} {b o z : Nat} {X : List Trip} (hz : z = 3 ∨ b = 0 ∧ X = []) (hm : X.length ≤ maxLen) (hx : ∀ x ∈ X, T64 x) (hc : X = [] ∨ cellsAt h b o (X.length * 3) = some (Am.trips X)) : Vr h shTrips (sl b o X.length z) X :=
  ⟨[sl b o X.length z], ⟨b, o, z, X.map trip, rfl, hz, hm, all_trips h X hx, hc⟩, rfl⟩
theorem ow_trip {h : Heap} {c : List Value} {t : Trip} {bs : List Nat} : Ow h shTrip c t bs ↔ c = trip t ∧ T64 t ∧ bs = [] := by
  constructor
  · rintro ⟨c1, c2, b1, b2, rfl, rfl, ⟨rfl, w1, rfl⟩, c3, c4, b3, b4, rfl, rfl, ⟨rfl, w2, rfl⟩, rfl, w3, rfl⟩
    exact ⟨rfl, ⟨wf_i64.1 w1, wf_i64.1 w2, wf_i64.1 w3⟩, rfl⟩
  · rintro ⟨rfl, ⟨w1, w2, w3⟩, rfl⟩
    exact ⟨[I t.1], [I t.2.1, I t.2.2], [], [], rfl, rfl, ⟨rfl, wf_i64.2 w1, rfl⟩, [I t.2.1], [I t.2.2], [], [], rfl, rfl, ⟨rfl, wf_i64.2 w2, rfl⟩, rfl, wf_i64.2 w3, rfl⟩
theorem all3_trips (h : Heap) : ∀ (X : List Trip), (∀ x ∈ X, T64 x) → All3 (fun c y s => Ow h shTrip c y s) (X.map trip) X (X.map fun _ => [])
  | [], _ => trivial
  | x :: X, hx => ⟨ow_trip.2 ⟨rfl, hx x (by simp), rfl⟩, all3_trips h X fun y hy => hx y (by simp [hy])⟩
theorem Vo.of_trips {h : Heap} {b lo hi z : Nat} {X : List Trip} (hz : z = 3 ∨ b = 0 ∧ X = []) (hm : X.length ≤ maxLen) (hx : ∀ x ∈ X, T64 x) (hc : X = [] ∨ h[b]? = some ⟨Am.trips X, true⟩ ∧ lo ≤ b ∧ b < hi) : Vo h lo hi shTrips (sl b 0 X.length z) X := by
  refine ⟨[sl b 0 X.length z], if X = [] then [] else [b], ⟨b, z, X.map trip, X.map fun _ => [], rfl, hz, hm, all3_trips h X hx, ?_⟩, rfl, ?_, ?_⟩
  · by_cases h0 : X = []
    · exact .inl ⟨h0, by simp [h0]⟩
    · exact .inr ⟨h0, by rw [if_neg h0, nils_flat], (hc.resolve_left h0).1⟩
  · split <;> simp
  · intro b' hb'
    by_cases h0 : X = []
    · simp [h0] at hb'
    · simp [h0] at hb'; subst hb'; exact (hc.resolve_left h0).2
theorem All3.trips {h : Heap} : ∀ {css : List (List Value)} {X : List Trip} {bss : List (List Nat)}, All3 (fun c y s => Ow h shTrip c y s) css X bss → css.flatten = Am.trips X ∧ (∀ x ∈ X, T64 x) ∧ bss.flatten = []
  | [], [], [], _ => by simp [Am.trips]
  | c :: css, x :: X, s :: bss, r => by
    obtain ⟨e, w, es⟩ := ow_trip.1 r.1
    obtain ⟨h1, h2, h3⟩ := All3.trips r.2
    refine ⟨by simp [e, h1, Am.trips], fun y hy => ?_, by simp [es, h3]⟩
    rcases List.mem_cons.1 hy with rfl | hy
    · exact w
    · exact h2 y hy
  | [], _ :: _, _, r => r.elim
  | [], [], _ :: _, r => r.elim
  | _ :: _, [], _, r => r.elim
  | _ :: _, _ :: _, [], r => r.elim
theorem Vo.trips {h : Heap} {lo hi : Nat} {v : Value} {X : List Trip} (x : Vo h lo hi shTrips v X) : ∃ b z, v = sl b 0 X.length z ∧ (z = 3 ∨ b = 0 ∧ X = []) ∧ X.length ≤ maxLen ∧ (∀ x ∈ X, T64 x) ∧ (X = [] ∨ h[b]? = some ⟨Am.trips X, true⟩ ∧ lo ≤ b ∧ b < hi) := by
  obtain ⟨cs, bs, ⟨b, z, css, bss, rfl, hz, hm, h1, h2⟩, rfl, _, hb⟩ := x
  obtain ⟨e1, e2, e3⟩ := All3.trips h1
  refine ⟨b, z, rfl, hz, hm, e2, ?_⟩
  rcases h2 with ⟨h2, _⟩ | ⟨_, h3, h4⟩
  · exact .inl h2
  · rw [e3] at h3; rw [e1] at h4
    exact .inr ⟨h4, hb b (by simp [h3])⟩

theorem Vr.trip {h : Heap} {v : Value} {t : Trip} (x : Vr h shTrip v t) : v = .agg #[I t.1, I t.2.1, I t.2.2] ∧ T64 t := by
  obtain ⟨cs, r, rfl⟩ := x
  obtain ⟨rfl, w⟩ := rd_trip.1 r
  exact ⟨rfl, w⟩

def tnums (k n : Nat) : List Trip := (List.range n).map fun i => (((k + 3 * i : Nat) : Int), ((k + 3 * i + 1 : Nat) : Int), ((k + 3 * i + 2 : Nat) : Int))
theorem pos_of {h h' : Heap} (hp : 0 < h.length) (g : Grows h h') : 0 < h'.length := Nat.lt_of_lt_of_le hp g.le
@[simp] theorem nat_neg (n : Nat) : ((n : Int) < 0) = False := by simp
theorem all2_nil {α β : Type} {R : α → β → Prop} {vs : List β} (h : All2 R [] vs) : vs = [] := by cases vs with | nil => rfl | cons _ _ => exact h.elim
theorem all2_cons {α β : Type} {R : α → β → Prop} {a : α} {l : List α} {vs : List β} (h : All2 R (a :: l) vs) : ∃ v r, vs = v :: r ∧ R a v ∧ All2 R l r := by
  cases vs with
  | nil => exact h.elim
  | cons v r => exact ⟨v, r, rfl, h.1, h.2⟩
theorem ArgR.vr {h : Heap} {D : Shp} {v : Value} (x : ArgR h D v) : ∃ X, Vr h D v X := by obtain ⟨cs, X, r, e⟩ := x; exact ⟨X, cs, r, e⟩
theorem ArgR.int {h : Heap} {v : Value} (x : ArgR h shInt v) : ∃ a, v = I a ∧ I64 a := by obtain ⟨cs, X, ⟨rfl, w⟩, rfl⟩ := x; exact ⟨X, rfl, wf_i64.1 w⟩
theorem ArgR.str {h : Heap} {v : Value} (x : ArgR h .str v) : ∃ s, v = S s ∧ s.length ≤ 9223372036854775807 := by obtain ⟨cs, X, ⟨rfl, w⟩, rfl⟩ := x; exact ⟨X, rfl, by rw [← maxLen_eq]; exact w⟩
theorem Vr.panel3 {h : Heap} {v : Value} {X : shPanel.T} (x : Vr h shPanel v X) : ∃ a b c, v = .agg #[a, b, c] := by
  obtain ⟨W, H, br⟩ := X
  obtain ⟨s, e, _⟩ := x.panel
  exact ⟨_, _, _, e⟩
theorem Vr.journal5 {h : Heap} {v : Value} {X : shJournal.T} (x : Vr h shJournal v X) : ∃ a b c d f, v = .agg #[a, b, c, d, f] := by
  obtain ⟨cs, r, rfl⟩ := x
  have hl := r.len
  match cs, hl with
  | [a, b, c, d, f], _ => exact ⟨a, b, c, d, f, rfl⟩
theorem trips_inj_nil {X : List Trip} (h : trips X = []) : X = [] := by
  cases X with
  | nil => rfl
  | cons x X => rw [trips_cons] at h; cases h
theorem Buf.trips {h0 h : Heap} {v : Value} {X : List Trip} (x : Buf h0 h v 3 (Am.trips X)) (hm : X.length ≤ maxLen) (hx : ∀ x ∈ X, T64 x) : Vo h h0.length h.length shTrips v X := by
  rcases x with ⟨h1, rfl⟩ | ⟨b, n, rfl, h2, h3, h4⟩
  · have := trips_inj_nil h1
    subst this
    exact Vo.of_trips (X := []) (.inl rfl) (by simp) (by simp) (.inl rfl)
  · rw [trips_len] at h2
    have : n = X.length := by omega
    subst this
    exact Vo.of_trips (.inl rfl) hm hx (.inr ⟨h4, h3, at_lt h4⟩)
theorem ints_inj_nil {X : List Int} (h : ints X = []) : X = [] := by
  cases X with
  | nil => rfl
  | cons x X => cases h
theorem Buf.ints {h0 h : Heap} {v : Value} {X : List Int} (x : Buf h0 h v 1 (Am.ints X)) (hm : X.length ≤ maxLen) (hx : ∀ x ∈ X, I64 x) : Vo h h0.length h.length shInts v X := by
  rcases x with ⟨h1, rfl⟩ | ⟨b, n, rfl, h2, h3, h4⟩
  · have := ints_inj_nil h1
    subst this
    exact Vo.of_ints (X := []) (.inl rfl) (by simp) (by simp) (.inl rfl)
  · have : n = X.length := by simpa [Am.ints] using h2
    subst this
    exact Vo.of_ints (.inl rfl) hm hx (.inr ⟨h4, h3, at_lt h4⟩)
end Am
/-! AmC7 -/
set_option linter.unusedVariables false
set_option linter.unusedSimpArgs false
set_option maxHeartbeats 4000000
namespace Am
open Go

def inverse (X : List Trip) : List Trip := X.reverse.map fun t => (t.1, t.2.2, t.2.1)
end Am
/-! AmP1 -/
set_option linter.unusedVariables false
set_option linter.unusedSimpArgs false
set_option maxHeartbeats 4000000
namespace Am
open Go

abbrev Pan := Int × Int × List Int
def okBr (b : Int) : Bool := inR b 0 2
def okP (X : Pan) : Bool := okSz X.1 X.2.1 && (decide ((X.2.2.length : Int) = inner X.1 X.2.1) && X.2.2.all okBr)
structure OkP (X : Pan) : Prop where
  w : 1 ≤ X.1 ∧ X.1 ≤ 8
  h : 1 ≤ X.2.1 ∧ X.2.1 ≤ 8
  n : (X.2.2.length : Int) = inner X.1 X.2.1
  b : ∀ x ∈ X.2.2, 0 ≤ x ∧ x ≤ 2
theorem okP_iff {X : Pan} : okP X = true ↔ OkP X := by
  unfold okP
  simp only [Bool.and_eq_true, okSz_iff, decide_eq_true_eq, List.all_eq_true, okBr, inR_iff]
  exact ⟨fun ⟨⟨a, b⟩, c, d⟩ => ⟨a, b, c, d⟩, fun ⟨a, b, c, d⟩ => ⟨⟨a, b⟩, c, d⟩⟩

/-- A pointer to a panel. -/
def PtP (h : Heap) (v : Value) (X : Pan) : Prop := ∃ b o s, v = pt b o ∧ cell h b o = some (I X.1) ∧ cell h b (o + 1) = some (I X.2.1) ∧ cell h b (o + 2) = some s ∧ Vr h shInts s X.2.2 ∧ I64 X.1 ∧ I64 X.2.1
theorem Grows.cell {h h' : Heap} (g : Grows h h') {b o : Nat} {v : Value} (x : Am.cell h b o = some v) : Am.cell h' b o = some v := by
  unfold Am.cell at *
  split at x
  · rename_i k hk; rw [g.at hk]; exact x
  · cases x
theorem PtP.grow {h h' : Heap} {v : Value} {X : Pan} (x : PtP h v X) (g : Grows h h') : PtP h' v X := by
  obtain ⟨b, o, s, e, h1, h2, h3, h4, h5⟩ := x
  exact ⟨b, o, s, e, g.cell h1, g.cell h2, g.cell h3, h4.grow g, h5⟩
theorem PtP.push {h : Heap} {W H : Int} {s : Value} {br : List Int} {r : Bool} {l : List Blk} (hs : Vr h shInts s br) (hW : I64 W) (hH : I64 H) : PtP (h ++ ⟨[I W, I H, s], r⟩ :: l) (pt h.length 0) (W, H, br) := by
  refine ⟨h.length, 0, s, rfl, ?_, ?_, ?_, hs.grow ⟨_, rfl⟩, hW, hH⟩ <;> simp [Am.cell]

theorem c196 (a : Int) (h : Heap) : ACall Gam 196 [I a] h fun v h' => v = B (okBr a) ∧ h' = h := by
  refine ACall_intro g196 rfl ?_
  unfold fn196
  simp (disch := omega)
  refine callW_of (c164 a 0 2 h) ?_
  rintro v h' ⟨rfl, rfl⟩
  simp [okBr]

theorem all_drop {α : Type} {p : α → Bool} {l : List α} {k : Nat} (hk : k < l.length) : (l.drop k).all p = (p l[k] && (l.drop (k + 1)).all p) := by
  rw [List.drop_eq_getElem_cons hk]; rfl

theorem c452 (v : Value) (X : Pan) (h : Heap) (hv : PtP h v X) : ACall Gam 452 [v] h fun r h' => r = B (okP X) ∧ h' = h := by
  obtain ⟨b, o, s, rfl, h1, h2, h3, hs, hW, hH⟩ := hv
  obtain ⟨W, H, br⟩ := X
  obtain ⟨b2, o2, z, rfl, _, hm, hx, hc⟩ := hs.ints
  rw [maxLen_eq] at hm
  have hm : br.length ≤ 9223372036854775807 := hm
  simp only at h1 h2
  refine ACall_intro g452 rfl ?_
  unfold fn452
  simp (disch := omega) [h1, h2, h3]
  refine callW_of (c457 W h) ?_
  rintro v h' ⟨rfl, rfl⟩
  cases hb : inR W 1 8
  · simp [okP, okSz, hb]
  · simp (disch := omega) [h1, h2, h3]
    refine callW_of (c457 H h') ?_
    rintro v h' ⟨rfl, rfl⟩
    cases hc' : inR H 1 8
    · simp [okP, okSz, hb, hc']
    · simp (disch := omega) [h1, h2, h3]
      have qW := inR_iff.1 hb
      have qH := inR_iff.1 hc'
      refine callW_of (c448 W H qW qH h') ?_
      rintro v h' ⟨rfl, rfl⟩
      refine ⟨fun _ => Grows.refl _, ?_⟩
      simp (disch := omega) [h1, h2, h3]
      refine fork_dec (fun hn => ?_) (fun hn => ?_)
      · simp (disch := omega)
        refine awp_loop (fun k σ h'' => h'' = h' ∧ k ≤ br.length ∧ (br.drop k).all okBr = br.all okBr ∧ σ 0 = pt b o ∧ σ 3 = I k) (fun k => br.length - k) 0 ?_ ?_
        · simp
        · rintro k σ h'' ⟨rfl, hk, ht, q0, q3⟩
          simp (disch := omega) [q0, q3, h3]
          refine fork_dec (fun hlt => ?_) (fun hge => ?_)
          · have k1 : k < br.length := by omega
            simp (disch := omega) [q0, q3, h3, k1, ints_cell hc k1]
            refine callW_of (c432 br[k] 0 2 _) ?_
            rintro v h' ⟨rfl, rfl⟩
            rw [all_drop k1] at ht
            have eb : inR br[k] 0 2 = okBr br[k] := rfl
            rw [eb]
            cases hbr : okBr br[k]
            · rw [hbr] at ht
              simp [okP, okSz, hb, hc', hn, ← ht]
            · rw [hbr] at ht
              simp (disch := omega) [q0, q3, wrap64]
              exact ⟨k + 1, ⟨by omega, by simpa using ht, by omega⟩, by omega⟩
          · have : k = br.length := by omega
            subst this
            simp at ht
            simp [okP, okSz, hb, hc', hn]
            exact ht
      · simp [okP, okSz, hb, hc', hn]

theorem c140 (v : Value) (X : Pan) (h : Heap) (hv : Vr h shPanel v X) : ACall Gam 140 [v] h fun r h' => r = B (okP X) ∧ h' = h := by
  obtain ⟨W, H, br⟩ := X
  obtain ⟨s, rfl, hW, hH, hs⟩ := hv.panel
  obtain ⟨b2, o2, z, rfl, _, hm, hx, hc⟩ := hs.ints
  rw [maxLen_eq] at hm
  refine ACall_intro g140 rfl ?_
  unfold fn140
  simp (disch := omega)
  refine callW_of (c198 W H h) ?_
  rintro v h' ⟨rfl, rfl⟩
  cases hb : okSz W H
  · simp [okP, hb]
  · obtain ⟨qW, qH⟩ := okSz_iff.1 hb
    simp (disch := omega)
    refine callW_of (c166 W H qW qH h') ?_
    rintro v h' ⟨rfl, rfl⟩
    simp (disch := omega)
    refine fork_dec (fun hn => ?_) (fun hn => ?_)
    · simp (disch := omega)
      refine awp_loop (fun k σ h'' => h'' = h' ∧ k ≤ br.length ∧ (br.drop k).all okBr = br.all okBr ∧ σ 23 = sl b2 o2 br.length z ∧ σ 24 = I br.length ∧ σ 25 = I k) (fun k => br.length - k) 0 ?_ ?_
      · simp
      · rintro k σ h'' ⟨rfl, hk, ht, q0, q1, q3⟩
        simp (disch := omega) [q0, q1, q3]
        refine fork_dec (fun hlt => ?_) (fun hge => ?_)
        · have k1 : k < br.length := by omega
          simp (disch := omega) [q0, q1, q3, k1, ints_cell hc k1]
          refine callW_of (c196 br[k] _) ?_
          rintro v h' ⟨rfl, rfl⟩
          rw [all_drop k1] at ht
          cases hbr : okBr br[k]
          · rw [hbr] at ht
            simp [okP, hb, hn, ← ht]
          · rw [hbr] at ht
            simp (disch := omega) [q0, q1, q3, wrap64]
            exact ⟨k + 1, ⟨by omega, by simpa using ht, by omega⟩, by omega⟩
        · have : k = br.length := by omega
          subst this
          simp at ht
          simp [okP, hb, hn]
          exact ht
    · simp [okP, hb, hn]
def at0 (br : List Int) (i : Nat) : Int := br.getD i 0
theorem at0_of {br : List Int} {i : Nat} (h : i < br.length) : at0 br i = br[i] := by simp [at0, h]
end Am
/-! AmP3 -/
set_option linter.unusedVariables false
set_option linter.unusedSimpArgs false
set_option maxHeartbeats 4000000
namespace Am
open Go

/-! ### new panels -/
def newP (W H : Int) : Pan := (W, H, List.replicate (inner W H).toNat 0)
theorem newP_ok {W H : Int} (hW : 1 ≤ W ∧ W ≤ 8) (hH : 1 ≤ H ∧ H ≤ 8) : OkP (newP W H) := by
  have := inner_bd hW hH
  refine ⟨hW, hH, ?_, ?_⟩
  · simp [newP]; omega
  · intro x hx
    simp [newP] at hx
    omega
theorem reps_ints (n : Nat) : reps n [I 0] = ints (List.replicate n 0) := by
  induction n with
  | zero => rfl
  | succ n ih => rw [reps_succ, ih, List.replicate_succ]; rfl
theorem new_ints {h : Heap} {n : Nat} (hp : 0 < h.length) (hn : n ≤ 1048576) : Vo (h ++ [⟨reps n [I 0], true⟩]) h.length (h.length + 1) shInts (sl h.length 0 n 1) (List.replicate n 0) := by
  have := Vo.of_ints (h := h ++ [⟨reps n [I 0], true⟩]) (b := h.length) (lo := h.length) (hi := h.length + 1) (z := 1) (X := List.replicate n 0) (.inl rfl) (by simp [maxLen_eq]; omega) (by intro x hx; simp at hx; unfold I64; omega) (.inr ⟨by simp [reps_ints], by omega, by omega⟩)
  simpa using this
theorem c450 (h : Heap) (W H : Int) (hW : 1 ≤ W ∧ W ≤ 8) (hH : 1 ≤ H ∧ H ≤ 8) (hp : 0 < h.length) : ACall Gam 450 [I W, I H] h fun r h' => Grows h h' ∧ Vo h' h.length h'.length shPanel r (newP W H) := by
  have hi := inner_bd hW hH
  refine ACall_intro g450 rfl ?_
  unfold fn450
  simp (disch := omega)
  refine callW_of (c448 W H hW hH h) ?_
  rintro v' h' ⟨rfl, rfl⟩
  simp (disch := omega) [aMake, maxSize]
  rw [if_pos (by omega)]
  simp (disch := omega) [resOf_box, aField]
  refine ⟨⟨_, rfl⟩, ?_⟩
  have := new_ints (h := h') (n := (inner W H).toNat) hp (by omega)
  exact Vo.of_panel (by unfold I64; omega) (by unfold I64; omega) this
theorem c177 (h : Heap) (W H : Int) (hW : 1 ≤ W ∧ W ≤ 8) (hH : 1 ≤ H ∧ H ≤ 8) (hp : 0 < h.length) : ACall Gam 177 [I W, I H] h fun r h' => Grows h h' ∧ Vo h' h.length h'.length shPanel r (newP W H) := by
  have hi := inner_bd hW hH
  refine ACall_intro g177 rfl ?_
  unfold fn177
  simp (disch := omega)
  refine callW_of (c166 W H hW hH h) ?_
  rintro v' h' ⟨rfl, rfl⟩
  simp (disch := omega) [aMake, maxSize]
  rw [if_pos (by omega)]
  simp (disch := omega) [resOf_box, aField]
  refine ⟨⟨_, rfl⟩, ?_⟩
  have := new_ints (h := h') (n := (inner W H).toNat) hp (by omega)
  exact Vo.of_panel (by unfold I64; omega) (by unfold I64; omega) this

/-! ### sizes -/
def sameSz (X Y : Pan) : Bool := decide (X.1 = Y.1) && decide (X.2.1 = Y.2.1)
def allOk : List Pan → Bool := fun l => l.all okP
def sizesCode (l : List Pan) : Int := if l.all okP then (if (l.drop 1).all fun y => sameSz y (l.headD (0, 0, [])) then 0 else 6) else 1
end Am
/-! AmT4 -/
set_option linter.unusedVariables false
set_option linter.unusedSimpArgs false
set_option maxHeartbeats 4000000
namespace Am
open Go

abbrev Pan3 := Int × Int × List Int
abbrev Jrn := Pan3 × List Trip × List Trip
theorem Rd.one {h : Heap} {a : Shp} {cs : List Value} {X : List a.T} (r : Rd h (.slice a) cs X) : ∃ s, cs = [s] := by
  have := r.len
  match cs, this with
  | [s], _ => exact ⟨s, rfl⟩
theorem Vr.journal {h : Heap} {v : Value} {W H : Int} {br : List Int} {p f : List Trip} (x : Vr h shJournal v ((W, H, br), p, f)) : ∃ s sp sf, v = .agg #[I W, I H, s, sp, sf] ∧ I64 W ∧ I64 H ∧ Vr h shInts s br ∧ Vr h shTrips sp p ∧ Vr h shTrips sf f := by
  obtain ⟨cs, ⟨c1, c2, rfl, ⟨c3, c4, rfl, ⟨rfl, w1⟩, c5, c6, rfl, ⟨rfl, w2⟩, r1⟩, c7, c8, rfl, r2, r3⟩, rfl⟩ := x
  obtain ⟨s, rfl⟩ := Rd.one r1
  obtain ⟨sp, rfl⟩ := Rd.one r2
  obtain ⟨sf, rfl⟩ := Rd.one r3
  exact ⟨s, sp, sf, rfl, wf_i64.1 w1, wf_i64.1 w2, ⟨_, r1, rfl⟩, ⟨_, r2, rfl⟩, ⟨_, r3, rfl⟩⟩
theorem Vr.of_journal {h : Heap} {W H : Int} {br : List Int} {p f : List Trip} {s sp sf : Value} (h1 : I64 W) (h2 : I64 H) (r1 : Vr h shInts s br) (r2 : Vr h shTrips sp p) (r3 : Vr h shTrips sf f) : Vr h shJournal (.agg #[I W, I H, s, sp, sf]) ((W, H, br), p, f) := by
  obtain ⟨_, r1, rfl⟩ := r1
  obtain ⟨_, r2, rfl⟩ := r2
  obtain ⟨_, r3, rfl⟩ := r3
  obtain ⟨s, rfl⟩ := Rd.one r1
  obtain ⟨sp, rfl⟩ := Rd.one r2
  obtain ⟨sf, rfl⟩ := Rd.one r3
  exact ⟨[I W, I H, s, sp, sf], ⟨[I W, I H, s], [sp, sf], rfl, ⟨[I W], [I H, s], rfl, ⟨rfl, wf_i64.2 h1⟩, [I H], [s], rfl, ⟨rfl, wf_i64.2 h2⟩, r1⟩, [sp], [sf], rfl, r2, r3⟩, rfl⟩

/-- The blocks from l on, before u: none, or within these bounds. -/
def Sub2 (lo hi l u : Nat) : Prop := l = u ∨ lo ≤ l ∧ u ≤ hi
theorem iv_ints {h : Heap} {cs : List Value} {X : List Int} {bs : List Nat} (r : Ow h shInts cs X bs) : ∃ s l u, cs = [s] ∧ Vo h l u shInts s X ∧ (bs = [] ∧ l = 0 ∧ u = 0 ∨ bs = [l] ∧ u = l + 1) := by
  obtain ⟨b, z, css, bss, rfl, hz, hm, h1, h2⟩ := r
  obtain ⟨e1, e2, e3⟩ := All3.ints h1
  rcases h2 with ⟨h2, h3⟩ | ⟨h2, h3, h4⟩
  · exact ⟨_, 0, 0, rfl, Vo.of_ints hz hm e2 (.inl h2), .inl ⟨h3, rfl, rfl⟩⟩
  · rw [e3] at h3; rw [e1] at h4
    exact ⟨_, b, b + 1, rfl, Vo.of_ints hz hm e2 (.inr ⟨h4, by omega, by omega⟩), .inr ⟨h3, rfl⟩⟩
theorem iv_trips {h : Heap} {cs : List Value} {X : List Trip} {bs : List Nat} (r : Ow h shTrips cs X bs) : ∃ s l u, cs = [s] ∧ Vo h l u shTrips s X ∧ (bs = [] ∧ l = 0 ∧ u = 0 ∨ bs = [l] ∧ u = l + 1) := by
  obtain ⟨b, z, css, bss, rfl, hz, hm, h1, h2⟩ := r
  obtain ⟨e1, e2, e3⟩ := All3.trips h1
  rcases h2 with ⟨h2, h3⟩ | ⟨h2, h3, h4⟩
  · exact ⟨_, 0, 0, rfl, Vo.of_trips hz hm e2 (.inl h2), .inl ⟨h3, rfl, rfl⟩⟩
  · rw [e3] at h3; rw [e1] at h4
    exact ⟨_, b, b + 1, rfl, Vo.of_trips hz hm e2 (.inr ⟨h4, by omega, by omega⟩), .inr ⟨h3, rfl⟩⟩
/-- Apart. -/
def Dis (l u l' u' : Nat) : Prop := u ≤ l' ∨ u' ≤ l
theorem Vo.journal {h : Heap} {lo hi : Nat} {v : Value} {W H : Int} {br : List Int} {p f : List Trip} (x : Vo h lo hi shJournal v ((W, H, br), p, f)) : ∃ s sp sf l1 u1 l2 u2 l3 u3, v = .agg #[I W, I H, s, sp, sf] ∧ I64 W ∧ I64 H ∧
    Vo h l1 u1 shInts s br ∧ Vo h l2 u2 shTrips sp p ∧ Vo h l3 u3 shTrips sf f ∧ Sub2 lo hi l1 u1 ∧ Sub2 lo hi l2 u2 ∧ Sub2 lo hi l3 u3 ∧ Dis l1 u1 l2 u2 ∧ Dis l1 u1 l3 u3 ∧ Dis l2 u2 l3 u3 := by
  obtain ⟨cs, bs, ⟨c1, c2, b1, b2, rfl, rfl, ⟨c3, c4, b3, b4, rfl, rfl, ⟨rfl, w1, rfl⟩, c5, c6, b5, b6, rfl, rfl, ⟨rfl, w2, rfl⟩, r1⟩, c7, c8, b7, b8, rfl, rfl, r2, r3⟩, rfl, nd, hb⟩ := x
  obtain ⟨s, l1, u1, rfl, o1, q1⟩ := iv_ints r1
  obtain ⟨sp, l2, u2, rfl, o2, q2⟩ := iv_trips r2
  obtain ⟨sf, l3, u3, rfl, o3, q3⟩ := iv_trips r3
  refine ⟨s, sp, sf, l1, u1, l2, u2, l3, u3, rfl, wf_i64.1 w1, wf_i64.1 w2, o1, o2, o3, ?_, ?_, ?_, ?_, ?_, ?_⟩
  all_goals
    (first | unfold Sub2 | unfold Dis) <;>
    rcases q1 with ⟨rfl, rfl, rfl⟩ | ⟨rfl, rfl⟩ <;> rcases q2 with ⟨rfl, rfl, rfl⟩ | ⟨rfl, rfl⟩ <;> rcases q3 with ⟨rfl, rfl, rfl⟩ | ⟨rfl, rfl⟩ <;> simp at nd hb <;> omega
theorem Vo.of_journal {h : Heap} {lo hi l1 u1 l2 u2 l3 u3 : Nat} {W H : Int} {br : List Int} {p f : List Trip} {s sp sf : Value} (h1 : I64 W) (h2 : I64 H) (r1 : Vo h l1 u1 shInts s br) (r2 : Vo h l2 u2 shTrips sp p) (r3 : Vo h l3 u3 shTrips sf f)
    (s1 : Sub2 lo hi l1 u1) (s2 : Sub2 lo hi l2 u2) (s3 : Sub2 lo hi l3 u3) (d1 : Dis l1 u1 l2 u2) (d2 : Dis l1 u1 l3 u3) (d3 : Dis l2 u2 l3 u3) : Vo h lo hi shJournal (.agg #[I W, I H, s, sp, sf]) ((W, H, br), p, f) := by
  obtain ⟨_, b1, r1, rfl, n1, k1⟩ := r1
  obtain ⟨_, b2, r2, rfl, n2, k2⟩ := r2
  obtain ⟨_, b3, r3, rfl, n3, k3⟩ := r3
  obtain ⟨s, rfl⟩ := Rd.one r1.rd
  obtain ⟨sp, rfl⟩ := Rd.one r2.rd
  obtain ⟨sf, rfl⟩ := Rd.one r3.rd
  refine ⟨[I W, I H, s, sp, sf], b1 ++ (b2 ++ b3), ⟨[I W, I H, s], [sp, sf], b1, b2 ++ b3, rfl, rfl, ⟨[I W], [I H, s], [], b1, rfl, rfl, ⟨rfl, wf_i64.2 h1, rfl⟩, [I H], [s], [], b1, rfl, rfl, ⟨rfl, wf_i64.2 h2, rfl⟩, r1⟩, [sp], [sf], b2, b3, rfl, rfl, r2, r3⟩, rfl, ?_, ?_⟩
  · rw [List.nodup_append, List.nodup_append]
    refine ⟨n1, ⟨n2, n3, fun a ha b hb e => ?_⟩, fun a ha b hb e => ?_⟩
    · subst e
      have := k2 a ha; have := k3 a hb
      unfold Dis at d3; omega
    · subst e
      have := k1 a ha
      unfold Dis at d1 d2
      rcases List.mem_append.1 hb with hb | hb
      · have := k2 a hb; omega
      · have := k3 a hb; omega
  · intro b hb
    unfold Sub2 at s1 s2 s3
    rcases List.mem_append.1 hb with hb | hb
    · have := k1 b hb; omega
    · rcases List.mem_append.1 hb with hb | hb
      · have := k2 b hb; omega
      · have := k3 b hb; omega

end Am
/-! AmT5 -/
set_option linter.unusedVariables false
set_option linter.unusedSimpArgs false
set_option maxHeartbeats 4000000
namespace Am
open Go

abbrev Kpt := List UInt8 × Pan3
def sizL (X : List Kpt) : Nat := (X.map fun y => siz shKept y).sum
end Am
/-! AmP4 -/
set_option linter.unusedVariables false
set_option linter.unusedSimpArgs false
set_option maxHeartbeats 4000000
namespace Am
open Go

/-! ### differences -/
def dpre (a b : List Int) (n : Nat) : List Trip := (List.range n).flatMap fun i => if at0 a i = at0 b i then [] else [((i : Int), at0 a i, at0 b i)]
def diffAns (X Y : Pan) : List Trip × Int := if okP X && okP Y then (if sameSz X Y then (dpre X.2.2 Y.2.2 X.2.2.length, 0) else ([], 6)) else ([], 1)
end Am
/-! AmP7 -/
set_option linter.unusedVariables false
set_option linter.unusedSimpArgs false
set_option maxHeartbeats 4000000
namespace Am
open Go

def newDesk : Jrn := (newP 3 2, [], [])
/-! ### equal lists -/
theorem take_ne {α : Type} {X Y : List α} {k : Nat} (h1 : k < X.length) (h2 : k < Y.length) (hne : ¬ X[k] = Y[k]) : ¬ X = Y := fun e => by subst e; exact hne rfl
theorem c436 (h : Heap) (v w : Value) (X Y : List Int) (hv : Vr h shInts v X) (hw : Vr h shInts w Y) : ACall Gam 436 [v, w] h fun r h' => r = B (decide (X = Y)) ∧ h' = h := by
  obtain ⟨b1, o1, z1, rfl, _, hm1, _, hc1⟩ := hv.ints
  obtain ⟨b2, o2, z2, rfl, _, hm2, _, hc2⟩ := hw.ints
  rw [maxLen_eq] at hm1 hm2
  refine ACall_intro g436 rfl ?_
  unfold fn436
  simp (disch := omega)
  refine fork_dec (fun heq => ?_) (fun hne => ?_)
  · simp (disch := omega)
    refine awp_loop (fun k σ h' => h' = h ∧ k ≤ X.length ∧ X.take k = Y.take k ∧ σ 0 = sl b1 o1 X.length z1 ∧ σ 1 = sl b2 o2 Y.length z2 ∧ σ 5 = I k) (fun k => X.length - k) 0 ?_ ?_
    · simp
    · rintro k σ h' ⟨rfl, hk, ht, h0, h1, h5⟩
      simp (disch := omega) [h0, h1, h5]
      refine fork_dec (fun hlt => ?_) (fun hge => ?_)
      · have k1 : k < X.length := by omega
        have k2 : k < Y.length := by omega
        simp (disch := omega) [h0, h1, h5, ints_cell hc1 k1, ints_cell hc2 k2, k1, k2]
        refine fork_dec (fun he => ?_) (fun he => ?_)
        · simp (disch := omega) [h0, h1, h5]
          refine ⟨k + 1, ⟨by omega, ?_, ?_⟩, by omega⟩
          · rw [List.take_succ_eq_append_getElem k1, List.take_succ_eq_append_getElem k2, ht, he]
          · rw [wrap64 (by omega) (by omega)]; simp
        · simp (disch := omega) [h0, h1, h5]
          exact take_ne k1 k2 he
      · simp (disch := omega) [h0, h1, h5]
        have q1 : k = X.length := by omega
        have q2 : X.length = Y.length := by omega
        subst q1
        rw [List.take_length, q2, List.take_length] at ht
        exact ht
  · simp (disch := omega)
    intro e; apply hne; rw [e]
def samP (X Y : Pan) : Bool := decide (X = Y)
theorem samP_mk (W H W2 H2 : Int) (br br2 : List Int) : samP (W, H, br) (W2, H2, br2) = (decide (W = W2) && (decide (H = H2) && decide (br = br2))) := by
  simp only [samP, Prod.mk.injEq, Bool.decide_and]
theorem c456 (h : Heap) (v w : Value) (X Y : Pan) (hv : PtP h v X) (hw : PtP h w Y) : ACall Gam 456 [v, w] h fun r h' => r = B (samP X Y) ∧ h' = h := by
  obtain ⟨W, H, br⟩ := X
  obtain ⟨W2, H2, br2⟩ := Y
  obtain ⟨b, o, s, rfl, x1, x2, x3, hs, _⟩ := hv
  obtain ⟨b', o', s', rfl, y1, y2, y3, hs', _⟩ := hw
  rw [samP_mk]
  refine ACall_intro g456 rfl ?_
  unfold fn456
  simp (disch := omega) [x1, x2, x3, y1, y2, y3]
  refine fork_dec (fun e1 => ?_) (fun e1 => ?_)
  · simp (disch := omega) [x1, x2, x3, y1, y2, y3, e1]
    refine fork_dec (fun e2 => ?_) (fun e2 => ?_)
    · simp (disch := omega) [x1, x2, x3, y1, y2, y3, e1, e2]
      refine callW_of (c436 h _ _ br br2 hs hs') ?_
      rintro _ h' ⟨rfl, rfl⟩
      simp [e1, e2]
    · simp (disch := omega) [x1, x2, x3, y1, y2, y3, e1, e2]
  · simp (disch := omega) [x1, x2, x3, y1, y2, y3, e1]
def samJ (X Y : Jrn) : Bool := samP X.1 Y.1 && (decide (X.2.1 = Y.2.1) && decide (X.2.2 = Y.2.2))
end Am
/-! AmP8 -/
set_option linter.unusedVariables false
set_option linter.unusedSimpArgs false
set_option maxHeartbeats 4000000
namespace Am
open Go

def samK (X Y : List Kpt) : Bool := decide (X = Y)
end Am
/-! AmP2 -/
set_option linter.unusedVariables false
set_option linter.unusedSimpArgs false
set_option maxHeartbeats 4000000
namespace Am
open Go

def byteI (x : Int) : UInt8 := UInt8.ofNat x.toNat
theorem byteI_toNat {x : Int} (h : 0 ≤ x ∧ x < 256) : ((byteI x).toNat : Int) = x := by
  simp [byteI]; omega
theorem append_bytes {h h' : Heap} {v : Value} {l xs : List UInt8} {n : Nat} {bs : Option (Value × Heap)} {K : Value → Heap → Prop} (hp : 0 < h.length) (hl : l.length + xs.length ≤ 1048576) (hg : Grows h h') (hv : Buf h h' v 1 (bytesV l)) (hne : xs ≠ []) (hn : n = xs.length)
    (e : bs = some (sl h'.length 0 n 1, h' ++ [⟨bytesV xs, true⟩]))
    (hK : ∀ v' h'', Grows h h'' → Buf h h'' v' 1 (bytesV (l ++ xs)) → K v' h'') : bindW bs fun y h'' => bindW (aAppend 1 h'' y v) K := by
  subst hn
  rw [e]
  simp only [bindW_some]
  have hne' : xs.length ≠ 0 := by simpa using hne
  refine append_buf hp (hg.push _) (hv.grow ⟨_, rfl⟩) (new := bytesV xs) ?_ (by omega) (by simpa [bytesV] using hne) (by simp [bytesV]) (by simp [bytesV, maxSize]; omega) ?_
  · simp [newCells, hne]
    rw [cellsAt_of (k := ⟨bytesV xs, true⟩) (by simp) (by simp [bytesV])]
    simp [bytesV, List.take_of_length_le]
  · intro v' h'' g1 b1 _
    exact hK v' h'' g1 (by simpa [bytesV] using b1)

theorem checksum_bd (l : List UInt8) : 0 ≤ checksum l ∧ checksum l < 64256 := by
  have := sums_bd l
  unfold checksum; omega
def ended (l : List UInt8) : List UInt8 := l ++ [byteI (checksum l / 256), byteI (checksum l % 256)]
theorem ended_len (l : List UInt8) : (ended l).length = l.length + 2 := by simp [ended]

theorem two_bytes {h' : Heap} {l : List UInt8} : aBuildSlice 1 2 h' [(0, Value.agg #[U 0, U 0]), (1, U (IntKind.u8.wrap (checksum l / 256))), (1001, U (IntKind.u8.wrap (checksum l % 256)))] =
    some (sl h'.length 0 2 1, h' ++ [⟨bytesV [byteI (checksum l / 256), byteI (checksum l % 256)], true⟩]) := by
  have hb := checksum_bd l
  rw [wrap8 (by omega) (by omega), wrap8 (by omega) (by omega)]
  simp [aBuildSlice, bytesV, byteI]
  omega

theorem c568 (l : List UInt8) (hl : l.length ≤ 1048000) (h0 h : Heap) (hp : 0 < h0.length) (v : Value) (hg : Grows h0 h) (hv : Buf h0 h v 1 (bytesV l)) : ACall Gam 568 [v] h fun r h' => r = S (ended l) ∧ Grows h0 h' := by
  have hb := checksum_bd l
  refine ACall_intro g568 rfl ?_
  unfold fn568
  simp (disch := omega)
  rw [text_buf hv]
  simp
  refine callW_of (c573 l (by omega) h) ?_
  rintro v' h' ⟨rfl, rfl⟩
  simp (disch := omega) [wrap64, tdiv_pos, tmod_pos]
  refine append_bytes hp (xs := [byteI (checksum l / 256), byteI (checksum l % 256)]) (by simp; omega) hg hv (by simp) rfl two_bytes ?_
  intro v' h'' g1 b1
  rw [text_buf b1]
  simp [ended]
  exact g1

theorem c191 (l : List UInt8) (hl : l.length ≤ 1048000) (h : Heap) : ACall Gam 191 [S l] h fun r h' => r = S (ended l) ∧ Grows h h' := by
  have hb := checksum_bd l
  refine ACall_intro g191 rfl ?_
  unfold fn191
  simp (disch := omega)
  refine callW_of (c64 l (by omega) h) ?_
  rintro v' h' ⟨rfl, rfl⟩
  simp (disch := omega) [wrap64, tdiv_pos, tmod_pos]
  rw [two_bytes]
  simp only [bindW_some]
  rw [text_buf (h0 := h') (l := [byteI (checksum l / 256), byteI (checksum l % 256)]) (.inr ⟨h'.length, 2, rfl, by simp [bytesV], Nat.le_refl _, by simp⟩)]
  simp
  rw [if_pos (by omega)]
  simp [ended]
  exact ⟨_, rfl⟩

/-! ### the digits of five breaks -/

def pv (br : List Int) (i : Nat) : Nat → Int
  | 0 => 0
  | j + 1 => 3 * pv br i j + at0 br (i + j)
def fiveV (br : List Int) (i : Nat) : Int := pv br i 5
theorem at0_bd {br : List Int} (hb : ∀ x ∈ br, 0 ≤ x ∧ x ≤ 2) (i : Nat) : 0 ≤ at0 br i ∧ at0 br i ≤ 2 := by
  unfold at0
  rw [List.getD_eq_getElem?_getD]
  by_cases h : i < br.length
  · rw [List.getElem?_eq_getElem h]
    exact hb _ (List.getElem_mem h)
  · rw [List.getElem?_eq_none (by omega)]; simp
theorem pv_bd {br : List Int} (hb : ∀ x ∈ br, 0 ≤ x ∧ x ≤ 2) (i : Nat) : ∀ j, 0 ≤ pv br i j ∧ pv br i j < 3 ^ j
  | 0 => by simp [pv]
  | j + 1 => by
    have := pv_bd hb i j
    have h2 := at0_bd hb (i + j)
    simp only [pv, Int.pow_succ]
    omega
theorem pv_le {br : List Int} (hb : ∀ x ∈ br, 0 ≤ x ∧ x ≤ 2) (i j : Nat) (hj : j ≤ 5) : 0 ≤ pv br i j ∧ pv br i j ≤ 242 ∧ (j ≤ 4 → pv br i j ≤ 80) := by
  have h1 := pv_bd hb i j
  have : j = 0 ∨ j = 1 ∨ j = 2 ∨ j = 3 ∨ j = 4 ∨ j = 5 := by omega
  rcases this with rfl | rfl | rfl | rfl | rfl | rfl <;> simp at h1 <;> omega
def packB (br : List Int) (q : Nat) : List UInt8 := (List.range q).map fun i => byteI (fiveV br (5 * i))
theorem packB_succ (br : List Int) (q : Nat) : packB br (q + 1) = packB br q ++ [byteI (fiveV br (5 * q))] := by simp [packB, List.range_succ]
theorem packB_len (br : List Int) (q : Nat) : (packB br q).length = q := by simp [packB]
def packBody (X : Pan) : List UInt8 := [77, byteI X.1, byteI X.2.1] ++ packB X.2.2 ((X.2.2.length + 4) / 5)
def packP (X : Pan) : List UInt8 := ended (packBody X)

theorem three_bytes {h' : Heap} {W H : Int} (hW : 1 ≤ W ∧ W ≤ 8) (hH : 1 ≤ H ∧ H ≤ 8) : aBuildSlice 1 3 h' [(0, Value.agg #[U 0, U 0, U 0]), (1, U 77), (1001, U (IntKind.u8.wrap W)), (2001, U (IntKind.u8.wrap H))] =
    some (sl h'.length 0 3 1, h' ++ [⟨bytesV [77, byteI W, byteI H], true⟩]) := by
  rw [wrap8 (by omega) (by omega), wrap8 (by omega) (by omega)]
  simp [aBuildSlice, bytesV, byteI]
  omega
theorem one_byte {h' : Heap} {x : Int} (hx : 0 ≤ x ∧ x < 256) : aBuildSlice 1 1 h' [(0, Value.agg #[U 0]), (1, U x)] = some (sl h'.length 0 1 1, h' ++ [⟨bytesV [byteI x], true⟩]) := by
  simp [aBuildSlice, bytesV, byteI]
  omega

theorem c571 (v : Value) (X : Pan) (h : Heap) (hp : 0 < h.length) (hv : PtP h v X) (ok : OkP X) : ACall Gam 571 [v] h fun r h' => r = S (packP X) ∧ Grows h h' := by
  obtain ⟨b, o, s, rfl, h1, h2, h3, hs, hW, hH⟩ := hv
  obtain ⟨W, H, br⟩ := X
  obtain ⟨b2, o2, z, rfl, _, hm, hx, hc⟩ := hs.ints
  obtain ⟨qW, qH, qn, qb⟩ := ok
  have qi := inner_bd qW qH
  simp only at h1 h2 qW qH qn qb qi
  refine ACall_intro g571 rfl ?_
  unfold fn571
  simp (disch := omega) [h1, h2]
  rw [three_bytes qW qH]
  simp
  have g0 : Grows h (h ++ [⟨bytesV [77, byteI W, byteI H], true⟩]) := ⟨_, rfl⟩
  refine awp_loop (fun q σ h' => Grows h h' ∧ 5 * q ≤ br.length + 4 ∧ σ 0 = pt b o ∧ σ 4 = I ((5 * q : Nat) : Int) ∧ Buf h h' (σ 3) 1 (bytesV ([77, byteI W, byteI H] ++ packB br q))) (fun q => br.length + 4 - 5 * q) 0 ?_ ?_
  · refine ⟨g0, by omega, by simp, by simp, ?_⟩
    simp [packB]
    exact .inr ⟨h.length, 3, rfl, by simp [bytesV], Nat.le_refl _, by simp⟩
  · rintro q σ h' ⟨hg, hq, q0, q4, hb⟩
    have h3' := hg.cell h3
    simp (disch := omega) [q0, q4, h3']
    refine fork_dec (fun hlt => ?_) (fun hge => ?_)
    · simp (disch := omega) [q0, q4]
      refine awp_loop (fun j σ' h'' => h'' = h' ∧ j ≤ 5 ∧ σ' 0 = pt b o ∧ σ' 3 = σ 3 ∧ σ' 4 = I ((5 * q : Nat) : Int) ∧ σ' 6 = I ((5 * q + j : Nat) : Int) ∧ σ' 5 = I (pv br (5 * q) j)) (fun j => 5 - j) 0 ?_ ?_
      · simp [q0, q4, pv]
      · rintro j σ' h'' ⟨rfl, hj, p0, p3, p4, p6, p5⟩
        simp (disch := omega) [p4, p6, wrap64]
        refine fork_dec (fun hlt2 => ?_) (fun hge2 => ?_)
        · have hj4 : j ≤ 4 := by omega
          have hpv := pv_le qb (5 * q) j hj
          have hpv2 := pv_le qb (5 * q) (j + 1) (by omega)
          have e1 : pv br (5 * q) (j + 1) = 3 * pv br (5 * q) j + at0 br (5 * q + j) := rfl
          have ha := at0_bd qb (5 * q + j)
          simp (disch := omega) [p0, p5, p6, h3', wrap64]
          refine fork_dec (fun hlt3 => ?_) (fun hge3 => ?_)
          · have k1 : 5 * q + j < br.length := by omega
            have hcell := ints_cell (hc.imp id (grows_cellsAt hg)) k1
            have eat : at0 br (5 * q + j) = br[5 * q + j] := by simp [at0, k1]
            have et : (5 * (q : Int) + j).toNat = 5 * q + j := by omega
            have c1 : (0 : Int) ≤ 5 * q + j := by omega
            have c2 : 5 * (q : Int) + j < br.length := by omega
            simp (disch := omega) [p0, p5, p6, h3', et, c1, c2, hcell, wrap64, p3, p4]
            refine ⟨j + 1, ⟨by omega, by omega, ?_⟩, by omega⟩
            rw [e1, eat]; omega
          · have eat : at0 br (5 * q + j) = 0 := by
              unfold at0; rw [List.getD_eq_getElem?_getD, List.getElem?_eq_none (by omega)]; rfl
            simp (disch := omega) [p0, p5, p6, p3, p4, wrap64]
            exact ⟨j + 1, ⟨by omega, by omega, by omega⟩, by omega⟩
        · have : j = 5 := by omega
          subst this
          have hpv := pv_le qb (5 * q) 5 (by omega)
          simp (disch := omega) [p0, p5, p3, p4, wrap64]
          rw [wrap8 (by omega) (by omega)]
          refine append_bytes hp (xs := [byteI (pv br (5 * q) 5)]) (by simp [packB_len]; omega) hg hb (by simp) rfl (one_byte (by omega)) ?_
          intro v' h2 g1 b1
          refine ⟨q + 1, ⟨g1, by omega, by omega, ?_⟩, by omega⟩
          rw [packB_succ]
          simpa [fiveV] using b1
    · have e : q = (br.length + 4) / 5 := by omega
      simp (disch := omega) [q0, q4]
      refine callW_of (c568 _ (by simp [packB_len]; omega) h h' hp _ hg hb) ?_
      rintro v' h2 ⟨rfl, g2⟩
      simp [packP, packBody, ← e]
      exact g2

theorem c180 (v : Value) (X : Pan) (h : Heap) (hp : 0 < h.length) (hv : Vr h shPanel v X) (ok : OkP X) : ACall Gam 180 [v] h fun r h' => r = S (packP X) ∧ Grows h h' := by
  obtain ⟨W, H, br⟩ := X
  obtain ⟨s, rfl, hW, hH, hs⟩ := hv.panel
  obtain ⟨b2, o2, z, rfl, _, hm, hx, hc⟩ := hs.ints
  obtain ⟨qW, qH, qn, qb⟩ := ok
  have qi := inner_bd qW qH
  simp only at qW qH qn qb qi
  refine ACall_intro g180 rfl ?_
  unfold fn180
  simp (disch := omega)
  rw [three_bytes qW qH]
  simp
  have g0 : Grows h (h ++ [⟨bytesV [77, byteI W, byteI H], true⟩]) := ⟨_, rfl⟩
  refine awp_loop (fun q σ h' => Grows h h' ∧ 5 * q ≤ br.length + 4 ∧ σ 1 = .agg #[I W, I H, sl b2 o2 br.length z] ∧ σ 4 = I ((5 * q : Nat) : Int) ∧ Buf h h' (σ 3) 1 (bytesV ([77, byteI W, byteI H] ++ packB br q))) (fun q => br.length + 4 - 5 * q) 0 ?_ ?_
  · refine ⟨g0, by omega, by simp, by simp, ?_⟩
    simp [packB]
    exact .inr ⟨h.length, 3, rfl, by simp [bytesV], Nat.le_refl _, by simp⟩
  · rintro q σ h' ⟨hg, hq, q0, q4, hb⟩
    simp (disch := omega) [q0, q4]
    refine fork_dec (fun hlt => ?_) (fun hge => ?_)
    · simp (disch := omega) [q0, q4]
      refine awp_loop (fun j σ' h'' => h'' = h' ∧ j ≤ 5 ∧ σ' 1 = .agg #[I W, I H, sl b2 o2 br.length z] ∧ σ' 3 = σ 3 ∧ σ' 4 = I ((5 * q : Nat) : Int) ∧ σ' 6 = I ((5 * q + j : Nat) : Int) ∧ σ' 5 = U (pv br (5 * q) j)) (fun j => 5 - j) 0 ?_ ?_
      · simp [q0, q4, pv]
      · rintro j σ' h'' ⟨rfl, hj, p0, p3, p4, p6, p5⟩
        simp (disch := omega) [p4, p6, wrap64]
        refine fork_dec (fun hlt2 => ?_) (fun hge2 => ?_)
        · have hj4 : j ≤ 4 := by omega
          have hpv := pv_le qb (5 * q) j hj
          have hpv2 := pv_le qb (5 * q) (j + 1) (by omega)
          have e1 : pv br (5 * q) (j + 1) = 3 * pv br (5 * q) j + at0 br (5 * q + j) := rfl
          have ha := at0_bd qb (5 * q + j)
          simp (disch := omega) [p0, p5, p6, wrap64, wrap8]
          refine fork_dec (fun hlt3 => ?_) (fun hge3 => ?_)
          · have k1 : 5 * q + j < br.length := by omega
            have hcell := ints_cell (hc.imp id (grows_cellsAt hg)) k1
            have eat : at0 br (5 * q + j) = br[5 * q + j] := by simp [at0, k1]
            have et : (5 * (q : Int) + j).toNat = 5 * q + j := by omega
            have c1 : (0 : Int) ≤ 5 * q + j := by omega
            have c2 : 5 * (q : Int) + j < br.length := by omega
            simp (disch := omega) [p0, p5, p6, et, c1, c2, hcell, wrap64, p3, p4]
            refine ⟨j + 1, ⟨by omega, by omega, ?_⟩, by omega⟩
            rw [wrap8 (n := br[5 * q + j]) (by rw [← eat]; omega) (by rw [← eat]; omega), wrap8 (by rw [← eat]; omega) (by rw [← eat]; omega), e1, eat]; omega
          · have eat : at0 br (5 * q + j) = 0 := by
              unfold at0; rw [List.getD_eq_getElem?_getD, List.getElem?_eq_none (by omega)]; rfl
            simp (disch := omega) [p0, p5, p6, p3, p4, wrap64]
            exact ⟨j + 1, ⟨by omega, by omega, by omega⟩, by omega⟩
        · have : j = 5 := by omega
          subst this
          have hpv := pv_le qb (5 * q) 5 (by omega)
          simp (disch := omega) [p0, p5, p3, p4, wrap64]
          refine append_bytes hp (xs := [byteI (pv br (5 * q) 5)]) (by simp [packB_len]; omega) hg hb (by simp) rfl (one_byte (by omega)) ?_
          intro v' h2 g1 b1
          refine ⟨q + 1, ⟨g1, by omega, by omega, ?_⟩, by omega⟩
          rw [packB_succ]
          simpa [fiveV] using b1
    · have e : q = (br.length + 4) / 5 := by omega
      simp (disch := omega) [q0, q4]
      rw [text_buf hb]
      simp
      refine callW_of (c191 _ (by simp [packB_len]; omega) h') ?_
      rintro v' h2 ⟨rfl, g2⟩
      simp [packP, packBody, ← e]
      exact hg.trans g2

def packAnsP (X : Pan) : List UInt8 × Int := if okP X then (packP X, 0) else ([], 1)
theorem c398 (h : Heap) (hp : 0 < h.length) (v : Value) (X : Pan) (hv : Vr h shPanel v X) (hs : siz shPanel X ≤ 1048576) : ACall Gam 398 [v] h fun r h' => Grows h h' ∧ r = .tuple #[S (packAnsP X).1, I (packAnsP X).2] := by
  obtain ⟨W, H, br⟩ := X
  obtain ⟨s, rfl, hW, hH, hs⟩ := hv.panel
  refine ACall_intro g398 rfl ?_
  unfold fn398
  simp (disch := omega)
  have hpt : PtP (h ++ [⟨[I W, I H, s], true⟩]) (pt h.length 0) (W, H, br) := PtP.push hs hW hH
  refine callW_of (c452 _ _ _ hpt) ?_
  rintro v' h' ⟨rfl, rfl⟩
  cases hb : okP (W, H, br)
  · simp [packAnsP, hb]
    exact ⟨_, rfl⟩
  · simp
    refine callW_of (c571 _ _ _ (by simp) hpt (okP_iff.1 hb)) ?_
    rintro v' h' ⟨rfl, g⟩
    simp [packAnsP, hb]
    exact Grows.trans ⟨_, rfl⟩ g
theorem c107 (h : Heap) (hp : 0 < h.length) (v : Value) (X : Pan) (hv : Vr h shPanel v X) (hs : siz shPanel X ≤ 1048576) : ACall Gam 107 [v] h fun r h' => Grows h h' ∧ r = .tuple #[S (packAnsP X).1, I (packAnsP X).2] := by
  obtain ⟨W, H, br⟩ := X
  have hv0 := hv
  obtain ⟨s, rfl, hW, hH, hs⟩ := hv.panel
  refine ACall_intro g107 rfl ?_
  unfold fn107
  simp (disch := omega)
  refine callW_of (c140 _ _ h hv0) ?_
  rintro v' h' ⟨rfl, rfl⟩
  cases hb : okP (W, H, br)
  · simp [packAnsP, hb, Grows.refl]
  · simp
    refine callW_of (c180 _ _ _ hp hv0 (okP_iff.1 hb)) ?_
    rintro v' h' ⟨rfl, g⟩
    simp [packAnsP, hb, g]
end Am

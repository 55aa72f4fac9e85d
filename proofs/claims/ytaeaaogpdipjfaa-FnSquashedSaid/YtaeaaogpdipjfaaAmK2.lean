/- Contracts: AmC7, AmP1, AmP3, AmT4, AmT5, AmP4, AmP7, AmP2, AmP5, AmP6, AmP9, AmP10, AmP11, AmP12, AmP13, AmP14, AmP16, AmJ1. -/
import Derived.Test.YtaeaaogpdipjfaaAmK1
/-! AmC7 -/
set_option linter.unusedVariables false
set_option linter.unusedSimpArgs false
set_option maxHeartbeats 4000000
namespace Am
open Go

def inverse (X : List Trip) : List Trip := X.reverse.map fun t => (t.1, t.2.2, t.2.1)
end Am
/-! AmP1 -/
set_option linter.unusedVariables false
set_option linter.unusedSimpArgs false
set_option maxHeartbeats 4000000
namespace Am
open Go

abbrev Pan := Int × Int × List Int
def okBr (b : Int) : Bool := inR b 0 2
def okP (X : Pan) : Bool := okSz X.1 X.2.1 && (decide ((X.2.2.length : Int) = inner X.1 X.2.1) && X.2.2.all okBr)
structure OkP (X : Pan) : Prop where
  w : 1 ≤ X.1 ∧ X.1 ≤ 8
  h : 1 ≤ X.2.1 ∧ X.2.1 ≤ 8
  n : (X.2.2.length : Int) = inner X.1 X.2.1
  b : ∀ x ∈ X.2.2, 0 ≤ x ∧ x ≤ 2
theorem okP_iff {X : Pan} : okP X = true ↔ OkP X := by
  unfold okP
  simp only [Bool.and_eq_true, okSz_iff, decide_eq_true_eq, List.all_eq_true, okBr, inR_iff]
  exact ⟨fun ⟨⟨a, b⟩, c, d⟩ => ⟨a, b, c, d⟩, fun ⟨a, b, c, d⟩ => ⟨⟨a, b⟩, c, d⟩⟩

/-- A pointer to a panel. -/
def PtP (h : Heap) (v : Value) (X : Pan) : Prop := ∃ b o s, v = pt b o ∧ cell h b o = some (I X.1) ∧ cell h b (o + 1) = some (I X.2.1) ∧ cell h b (o + 2) = some s ∧ Vr h shInts s X.2.2 ∧ I64 X.1 ∧ I64 X.2.1
theorem Grows.cell {h h' : Heap} (g : Grows h h') {b o : Nat} {v : Value} (x : Am.cell h b o = some v) : Am.cell h' b o = some v := by
  unfold Am.cell at *
  split at x
  · rename_i k hk; rw [g.at hk]; exact x
  · cases x
theorem PtP.grow {h h' : Heap} {v : Value} {X : Pan} (x : PtP h v X) (g : Grows h h') : PtP h' v X := by
  obtain ⟨b, o, s, e, h1, h2, h3, h4, h5⟩ := x
  exact ⟨b, o, s, e, g.cell h1, g.cell h2, g.cell h3, h4.grow g, h5⟩
theorem PtP.push {h : Heap} {W H : Int} {s : Value} {br : List Int} {r : Bool} {l : List Blk} (hs : Vr h shInts s br) (hW : I64 W) (hH : I64 H) : PtP (h ++ ⟨[I W, I H, s], r⟩ :: l) (pt h.length 0) (W, H, br) := by
  refine ⟨h.length, 0, s, rfl, ?_, ?_, ?_, hs.grow ⟨_, rfl⟩, hW, hH⟩ <;> simp [Am.cell]

theorem c449 (a : Int) (h : Heap) : ACall Gam 449 [I a] h fun v h' => v = B (okBr a) ∧ h' = h := by
  refine ACall_intro g449 rfl ?_
  unfold fn449
  simp (disch := omega)
  refine callW_of (c432 a 0 2 h) ?_
  rintro v h' ⟨rfl, rfl⟩
  simp [okBr]
theorem c196 (a : Int) (h : Heap) : ACall Gam 196 [I a] h fun v h' => v = B (okBr a) ∧ h' = h := by
  refine ACall_intro g196 rfl ?_
  unfold fn196
  simp (disch := omega)
  refine callW_of (c164 a 0 2 h) ?_
  rintro v h' ⟨rfl, rfl⟩
  simp [okBr]

theorem all_drop {α : Type} {p : α → Bool} {l : List α} {k : Nat} (hk : k < l.length) : (l.drop k).all p = (p l[k] && (l.drop (k + 1)).all p) := by
  rw [List.drop_eq_getElem_cons hk]; rfl

theorem c452 (v : Value) (X : Pan) (h : Heap) (hv : PtP h v X) : ACall Gam 452 [v] h fun r h' => r = B (okP X) ∧ h' = h := by
  obtain ⟨b, o, s, rfl, h1, h2, h3, hs, hW, hH⟩ := hv
  obtain ⟨W, H, br⟩ := X
  obtain ⟨b2, o2, z, rfl, _, hm, hx, hc⟩ := hs.ints
  rw [maxLen_eq] at hm
  have hm : br.length ≤ 9223372036854775807 := hm
  simp only at h1 h2
  refine ACall_intro g452 rfl ?_
  unfold fn452
  simp (disch := omega) [h1, h2, h3]
  refine callW_of (c457 W h) ?_
  rintro v h' ⟨rfl, rfl⟩
  cases hb : inR W 1 8
  · simp [okP, okSz, hb]
  · simp (disch := omega) [h1, h2, h3]
    refine callW_of (c457 H h') ?_
    rintro v h' ⟨rfl, rfl⟩
    cases hc' : inR H 1 8
    · simp [okP, okSz, hb, hc']
    · simp (disch := omega) [h1, h2, h3]
      have qW := inR_iff.1 hb
      have qH := inR_iff.1 hc'
      refine callW_of (c448 W H qW qH h') ?_
      rintro v h' ⟨rfl, rfl⟩
      refine ⟨fun _ => Grows.refl _, ?_⟩
      simp (disch := omega) [h1, h2, h3]
      refine fork_dec (fun hn => ?_) (fun hn => ?_)
      · simp (disch := omega)
        refine awp_loop (fun k σ h'' => h'' = h' ∧ k ≤ br.length ∧ (br.drop k).all okBr = br.all okBr ∧ σ 0 = pt b o ∧ σ 3 = I k) (fun k => br.length - k) 0 ?_ ?_
        · simp
        · rintro k σ h'' ⟨rfl, hk, ht, q0, q3⟩
          simp (disch := omega) [q0, q3, h3]
          refine fork_dec (fun hlt => ?_) (fun hge => ?_)
          · have k1 : k < br.length := by omega
            simp (disch := omega) [q0, q3, h3, k1, ints_cell hc k1]
            refine callW_of (c432 br[k] 0 2 _) ?_
            rintro v h' ⟨rfl, rfl⟩
            rw [all_drop k1] at ht
            have eb : inR br[k] 0 2 = okBr br[k] := rfl
            rw [eb]
            cases hbr : okBr br[k]
            · rw [hbr] at ht
              simp [okP, okSz, hb, hc', hn, ← ht]
            · rw [hbr] at ht
              simp (disch := omega) [q0, q3, wrap64]
              exact ⟨k + 1, ⟨by omega, by simpa using ht, by omega⟩, by omega⟩
          · have : k = br.length := by omega
            subst this
            simp at ht
            simp [okP, okSz, hb, hc', hn]
            exact ht
      · simp [okP, okSz, hb, hc', hn]

theorem c140 (v : Value) (X : Pan) (h : Heap) (hv : Vr h shPanel v X) : ACall Gam 140 [v] h fun r h' => r = B (okP X) ∧ h' = h := by
  obtain ⟨W, H, br⟩ := X
  obtain ⟨s, rfl, hW, hH, hs⟩ := hv.panel
  obtain ⟨b2, o2, z, rfl, _, hm, hx, hc⟩ := hs.ints
  rw [maxLen_eq] at hm
  refine ACall_intro g140 rfl ?_
  unfold fn140
  simp (disch := omega)
  refine callW_of (c198 W H h) ?_
  rintro v h' ⟨rfl, rfl⟩
  cases hb : okSz W H
  · simp [okP, hb]
  · obtain ⟨qW, qH⟩ := okSz_iff.1 hb
    simp (disch := omega)
    refine callW_of (c166 W H qW qH h') ?_
    rintro v h' ⟨rfl, rfl⟩
    simp (disch := omega)
    refine fork_dec (fun hn => ?_) (fun hn => ?_)
    · simp (disch := omega)
      refine awp_loop (fun k σ h'' => h'' = h' ∧ k ≤ br.length ∧ (br.drop k).all okBr = br.all okBr ∧ σ 23 = sl b2 o2 br.length z ∧ σ 24 = I br.length ∧ σ 25 = I k) (fun k => br.length - k) 0 ?_ ?_
      · simp
      · rintro k σ h'' ⟨rfl, hk, ht, q0, q1, q3⟩
        simp (disch := omega) [q0, q1, q3]
        refine fork_dec (fun hlt => ?_) (fun hge => ?_)
        · have k1 : k < br.length := by omega
          simp (disch := omega) [q0, q1, q3, k1, ints_cell hc k1]
          refine callW_of (c196 br[k] _) ?_
          rintro v h' ⟨rfl, rfl⟩
          rw [all_drop k1] at ht
          cases hbr : okBr br[k]
          · rw [hbr] at ht
            simp [okP, hb, hn, ← ht]
          · rw [hbr] at ht
            simp (disch := omega) [q0, q1, q3, wrap64]
            exact ⟨k + 1, ⟨by omega, by simpa using ht, by omega⟩, by omega⟩
        · have : k = br.length := by omega
          subst this
          simp at ht
          simp [okP, hb, hn]
          exact ht
    · simp [okP, hb, hn]
def at0 (br : List Int) (i : Nat) : Int := br.getD i 0
theorem at0_of {br : List Int} {i : Nat} (h : i < br.length) : at0 br i = br[i] := by simp [at0, h]
end Am
/-! AmP3 -/
set_option linter.unusedVariables false
set_option linter.unusedSimpArgs false
set_option maxHeartbeats 4000000
namespace Am
open Go

/-- A slice of numbers appended to an empty one: its own copy. -/
theorem own_ints {h : Heap} {v : Value} {X : List Int} {K : Value → Heap → Prop} (hp : 0 < h.length) (hv : Vr h shInts v X) (hs : X.length ≤ 1048576) (hK : ∀ v' h', Grows h h' → Vo h' h.length h'.length shInts v' X → K v' h') :
    bindW (aAppend 1 h v (sl 0 0 0 1)) K := by
  obtain ⟨b, o, z, rfl, hz, hm, hx, hc⟩ := hv.ints
  by_cases hX : X = []
  · subst hX
    have e : aAppend 1 h (sl b o (List.length ([] : List Int)) z) (sl 0 0 0 1) = some (sl 0 0 0 1, h) := by simp [aAppend, newCells]
    rw [e]
    exact hK _ _ (Grows.refl _) (Vo.of_ints (X := []) (.inl rfl) (by simp) (by simp) (.inl rfl))
  · have hc := hc.resolve_left hX
    have hne : X.length ≠ 0 := by simpa using hX
    refine append_buf hp (Grows.refl h) Buf.nil (new := ints X) ?_ (by omega) (by simpa [ints] using hX) (by simp [ints]) (by simp [ints, maxSize]; omega) ?_
    · simp [newCells, hX, hc]
    · intro v' h' g b1 _
      refine hK v' h' g ?_
      obtain ⟨b2, z2, rfl, hz2, _, _, hc2⟩ := (Buf.ints (by simpa using b1) hm hx).ints
      exact Vo.of_ints hz2 hm hx (hc2.imp id fun q => ⟨q.1, q.2.1, at_lt q.1⟩)

theorem c435 (h : Heap) (v : Value) (X : List Int) (hp : 0 < h.length) (hv : Vr h shInts v X) (hs : X.length ≤ 1048576) : ACall Gam 435 [v] h fun r h' => Grows h h' ∧ Vo h' h.length h'.length shInts r X := by
  refine ACall_intro g435 rfl ?_
  unfold fn435
  simp (disch := omega)
  refine own_ints hp hv hs fun v' h' g o => ?_
  obtain ⟨b, z, e, _⟩ := o.ints
  subst e
  exact ⟨g, o⟩
theorem c308 (h : Heap) (v : Value) (X : List Int) (hp : 0 < h.length) (hv : Vr h shInts v X) (hs : X.length ≤ 1048576) : ACall Gam 308 [v] h fun r h' => Grows h h' ∧ Vo h' h.length h'.length shInts r X := by
  have hv0 := hv
  obtain ⟨b, o, z, rfl, hz, hm, hx, hc⟩ := hv.ints
  refine ACall_intro g308 rfl ?_
  unfold fn308
  simp (disch := omega)
  refine fork_intro (fun hn => ?_) (fun hn => ?_)
  · simp at hn
    rcases hz with hz | ⟨_, rfl⟩
    · omega
    · simp
      exact ⟨Grows.refl _, Vo.of_ints (X := []) (.inr ⟨rfl, rfl⟩) (by simp) (by simp) (.inl rfl)⟩
  · simp (disch := omega)
    refine own_ints hp hv0 hs fun v' h' g o => ?_
    obtain ⟨b, z, e, _⟩ := o.ints
    subst e
    exact ⟨g, o⟩

theorem c453 (h : Heap) (v : Value) (X : Pan) (hp : 0 < h.length) (hv : PtP h v X) (hs : X.2.2.length ≤ 1048576) : ACall Gam 453 [v] h fun r h' => Grows h h' ∧ Vo h' h.length h'.length shPanel r X := by
  obtain ⟨b, o, s, rfl, h1, h2, h3, hvs, hW, hH⟩ := hv
  obtain ⟨W, H, br⟩ := X
  refine ACall_intro g453 rfl ?_
  unfold fn453
  simp (disch := omega) [h1, h2, h3]
  refine callW_of (c435 _ _ br hp hvs hs) ?_
  rintro v' h' ⟨g, ov⟩
  refine ⟨fun _ => g, ?_⟩
  obtain ⟨b, z, e, _⟩ := ov.ints
  subst e
  simp (disch := omega) [resOf_box, aField]
  exact ⟨g, Vo.of_panel hW hH ov⟩
theorem c150 (h : Heap) (v : Value) (X : Pan) (hp : 0 < h.length) (hv : Vr h shPanel v X) (hs : X.2.2.length ≤ 1048576) : ACall Gam 150 [v] h fun r h' => Grows h h' ∧ Vo h' h.length h'.length shPanel r X := by
  obtain ⟨W, H, br⟩ := X
  obtain ⟨s, rfl, hW, hH, hvs⟩ := hv.panel
  refine ACall_intro g150 rfl ?_
  unfold fn150
  simp (disch := omega)
  refine callW_of (c308 _ _ br hp hvs hs) ?_
  rintro v' h' ⟨g, ov⟩
  obtain ⟨b, z, e, _⟩ := ov.ints
  subst e
  simp (disch := omega) [resOf_box, aField]
  exact ⟨g, Vo.of_panel hW hH ov⟩

/-! ### new panels -/
def newP (W H : Int) : Pan := (W, H, List.replicate (inner W H).toNat 0)
theorem newP_ok {W H : Int} (hW : 1 ≤ W ∧ W ≤ 8) (hH : 1 ≤ H ∧ H ≤ 8) : OkP (newP W H) := by
  have := inner_bd hW hH
  refine ⟨hW, hH, ?_, ?_⟩
  · simp [newP]; omega
  · intro x hx
    simp [newP] at hx
    omega
theorem reps_ints (n : Nat) : reps n [I 0] = ints (List.replicate n 0) := by
  induction n with
  | zero => rfl
  | succ n ih => rw [reps_succ, ih, List.replicate_succ]; rfl
/-! ### sizes -/
def sameSz (X Y : Pan) : Bool := decide (X.1 = Y.1) && decide (X.2.1 = Y.2.1)
def allOk : List Pan → Bool := fun l => l.all okP
def sizesCode (l : List Pan) : Int := if l.all okP then (if (l.drop 1).all fun y => sameSz y (l.headD (0, 0, [])) then 0 else 6) else 1
end Am
/-! AmT4 -/
set_option linter.unusedVariables false
set_option linter.unusedSimpArgs false
set_option maxHeartbeats 4000000
namespace Am
open Go

abbrev Pan3 := Int × Int × List Int
abbrev Jrn := Pan3 × List Trip × List Trip
theorem Rd.one {h : Heap} {a : Shp} {cs : List Value} {X : List a.T} (r : Rd h (.slice a) cs X) : ∃ s, cs = [s] := by
  have := r.len
  match cs, this with
  | [s], _ => exact ⟨s, rfl⟩
theorem Vr.journal {h : Heap} {v : Value} {W H : Int} {br : List Int} {p f : List Trip} (x : Vr h shJournal v ((W, H, br), p, f)) : ∃ s sp sf, v = .agg #[I W, I H, s, sp, sf] ∧ I64 W ∧ I64 H ∧ Vr h shInts s br ∧ Vr h shTrips sp p ∧ Vr h shTrips sf f := by
  obtain ⟨cs, ⟨c1, c2, rfl, ⟨c3, c4, rfl, ⟨rfl, w1⟩, c5, c6, rfl, ⟨rfl, w2⟩, r1⟩, c7, c8, rfl, r2, r3⟩, rfl⟩ := x
  obtain ⟨s, rfl⟩ := Rd.one r1
  obtain ⟨sp, rfl⟩ := Rd.one r2
  obtain ⟨sf, rfl⟩ := Rd.one r3
  exact ⟨s, sp, sf, rfl, wf_i64.1 w1, wf_i64.1 w2, ⟨_, r1, rfl⟩, ⟨_, r2, rfl⟩, ⟨_, r3, rfl⟩⟩
theorem Vr.of_journal {h : Heap} {W H : Int} {br : List Int} {p f : List Trip} {s sp sf : Value} (h1 : I64 W) (h2 : I64 H) (r1 : Vr h shInts s br) (r2 : Vr h shTrips sp p) (r3 : Vr h shTrips sf f) : Vr h shJournal (.agg #[I W, I H, s, sp, sf]) ((W, H, br), p, f) := by
  obtain ⟨_, r1, rfl⟩ := r1
  obtain ⟨_, r2, rfl⟩ := r2
  obtain ⟨_, r3, rfl⟩ := r3
  obtain ⟨s, rfl⟩ := Rd.one r1
  obtain ⟨sp, rfl⟩ := Rd.one r2
  obtain ⟨sf, rfl⟩ := Rd.one r3
  exact ⟨[I W, I H, s, sp, sf], ⟨[I W, I H, s], [sp, sf], rfl, ⟨[I W], [I H, s], rfl, ⟨rfl, wf_i64.2 h1⟩, [I H], [s], rfl, ⟨rfl, wf_i64.2 h2⟩, r1⟩, [sp], [sf], rfl, r2, r3⟩, rfl⟩

/-- The blocks from l on, before u: none, or within these bounds. -/
def Sub2 (lo hi l u : Nat) : Prop := l = u ∨ lo ≤ l ∧ u ≤ hi
theorem iv_ints {h : Heap} {cs : List Value} {X : List Int} {bs : List Nat} (r : Ow h shInts cs X bs) : ∃ s l u, cs = [s] ∧ Vo h l u shInts s X ∧ (bs = [] ∧ l = 0 ∧ u = 0 ∨ bs = [l] ∧ u = l + 1) := by
  obtain ⟨b, z, css, bss, rfl, hz, hm, h1, h2⟩ := r
  obtain ⟨e1, e2, e3⟩ := All3.ints h1
  rcases h2 with ⟨h2, h3⟩ | ⟨h2, h3, h4⟩
  · exact ⟨_, 0, 0, rfl, Vo.of_ints hz hm e2 (.inl h2), .inl ⟨h3, rfl, rfl⟩⟩
  · rw [e3] at h3; rw [e1] at h4
    exact ⟨_, b, b + 1, rfl, Vo.of_ints hz hm e2 (.inr ⟨h4, by omega, by omega⟩), .inr ⟨h3, rfl⟩⟩
theorem iv_trips {h : Heap} {cs : List Value} {X : List Trip} {bs : List Nat} (r : Ow h shTrips cs X bs) : ∃ s l u, cs = [s] ∧ Vo h l u shTrips s X ∧ (bs = [] ∧ l = 0 ∧ u = 0 ∨ bs = [l] ∧ u = l + 1) := by
  obtain ⟨b, z, css, bss, rfl, hz, hm, h1, h2⟩ := r
  obtain ⟨e1, e2, e3⟩ := All3.trips h1
  rcases h2 with ⟨h2, h3⟩ | ⟨h2, h3, h4⟩
  · exact ⟨_, 0, 0, rfl, Vo.of_trips hz hm e2 (.inl h2), .inl ⟨h3, rfl, rfl⟩⟩
  · rw [e3] at h3; rw [e1] at h4
    exact ⟨_, b, b + 1, rfl, Vo.of_trips hz hm e2 (.inr ⟨h4, by omega, by omega⟩), .inr ⟨h3, rfl⟩⟩
/-- Apart. -/
def Dis (l u l' u' : Nat) : Prop := u ≤ l' ∨ u' ≤ l
theorem Vo.journal {h : Heap} {lo hi : Nat} {v : Value} {W H : Int} {br : List Int} {p f : List Trip} (x : Vo h lo hi shJournal v ((W, H, br), p, f)) : ∃ s sp sf l1 u1 l2 u2 l3 u3, v = .agg #[I W, I H, s, sp, sf] ∧ I64 W ∧ I64 H ∧
    Vo h l1 u1 shInts s br ∧ Vo h l2 u2 shTrips sp p ∧ Vo h l3 u3 shTrips sf f ∧ Sub2 lo hi l1 u1 ∧ Sub2 lo hi l2 u2 ∧ Sub2 lo hi l3 u3 ∧ Dis l1 u1 l2 u2 ∧ Dis l1 u1 l3 u3 ∧ Dis l2 u2 l3 u3 := by
  obtain ⟨cs, bs, ⟨c1, c2, b1, b2, rfl, rfl, ⟨c3, c4, b3, b4, rfl, rfl, ⟨rfl, w1, rfl⟩, c5, c6, b5, b6, rfl, rfl, ⟨rfl, w2, rfl⟩, r1⟩, c7, c8, b7, b8, rfl, rfl, r2, r3⟩, rfl, nd, hb⟩ := x
  obtain ⟨s, l1, u1, rfl, o1, q1⟩ := iv_ints r1
  obtain ⟨sp, l2, u2, rfl, o2, q2⟩ := iv_trips r2
  obtain ⟨sf, l3, u3, rfl, o3, q3⟩ := iv_trips r3
  refine ⟨s, sp, sf, l1, u1, l2, u2, l3, u3, rfl, wf_i64.1 w1, wf_i64.1 w2, o1, o2, o3, ?_, ?_, ?_, ?_, ?_, ?_⟩
  all_goals
    (first | unfold Sub2 | unfold Dis) <;>
    rcases q1 with ⟨rfl, rfl, rfl⟩ | ⟨rfl, rfl⟩ <;> rcases q2 with ⟨rfl, rfl, rfl⟩ | ⟨rfl, rfl⟩ <;> rcases q3 with ⟨rfl, rfl, rfl⟩ | ⟨rfl, rfl⟩ <;> simp at nd hb <;> omega
theorem Vo.of_journal {h : Heap} {lo hi l1 u1 l2 u2 l3 u3 : Nat} {W H : Int} {br : List Int} {p f : List Trip} {s sp sf : Value} (h1 : I64 W) (h2 : I64 H) (r1 : Vo h l1 u1 shInts s br) (r2 : Vo h l2 u2 shTrips sp p) (r3 : Vo h l3 u3 shTrips sf f)
    (s1 : Sub2 lo hi l1 u1) (s2 : Sub2 lo hi l2 u2) (s3 : Sub2 lo hi l3 u3) (d1 : Dis l1 u1 l2 u2) (d2 : Dis l1 u1 l3 u3) (d3 : Dis l2 u2 l3 u3) : Vo h lo hi shJournal (.agg #[I W, I H, s, sp, sf]) ((W, H, br), p, f) := by
  obtain ⟨_, b1, r1, rfl, n1, k1⟩ := r1
  obtain ⟨_, b2, r2, rfl, n2, k2⟩ := r2
  obtain ⟨_, b3, r3, rfl, n3, k3⟩ := r3
  obtain ⟨s, rfl⟩ := Rd.one r1.rd
  obtain ⟨sp, rfl⟩ := Rd.one r2.rd
  obtain ⟨sf, rfl⟩ := Rd.one r3.rd
  refine ⟨[I W, I H, s, sp, sf], b1 ++ (b2 ++ b3), ⟨[I W, I H, s], [sp, sf], b1, b2 ++ b3, rfl, rfl, ⟨[I W], [I H, s], [], b1, rfl, rfl, ⟨rfl, wf_i64.2 h1, rfl⟩, [I H], [s], [], b1, rfl, rfl, ⟨rfl, wf_i64.2 h2, rfl⟩, r1⟩, [sp], [sf], b2, b3, rfl, rfl, r2, r3⟩, rfl, ?_, ?_⟩
  · rw [List.nodup_append, List.nodup_append]
    refine ⟨n1, ⟨n2, n3, fun a ha b hb e => ?_⟩, fun a ha b hb e => ?_⟩
    · subst e
      have := k2 a ha; have := k3 a hb
      unfold Dis at d3; omega
    · subst e
      have := k1 a ha
      unfold Dis at d1 d2
      rcases List.mem_append.1 hb with hb | hb
      · have := k2 a hb; omega
      · have := k3 a hb; omega
  · intro b hb
    unfold Sub2 at s1 s2 s3
    rcases List.mem_append.1 hb with hb | hb
    · have := k1 b hb; omega
    · rcases List.mem_append.1 hb with hb | hb
      · have := k2 b hb; omega
      · have := k3 b hb; omega

theorem siz_journal (W H : Int) (br : List Int) (p f : List Trip) : siz shJournal ((W, H, br), p, f) = br.length + (p.length + f.length) := by
  show siz shPanel (W, H, br) + (siz shTrips p + siz shTrips f) = _
  rw [siz_panel, siz_trips, siz_trips]
end Am
/-! AmT5 -/
set_option linter.unusedVariables false
set_option linter.unusedSimpArgs false
set_option maxHeartbeats 4000000
namespace Am
open Go

abbrev Kpt := List UInt8 × Pan3
def sizL (X : List Kpt) : Nat := (X.map fun y => siz shKept y).sum
end Am
/-! AmP4 -/
set_option linter.unusedVariables false
set_option linter.unusedSimpArgs false
set_option maxHeartbeats 4000000
namespace Am
open Go

/-! ### differences -/
def dpre (a b : List Int) (n : Nat) : List Trip := (List.range n).flatMap fun i => if at0 a i = at0 b i then [] else [((i : Int), at0 a i, at0 b i)]
theorem dpre_succ (a b : List Int) (n : Nat) : dpre a b (n + 1) = dpre a b n ++ if at0 a n = at0 b n then [] else [((n : Int), at0 a n, at0 b n)] := by simp [dpre, List.range_succ]
theorem dpre_len (a b : List Int) (n : Nat) : (dpre a b n).length ≤ n := by
  induction n with
  | zero => simp [dpre]
  | succ n ih => rw [dpre_succ]; simp; split <;> simp <;> omega
theorem at0wide {a : List Int} (h : ∀ x ∈ a, I64 x) (i : Nat) : I64 (at0 a i) := by
  unfold at0
  rw [List.getD_eq_getElem?_getD]
  by_cases hi : i < a.length
  · rw [List.getElem?_eq_getElem hi]; exact h _ (List.getElem_mem hi)
  · rw [List.getElem?_eq_none (by omega)]; simp [I64]
theorem dpre_64 {a b : List Int} (ha : ∀ x ∈ a, I64 x) (hb : ∀ x ∈ b, I64 x) {n : Nat} (hn : n ≤ 1048576) : ∀ x ∈ dpre a b n, T64 x := by
  intro x hx
  obtain ⟨i, hi, hx⟩ := List.mem_flatMap.1 hx
  have := List.mem_range.1 hi
  split at hx
  · simp at hx
  · simp at hx; subst hx
    exact ⟨by unfold I64; simp; omega, at0wide ha i, at0wide hb i⟩
def diffAns (X Y : Pan) : List Trip × Int := if okP X && okP Y then (if sameSz X Y then (dpre X.2.2 Y.2.2 X.2.2.length, 0) else ([], 6)) else ([], 1)
theorem Vo.no_ints {h : Heap} {lo hi : Nat} : Vo h lo hi shInts (sl 0 0 0 0) ([] : List Int) := Vo.of_ints (X := []) (.inr ⟨rfl, rfl⟩) (by simp) (by simp) (.inl rfl)

end Am
/-! AmP7 -/
set_option linter.unusedVariables false
set_option linter.unusedSimpArgs false
set_option maxHeartbeats 4000000
namespace Am
open Go

def newDesk : Jrn := (newP 3 2, [], [])
theorem Vo.no_steps {h : Heap} {lo hi : Nat} : Vo h lo hi shTrips (sl 0 0 0 0) ([] : List Trip) := Vo.of_trips (X := []) (.inr ⟨rfl, rfl⟩) (by simp) (by simp) (.inl rfl)
/-! ### equal lists -/
theorem take_ne {α : Type} {X Y : List α} {k : Nat} (h1 : k < X.length) (h2 : k < Y.length) (hne : ¬ X[k] = Y[k]) : ¬ X = Y := fun e => by subst e; exact hne rfl
theorem c436 (h : Heap) (v w : Value) (X Y : List Int) (hv : Vr h shInts v X) (hw : Vr h shInts w Y) : ACall Gam 436 [v, w] h fun r h' => r = B (decide (X = Y)) ∧ h' = h := by
  obtain ⟨b1, o1, z1, rfl, _, hm1, _, hc1⟩ := hv.ints
  obtain ⟨b2, o2, z2, rfl, _, hm2, _, hc2⟩ := hw.ints
  rw [maxLen_eq] at hm1 hm2
  refine ACall_intro g436 rfl ?_
  unfold fn436
  simp (disch := omega)
  refine fork_dec (fun heq => ?_) (fun hne => ?_)
  · simp (disch := omega)
    refine awp_loop (fun k σ h' => h' = h ∧ k ≤ X.length ∧ X.take k = Y.take k ∧ σ 0 = sl b1 o1 X.length z1 ∧ σ 1 = sl b2 o2 Y.length z2 ∧ σ 5 = I k) (fun k => X.length - k) 0 ?_ ?_
    · simp
    · rintro k σ h' ⟨rfl, hk, ht, h0, h1, h5⟩
      simp (disch := omega) [h0, h1, h5]
      refine fork_dec (fun hlt => ?_) (fun hge => ?_)
      · have k1 : k < X.length := by omega
        have k2 : k < Y.length := by omega
        simp (disch := omega) [h0, h1, h5, ints_cell hc1 k1, ints_cell hc2 k2, k1, k2]
        refine fork_dec (fun he => ?_) (fun he => ?_)
        · simp (disch := omega) [h0, h1, h5]
          refine ⟨k + 1, ⟨by omega, ?_, ?_⟩, by omega⟩
          · rw [List.take_succ_eq_append_getElem k1, List.take_succ_eq_append_getElem k2, ht, he]
          · rw [wrap64 (by omega) (by omega)]; simp
        · simp (disch := omega) [h0, h1, h5]
          exact take_ne k1 k2 he
      · simp (disch := omega) [h0, h1, h5]
        have q1 : k = X.length := by omega
        have q2 : X.length = Y.length := by omega
        subst q1
        rw [List.take_length, q2, List.take_length] at ht
        exact ht
  · simp (disch := omega)
    intro e; apply hne; rw [e]
theorem trips_at {h : Heap} {v : Value} {X : List Trip} (x : Vr h shTrips v X) : ∃ b o z, v = sl b o X.length z ∧ X.length ≤ maxLen ∧ ∀ i (hi : i < X.length), cellsAt h b (o + i * 3) 3 = some (trip X[i]) := by
  obtain ⟨b, o, z, rfl, _, hm, hel⟩ := x.slice
  refine ⟨b, o, z, rfl, hm, fun i hi => ?_⟩
  obtain ⟨c, hc, r⟩ := hel i hi
  obtain ⟨rfl, _⟩ := rd_trip.1 r
  exact hc
def samP (X Y : Pan) : Bool := decide (X = Y)
theorem samP_mk (W H W2 H2 : Int) (br br2 : List Int) : samP (W, H, br) (W2, H2, br2) = (decide (W = W2) && (decide (H = H2) && decide (br = br2))) := by
  simp only [samP, Prod.mk.injEq, Bool.decide_and]
theorem c456 (h : Heap) (v w : Value) (X Y : Pan) (hv : PtP h v X) (hw : PtP h w Y) : ACall Gam 456 [v, w] h fun r h' => r = B (samP X Y) ∧ h' = h := by
  obtain ⟨W, H, br⟩ := X
  obtain ⟨W2, H2, br2⟩ := Y
  obtain ⟨b, o, s, rfl, x1, x2, x3, hs, _⟩ := hv
  obtain ⟨b', o', s', rfl, y1, y2, y3, hs', _⟩ := hw
  rw [samP_mk]
  refine ACall_intro g456 rfl ?_
  unfold fn456
  simp (disch := omega) [x1, x2, x3, y1, y2, y3]
  refine fork_dec (fun e1 => ?_) (fun e1 => ?_)
  · simp (disch := omega) [x1, x2, x3, y1, y2, y3, e1]
    refine fork_dec (fun e2 => ?_) (fun e2 => ?_)
    · simp (disch := omega) [x1, x2, x3, y1, y2, y3, e1, e2]
      refine callW_of (c436 h _ _ br br2 hs hs') ?_
      rintro _ h' ⟨rfl, rfl⟩
      simp [e1, e2]
    · simp (disch := omega) [x1, x2, x3, y1, y2, y3, e1, e2]
  · simp (disch := omega) [x1, x2, x3, y1, y2, y3, e1]
def samJ (X Y : Jrn) : Bool := samP X.1 Y.1 && (decide (X.2.1 = Y.2.1) && decide (X.2.2 = Y.2.2))
end Am
/-! AmP2 -/
set_option linter.unusedVariables false
set_option linter.unusedSimpArgs false
set_option maxHeartbeats 4000000
namespace Am
open Go

def byteI (x : Int) : UInt8 := UInt8.ofNat x.toNat
def ended (l : List UInt8) : List UInt8 := l ++ [byteI (checksum l / 256), byteI (checksum l % 256)]
/-! ### the digits of five breaks -/

def pv (br : List Int) (i : Nat) : Nat → Int
  | 0 => 0
  | j + 1 => 3 * pv br i j + at0 br (i + j)
def fiveV (br : List Int) (i : Nat) : Int := pv br i 5
def packB (br : List Int) (q : Nat) : List UInt8 := (List.range q).map fun i => byteI (fiveV br (5 * i))
def packBody (X : Pan) : List UInt8 := [77, byteI X.1, byteI X.2.1] ++ packB X.2.2 ((X.2.2.length + 4) / 5)
def packP (X : Pan) : List UInt8 := ended (packBody X)

def packAnsP (X : Pan) : List UInt8 × Int := if okP X then (packP X, 0) else ([], 1)
end Am
/-! AmP5 -/
set_option linter.unusedVariables false
set_option linter.unusedSimpArgs false
set_option maxHeartbeats 4000000
namespace Am
open Go

def clash (o a b : List Int) (i : Nat) : Bool := decide (at0 a i ≠ at0 o i) && (decide (at0 b i ≠ at0 o i) && decide (at0 a i ≠ at0 b i))
def cpre (o a b : List Int) (n : Nat) : List Int := (List.range n).flatMap fun i => if clash o a b i then [(i : Int)] else []
def clashCode (X0 X1 X2 : Pan) : Int := if okP X0 && (okP X1 && okP X2) then (if sameSz X0 X1 && sameSz X0 X2 then 0 else 6) else 1
def clashAns (X0 X1 X2 : Pan) : List Int × Int := (if clashCode X0 X1 X2 = 0 then cpre X0.2.2 X1.2.2 X2.2.2 X0.2.2.length else [], clashCode X0 X1 X2)
end Am
/-! AmP6 -/
set_option linter.unusedVariables false
set_option linter.unusedSimpArgs false
set_option maxHeartbeats 4000000
namespace Am
open Go

def mpre (o a b : List Int) (n : Nat) : List Int := (List.range n).map fun i => if at0 b i = at0 o i then at0 a i else at0 b i
def mergeCode (X0 X1 X2 : Pan) : Int := if (clashAns X0 X1 X2).2 = 0 then (if (clashAns X0 X1 X2).1 = [] then 0 else 9) else (clashAns X0 X1 X2).2
def mergeAns (X0 X1 X2 : Pan) : Pan × Int := (if mergeCode X0 X1 X2 = 0 then (X1.1, X1.2.1, mpre X0.2.2 X1.2.2 X2.2.2 X0.2.2.length) else (0, 0, []), mergeCode X0 X1 X2)
theorem Vo.no_panel {h : Heap} {lo hi : Nat} : Vo h lo hi shPanel (.agg #[I 0, I 0, sl 0 0 0 0]) ((0, 0, []) : Pan) := Vo.of_panel (by unfold I64; omega) (by unfold I64; omega) Vo.no_ints
end Am
/-! AmP9 -/
set_option linter.unusedVariables false
set_option linter.unusedSimpArgs false
set_option maxHeartbeats 4000000
set_option maxRecDepth 4000
namespace Am
open Go

/-! ### numbers written one by one -/
def fillB (f : Nat → Int) (P : Nat → Bool) (n : Nat) : List Int := (List.range n).map fun j => if P j then f j else 0
/-! ### the bytes -/
def bn (s : List UInt8) (i : Nat) : Nat := (s.getD i 0).toNat
def dv (x j : Nat) : Nat := x / 3 ^ j
def brk (s : List UInt8) (k : Nat) : Nat := dv (bn s (3 + k / 5)) (4 - k % 5) % 3
def unB (s : List UInt8) (n : Nat) : List Int := (List.range n).map fun k => ((brk s k : Nat) : Int)
def unP (s : List UInt8) : Pan := (bn s 1, bn s 2, unB s (inner (bn s 1) (bn s 2)).toNat)
def lenOk (s : List UInt8) : Bool := decide (5 ≤ s.length) && (okSz (bn s 1) (bn s 2) && decide ((s.length : Int) = packSize (bn s 1) (bn s 2)))
def unOk (s : List UInt8) : Bool := lenOk s && decide (packP (unP s) = s)
def sumOk (s : List UInt8) : Bool := decide (checksum (s.take (s.length - 2)) = 256 * (bn s (s.length - 2) : Int) + bn s (s.length - 1))
def fault (s : List UInt8) : Int := if s.length < 5 ∨ bn s 0 ≠ 77 ∨ okSz (bn s 1) (bn s 2) = false then 1 else if (s.length : Int) ≠ packSize (bn s 1) (bn s 2) then 2 else if sumOk s = false then 3 else if packP (unP s) ≠ s then 4 else 0

/-! ### the program's -/
def unRes (s : List UInt8) : Pan := if lenOk s then unP s else (0, 0, [])
def unAns (s : List UInt8) : Pan × Int := if unOk s then (unP s, 0) else ((0, 0, []), 8)
end Am
/-! AmP10 -/
set_option linter.unusedVariables false
set_option linter.unusedSimpArgs false
set_option maxHeartbeats 4000000
set_option maxRecDepth 4000
namespace Am
open Go

theorem store_box {h : Heap} {cs xs : List Value} (hl : xs.length = cs.length) : storeAt (h ++ [⟨cs, true⟩]) h.length 0 xs = some (h ++ [⟨xs, true⟩]) := by
  unfold storeAt
  simp [hl]
theorem PtP.at {h : Heap} {b : Nat} {W H : Int} {s : Value} {br : List Int} {r : Bool} (hb : h[b]? = some ⟨[I W, I H, s], r⟩) (hs : Vr h shInts s br) (hW : I64 W) (hH : I64 H) : PtP h (pt b 0) (W, H, br) :=
  ⟨b, 0, s, rfl, by simp [Am.cell, hb], by simp [Am.cell, hb], by simp [Am.cell, hb], hs, hW, hH⟩
end Am
/-! AmP11 -/
set_option linter.unusedVariables false
set_option linter.unusedSimpArgs false
set_option maxHeartbeats 4000000
set_option maxRecDepth 4000
namespace Am
open Go

/-- How many inner points lie above row y. -/
def rowN (W : Nat) : Nat → Nat
  | 0 => 0
  | y + 1 => rowN W y + if y = 0 then 0 else W - y % 2
theorem rowN_succ {W y : Nat} (h : 1 ≤ y) : rowN W (y + 1) = rowN W y + (W - y % 2) := by
  simp only [rowN]; rw [if_neg (by omega)]
theorem rowN_mono {W : Nat} : ∀ {y z : Nat}, y ≤ z → rowN W y ≤ rowN W z := by
  intro y z h
  induction z with
  | zero => have : y = 0 := by omega
            subst this; exact Nat.le_refl _
  | succ z ih =>
    by_cases e : y = z + 1
    · subst e; exact Nat.le_refl _
    · have := ih (by omega)
      simp only [rowN]; omega
theorem rowN_le : ∀ {W : Nat}, W < 9 → ∀ {y : Nat}, y < 17 → rowN W y ≤ 128 := by decide +kernel
theorem rowN_end : ∀ {W : Nat}, W < 9 → ∀ {H : Nat}, H < 9 → 1 ≤ W → 1 ≤ H → (rowN W (2 * H) : Int) = (W : Int) * (H - 1) + H * (W - 1) := by decide +kernel
theorem rowN_form : ∀ {W : Nat}, W < 9 → ∀ {y : Nat}, y < 17 → 1 ≤ W → 1 ≤ y → ((y / 2 : Nat) : Int) * ((W : Int) - 1) + ((y - 1) / 2 : Nat) * (W : Int) = rowN W y := by decide +kernel

/-- The number of a point. -/
def numP (W x y : Nat) : Nat := rowN W y + (x - 1) / 2
structure IsPt (W H k x y : Nat) : Prop where
  y1 : 1 ≤ y
  y2 : y < 2 * H
  lo : rowN W y ≤ k
  hi : k < rowN W (y + 1)
  x : x = 2 * (k - rowN W y) + 1 + y % 2
theorem IsPt.uniq {W H k x y x' y' : Nat} (a : IsPt W H k x y) (b : IsPt W H k x' y') : x = x' ∧ y = y' := by
  have e : y = y' := by
    rcases Nat.lt_trichotomy y y' with h | h | h
    · have := rowN_mono (W := W) (show y + 1 ≤ y' by omega)
      have := a.hi; have := b.lo; omega
    · exact h
    · have := rowN_mono (W := W) (show y' + 1 ≤ y by omega)
      have := b.hi; have := a.lo; omega
  subst e
  exact ⟨by rw [a.x, b.x], rfl⟩
theorem IsPt.bd {W H k x y : Nat} (a : IsPt W H k x y) : 1 ≤ x ∧ x < 2 * W ∧ (x + y) % 2 = 1 := by
  have h1 := a.x; have h2 := a.lo; have h3 := a.hi; have h4 := a.y1
  rw [rowN_succ h4] at h3
  omega
theorem numP_lt {W H x y : Nat} (hx : 1 ≤ x ∧ x < 2 * W) (hy : 1 ≤ y ∧ y < 2 * H) (hp : (x + y) % 2 = 1) : numP W x y < rowN W (2 * H) := by
  have h1 := rowN_mono (W := W) (show y + 1 ≤ 2 * H by omega)
  rw [rowN_succ hy.1] at h1
  unfold numP; omega

theorem c455 (h : Heap) (v : Value) (X : Pan) (W y : Nat) (hv : PtP h v X) (hW : X.1 = W) (w1 : 1 ≤ W) (w8 : W < 9) (hy1 : 1 ≤ y) (hy : y < 17) : ACall Gam 455 [v, I y] h fun r h' => r = I (rowN W y) ∧ h' = h := by
  obtain ⟨b, o, s, rfl, h1, _⟩ := hv
  rw [hW] at h1
  refine ACall_intro g455 rfl ?_
  unfold fn455
  simp (disch := omega)
  refine awp_loop (fun (k : Nat) σ h' => h' = h ∧ 1 ≤ k ∧ k ≤ y ∧ σ 0 = pt b o ∧ σ 1 = I y ∧ σ 5 = I (rowN W k) ∧ σ 6 = I k) (fun k => y - k) 1 ?_ ?_
  · refine ⟨rfl, Nat.le_refl _, hy1, by simp, by simp, by simp [rowN], by simp⟩
  · rintro k σ h' ⟨rfl, hk1, hk, q0, q1, q5, q6⟩
    simp (disch := omega) [q1, q6]
    refine fork_dec (fun hlt => ?_) (fun hge => ?_)
    · have hb := rowN_le w8 (y := k) (by omega)
      have hs := rowN_succ (W := W) hk1
      simp (disch := omega) [q0, q5, q6, h1, wrap64, tmod_pos]
      refine fork_dec (fun ho => ?_) (fun ho => ?_)
      · simp (disch := omega) [q0, q1, q5, q6, wrap64]
        exact ⟨k + 1, ⟨by omega, by omega, by omega, by omega⟩, by omega⟩
      · simp (disch := omega) [q0, q1, q5, q6, wrap64]
        exact ⟨k + 1, ⟨by omega, by omega, by omega, by omega⟩, by omega⟩
    · have : k = y := by omega
      subst this
      simp (disch := omega) [q5]

theorem c451 (h : Heap) (v : Value) (X : Pan) (W x y : Nat) (hv : PtP h v X) (hW : X.1 = W) (w1 : 1 ≤ W) (w8 : W < 9) (hx : 1 ≤ x ∧ x < 17) (hy : 1 ≤ y ∧ y < 17) : ACall Gam 451 [v, .agg #[I x, I y]] h fun r h' => r = I (numP W x y) ∧ h' = h := by
  refine ACall_intro g451 rfl ?_
  unfold fn451
  have hb := rowN_le w8 (y := y) (by omega)
  simp (disch := omega)
  refine callW_of (c455 h v X W y hv hW w1 w8 hy.1 hy.2) ?_
  rintro _ h' ⟨rfl, rfl⟩
  simp (disch := omega) [wrap64, tdiv_pos]
  simp [numP]; omega

theorem c40v (h : Heap) (W H x y a W1 p y1 b q r c d e : Int) (s : Value) (h1 : IntKind.i64.wrap (y.tdiv 2) = a) (h2 : IntKind.i64.wrap (W - 1) = W1) (h3 : IntKind.i64.wrap (a * W1) = p) (h4 : IntKind.i64.wrap (y - 1) = y1) (h5 : IntKind.i64.wrap (y1.tdiv 2) = b) (h6 : IntKind.i64.wrap (b * W) = q)
    (h7 : IntKind.i64.wrap (p + q) = r) (h8 : IntKind.i64.wrap (x.tdiv 2) = c) (h9 : IntKind.i64.wrap (r + c) = d) (h10 : IntKind.i64.wrap (d - 1) = e) : ACall Gam 40 [.agg #[I W, I H, s], .agg #[I x, I y]] h fun v h' => v = I (if y.tmod 2 = 1 then e else d) ∧ h' = h := by
  refine ACall_intro g40 rfl ?_
  unfold fn40
  simp only []
  rw [awp_seq, awp_reg]
  generalize hK : seqQ Gam _ _ 0 = K
  simp
  subst hK
  simp only [seqQ_zero]
  rw [awp_seq, awp_reg]
  generalize hK : seqQ Gam _ _ 0 = K
  simp [h1, h2, h3, h4, h5, h6, h7]
  subst hK
  simp
  refine fork_dec (fun ho => ?_) (fun ho => ?_)
  · simp [h8, h9, h10, ho]
  · simp [h8, h9, h10, ho]
theorem c40 (h : Heap) (W H x y : Nat) (s : Value) (w1 : 1 ≤ W) (w8 : W < 9) (hx : 1 ≤ x ∧ x < 17) (hy : 1 ≤ y ∧ y < 17) (hp : (x + y) % 2 = 1) : ACall Gam 40 [.agg #[I W, I H, s], .agg #[I x, I y]] h fun r h' => r = I (numP W x y) ∧ h' = h := by
  have hb := rowN_le w8 (y := y) (by omega)
  have hf := rowN_form w8 (y := y) (by omega) w1 hy.1
  have e1 : (y : Int) / 2 = ((y / 2 : Nat) : Int) := by omega
  have e2 : ((y : Int) - 1) / 2 = (((y - 1) / 2 : Nat) : Int) := by omega
  have hf' : (y : Int) / 2 * ((W : Int) - 1) + ((y : Int) - 1) / 2 * (W : Int) = rowN W y := by rw [e1, e2]; exact hf
  have b1 : 0 ≤ (y : Int) / 2 * ((W : Int) - 1) := Int.mul_nonneg (by omega) (by omega)
  have b2 : 0 ≤ ((y : Int) - 1) / 2 * (W : Int) := Int.mul_nonneg (by omega) (by omega)
  have hrow : (rowN W y : Int) ≤ 128 := by omega
  have u0 : IntKind.i64.wrap ((W : Int) - 1) = (W : Int) - 1 := wrap64 (by omega) (by omega)
  have u1 : IntKind.i64.wrap ((y : Int) - 1) = (y : Int) - 1 := wrap64 (by omega) (by omega)
  have u2 : IntKind.i64.wrap ((y : Int) / 2) = (y : Int) / 2 := wrap64 (by omega) (by omega)
  have u3 : IntKind.i64.wrap (((y : Int) - 1) / 2) = ((y : Int) - 1) / 2 := wrap64 (by omega) (by omega)
  have u4 : IntKind.i64.wrap ((x : Int) / 2) = (x : Int) / 2 := wrap64 (by omega) (by omega)
  have u5 : IntKind.i64.wrap (IntKind.i64.wrap ((y : Int) / 2 * ((W : Int) - 1)) + IntKind.i64.wrap (((y : Int) - 1) / 2 * (W : Int))) = rowN W y := by
    rw [wrap64 (n := (y : Int) / 2 * ((W : Int) - 1)) (by omega) (by omega), wrap64 (n := ((y : Int) - 1) / 2 * (W : Int)) (by omega) (by omega), hf', wrap64 (by omega) (by omega)]
  have t1 : (y : Int).tdiv 2 = (y : Int) / 2 := tdiv_pos (by omega)
  have t2 : ((y : Int) - 1).tdiv 2 = ((y : Int) - 1) / 2 := tdiv_pos (by omega)
  have t3 : (x : Int).tdiv 2 = (x : Int) / 2 := tdiv_pos (by omega)
  have t4 : (y : Int).tmod 2 = (y : Int) % 2 := tmod_pos (by omega)
  refine (c40v h W H x y _ _ _ _ _ _ _ _ _ _ s rfl rfl rfl rfl rfl rfl rfl rfl rfl rfl).mono ?_
  rintro r h' ⟨rfl, rfl⟩
  rw [t1, t3, t4, u2, u0, u1, t2, u3, u5, u4]
  refine ⟨?_, rfl⟩
  split
  · rw [wrap64 (n := (rowN W y : Int) + (x : Int) / 2) (by omega) (by omega), wrap64 (by omega) (by omega)]
    simp [numP]; omega
  · rw [wrap64 (by omega) (by omega)]
    simp [numP]; omega
end Am
/-! AmP12 -/
set_option linter.unusedVariables false
set_option linter.unusedSimpArgs false
set_option maxHeartbeats 4000000
set_option maxRecDepth 4000
namespace Am
open Go

/-! ### where a part lies -/
def hasPart (P : Pan) (x y w h : Int) : Bool := inR w 1 P.1 && (inR h 1 P.2.1 && (inR x 0 (P.1 - w) && inR y 0 (P.2.1 - h)))
/-! ### all points, in order -/
def pairV (p : Nat × Nat) : List Value := [I p.1, I p.2]
def pairsV (l : List (Nat × Nat)) : List Value := (l.map pairV).flatten
/-- The first m points, in order. -/
def PtsOk (W H : Nat) (l : List (Nat × Nat)) : Prop := ∀ k (hk : k < l.length), IsPt W H k l[k].1 l[k].2
end Am
/-! AmP13 -/
set_option linter.unusedVariables false
set_option linter.unusedSimpArgs false
set_option maxHeartbeats 4000000
set_option maxRecDepth 4000
namespace Am
open Go

open Classical in
/-- The inner point with a number. -/
noncomputable def thePt (W H k : Nat) : Nat × Nat := if e : ∃ p : Nat × Nat, IsPt W H k p.1 p.2 then Classical.choose e else (0, 0)
/-- The break of a part's point, in the panel. -/
noncomputable def prt (br : List Int) (W w h X Y k : Nat) : Int := at0 br (numP W ((thePt w h k).1 + 2 * X) ((thePt w h k).2 + 2 * Y))
noncomputable def partP (P : Pan) (x y w h : Int) : Pan := (w, h, (List.range (rowN w.toNat (2 * h.toNat))).map fun k => prt P.2.2 P.1.toNat w.toNat h.toNat x.toNat y.toNat k)
noncomputable def partAns (P : Pan) (x y w h : Int) : Pan × Int := if okP P then (if hasPart P x y w h then (partP P x y w h, 0) else ((0, 0, []), 2)) else ((0, 0, []), 1)

theorem at0_rng {br : List Int} (hb : ∀ x ∈ br, 0 ≤ x ∧ x ≤ 2) (i : Nat) : 0 ≤ at0 br i ∧ at0 br i ≤ 2 := by
  unfold at0
  rw [List.getD_eq_getElem?_getD]
  by_cases h : i < br.length
  · rw [List.getElem?_eq_getElem h]
    exact hb _ (List.getElem_mem h)
  · rw [List.getElem?_eq_none (by omega)]; simp
end Am
/-! AmP14 -/
set_option linter.unusedVariables false
set_option linter.unusedSimpArgs false
set_option maxHeartbeats 4000000
set_option maxRecDepth 4000
namespace Am
open Go

theorem IsPt.ex {W H k : Nat} (w1 : 1 ≤ W) (h1 : 1 ≤ H) (hk : k < rowN W (2 * H)) : ∃ x y, IsPt W H k x y := by
  have key : ∀ m, k < rowN W (m + 1) → ∃ y, 1 ≤ y ∧ y ≤ m ∧ rowN W y ≤ k ∧ k < rowN W (y + 1) := by
    intro m
    induction m with
    | zero => intro h; simp [rowN] at h
    | succ m ih =>
      intro h
      by_cases e : k < rowN W (m + 1)
      · obtain ⟨y, a, b, c, d⟩ := ih e
        exact ⟨y, a, by omega, c, d⟩
      · exact ⟨m + 1, by omega, by omega, by omega, h⟩
  obtain ⟨y, a, b, c, d⟩ := key (2 * H - 1) (by rw [show 2 * H - 1 + 1 = 2 * H by omega]; exact hk)
  exact ⟨_, y, ⟨a, by omega, c, d, rfl⟩⟩

/-- The points of a part that have been put in. -/
noncomputable def inPart (W H w h X Y k : Nat) (j : Nat) : Bool := decide (2 * X < (thePt W H j).1 ∧ (thePt W H j).1 < 2 * X + 2 * w ∧ 2 * Y < (thePt W H j).2 ∧ (thePt W H j).2 < 2 * Y + 2 * h ∧ numP w ((thePt W H j).1 - 2 * X) ((thePt W H j).2 - 2 * Y) < k)
/-- What is put in is what is wanted there. -/
def Fits (f : Nat → Int) (W w h X Y : Nat) (br : List Int) : Prop := ∀ k px py, IsPt w h k px py → k < rowN w (2 * h) → at0 br k = f (numP W (px + 2 * X) (py + 2 * Y))

end Am
/-! AmP16 -/
set_option linter.unusedVariables false
set_option linter.unusedSimpArgs false
set_option maxHeartbeats 4000000
set_option maxRecDepth 4000
namespace Am
open Go

/-- Numbers of which some have been replaced. -/
def fillG (g f : Nat → Int) (P : Nat → Bool) (n : Nat) : List Int := (List.range n).map fun j => if P j then f j else g j
/-! ### the law's two sides -/
noncomputable def pasteF (W H w X Y : Nat) (br : List Int) (i : Nat) : Int := at0 br (numP w ((thePt W H i).1 - 2 * X) ((thePt W H i).2 - 2 * Y))
noncomputable def pasteP (P Q : Pan) (x y : Int) : Pan := (P.1, P.2.1, fillG (at0 P.2.2) (pasteF P.1.toNat P.2.1.toNat Q.1.toNat x.toNat y.toNat Q.2.2) (inPart P.1.toNat P.2.1.toNat Q.1.toNat Q.2.1.toNat x.toNat y.toNat (rowN Q.1.toNat (2 * Q.2.1.toNat))) (rowN P.1.toNat (2 * P.2.1.toNat)))
noncomputable def pasteAns (P : Pan) (x y : Int) (Q : Pan) : Pan × Int := if okP P && okP Q then (if hasPart P x y Q.1 Q.2.1 then (pasteP P Q x y, 0) else ((0, 0, []), 2)) else ((0, 0, []), 1)
end Am
/-! AmJ1 -/
set_option linter.unusedVariables false
set_option linter.unusedSimpArgs false
set_option maxHeartbeats 4000000
set_option maxRecDepth 4000
namespace Am
open Go

/-- A step fits a panel with n points. -/
def okStep (n : Nat) (s : Trip) : Bool := inR s.1 0 ((n : Int) - 1) && (okBr s.2.1 && (okBr s.2.2 && !decide (s.2.1 = s.2.2)))
theorem okStep_iff {n : Nat} {s : Trip} : okStep n s = true ↔ (0 ≤ s.1 ∧ s.1 < n) ∧ (0 ≤ s.2.1 ∧ s.2.1 ≤ 2) ∧ (0 ≤ s.2.2 ∧ s.2.2 ≤ 2) ∧ s.2.1 ≠ s.2.2 := by
  simp only [okStep, okBr, Bool.and_eq_true, inR_iff, Bool.not_eq_true', decide_eq_false_iff_not]
  omega
/-- Steps undone, the last one first: none if one does not fit. -/
def runB : List Trip → List Int → Option (List Int)
  | [], br => some br
  | s :: l, br => if okStep br.length s && decide (at0 br s.1.toNat = s.2.2) then runB l (br.set s.1.toNat s.2.1) else none
/-- Steps made. -/
def runF : List Trip → List Int → Option (List Int)
  | [], br => some br
  | s :: l, br => if okStep br.length s && decide (at0 br s.1.toNat = s.2.1) then runF l (br.set s.1.toNat s.2.2) else none
def okJ (X : Jrn) : Bool := okP X.1 && (decide (X.2.1.length + X.2.2.length ≤ 50) && ((runB X.2.1.reverse X.1.2.2).isSome && (runF X.2.2 X.1.2.2).isSome))

theorem c163 (a : Int) (n : Nat) (hn : n ≤ maxLen) (h : Heap) : ACall Gam 163 [I a, I n] h fun v h' => v = B (inR a 0 ((n : Int) - 1)) ∧ h' = h := by
  rw [maxLen_eq] at hn
  refine ACall_intro g163 rfl ?_
  unfold fn163
  simp (disch := omega) [wrap64]
  refine callW_of (c164 a 0 ((n : Int) - 1) h) ?_
  rintro v h' ⟨rfl, rfl⟩
  simp

theorem c199 (h : Heap) (W H : Int) (b o n z : Nat) (s : Trip) (hn : n ≤ maxLen) : ACall Gam 199 [.agg #[I W, I H, sl b o n z], .agg #[I s.1, I s.2.1, I s.2.2]] h fun r h' => r = B (okStep n s) ∧ h' = h := by
  refine ACall_intro g199 rfl ?_
  unfold fn199
  simp (disch := omega)
  refine callW_of (c163 s.1 n hn h) ?_
  rintro v h' ⟨rfl, rfl⟩
  cases h1 : inR s.1 0 ((n : Int) - 1)
  · simp [okStep, h1]
  simp (disch := omega)
  refine callW_of (c196 s.2.1 h') ?_
  rintro v h' ⟨rfl, rfl⟩
  cases h2 : okBr s.2.1
  · simp [okStep, h1, h2]
  simp (disch := omega)
  refine callW_of (c196 s.2.2 h') ?_
  rintro v h' ⟨rfl, rfl⟩
  cases h3 : okBr s.2.2
  · simp [okStep, h1, h2, h3]
  simp (disch := omega) [okStep, h1, h2, h3]

theorem c562 (h : Heap) (pb po : Nat) (b o n z : Nat) (s : Trip) (hn : n ≤ maxLen) (hc : cell h pb (po + 2) = some (sl b o n z)) : ACall Gam 562 [pt pb po, .agg #[I s.1, I s.2.1, I s.2.2]] h fun r h' => r = B (okStep n s) ∧ h' = h := by
  have hn' := hn
  rw [maxLen_eq] at hn'
  refine ACall_intro g562 rfl ?_
  unfold fn562
  simp (disch := omega) [hc, wrap64]
  refine callW_of (c432 s.1 0 ((n : Int) - 1) h) ?_
  rintro v h' ⟨rfl, rfl⟩
  cases h1 : inR s.1 0 ((n : Int) - 1)
  · simp [okStep, h1]
  simp (disch := omega)
  refine callW_of (c449 s.2.1 h') ?_
  rintro v h' ⟨rfl, rfl⟩
  cases h2 : okBr s.2.1
  · simp [okStep, h1, h2]
  simp (disch := omega)
  refine callW_of (c449 s.2.2 h') ?_
  rintro v h' ⟨rfl, rfl⟩
  cases h3 : okBr s.2.2
  · simp [okStep, h1, h2, h3]
  simp (disch := omega) [okStep, h1, h2, h3]

/-- A number written in a block of numbers. -/
theorem ints_set (l : List Int) (k : Nat) (v : Int) : (ints l).set k (I v) = ints (l.set k v) := by simp [ints, List.map_set]
theorem store_int {h : Heap} {b k : Nat} {l : List Int} {v : Int} (hb : h[b]? = some ⟨ints l, true⟩) (hk : k < l.length) : storeAt h b k [I v] = some (h.set b ⟨ints (l.set k v), true⟩) := by
  rw [store_one hb (by simp [ints]; exact hk), ints_set]
theorem cell_int {h : Heap} {b k : Nat} {l : List Int} {r : Bool} (hb : h[b]? = some ⟨ints l, r⟩) (hk : k < l.length) : cell h b k = some (I (at0 l k)) := by
  rw [at0_of hk]
  exact cell_of hb (by simp [ints, hk])
theorem ok_len {W H : Int} {br : List Int} (ok : OkP (W, H, br)) : br.length ≤ 112 := by
  have := inner_bd (a := W) (b := H) ok.w ok.h
  have := ok.n
  simp only at this
  omega
theorem storeAt_whole {h : Heap} {b : Nat} {cs ds : List Value} (hb : h[b]? = some ⟨ds, true⟩) (hl : cs.length = ds.length) : storeAt h b 0 cs = some (h.set b ⟨cs, true⟩) := by
  unfold storeAt
  simp only [hb]
  rw [if_pos ⟨trivial, by omega⟩]
  simp [hl]
/-- A clone's slice. -/
theorem own_slice {h : Heap} {lo hi : Nat} {v : Value} {X : List Int} (x : Vo h lo hi shInts v X) : ∃ b z, v = sl b 0 X.length z ∧ (X.length = 0 ∨ h[b]? = some ⟨ints X, true⟩ ∧ lo ≤ b ∧ b < hi) := by
  obtain ⟨b, z, e, _, _, _, hc⟩ := x.ints
  exact ⟨b, z, e, hc.imp (fun e => by rw [e]; rfl) id⟩
/-- A pointer to a journal. -/
def PtJ (h : Heap) (v : Value) (X : Jrn) : Prop := ∃ b o s sp sf, v = pt b o ∧ cellsAt h b o 5 = some [I X.1.1, I X.1.2.1, s, sp, sf] ∧ Vr h shInts s X.1.2.2 ∧ Vr h shTrips sp X.2.1 ∧ Vr h shTrips sf X.2.2 ∧ I64 X.1.1 ∧ I64 X.1.2.1
theorem PtJ.grow {h h' : Heap} {v : Value} {X : Jrn} (x : PtJ h v X) (g : Grows h h') : PtJ h' v X := by
  obtain ⟨b, o, s, sp, sf, e, h1, h2, h3, h4, h5⟩ := x
  exact ⟨b, o, s, sp, sf, e, g.cellsAt h1, h2.grow g, h3.grow g, h4.grow g, h5⟩
theorem PtJ.of {h : Heap} {b : Nat} {W H : Int} {s sp sf : Value} {br : List Int} {p f : List Trip} {r : Bool} (hb : h[b]? = some ⟨[I W, I H, s, sp, sf], r⟩) (h1 : Vr h shInts s br) (h2 : Vr h shTrips sp p) (h3 : Vr h shTrips sf f) (w1 : I64 W) (w2 : I64 H) : PtJ h (pt b 0) ((W, H, br), p, f) :=
  ⟨b, 0, s, sp, sf, rfl, cellsAt_all hb rfl, h1, h2, h3, w1, w2⟩
theorem PtJ.panel {h : Heap} {b o : Nat} {X : Jrn} (x : PtJ h (pt b o) X) : PtP h (pt b o) X.1 := by
  obtain ⟨b, o, s, sp, sf, e, h1, h2, h3, h4, w1, w2⟩ := x
  injection e with e; injection e with e; injection e with e1 e2; subst e1; subst e2
  have k0 := (cell_in (i := 0) h1 (by omega)).1
  have k1 := (cell_in (i := 1) h1 (by omega)).1
  have k2 := (cell_in (i := 2) h1 (by omega)).1
  exact ⟨_, _, s, rfl, by simpa using k0, by simpa using k1, by simpa using k2, h2, w1, w2⟩

theorem c138 (h : Heap) (hp : 0 < h.length) (v0 : Value) (X0 : Jrn) (hv0 : Vr h shJournal v0 X0) (hs0 : siz shJournal X0 ≤ 1048576) :
    ACall Gam 138 [v0] h fun r h' => Grows h h' ∧ r = B (okJ X0) := by
  obtain ⟨⟨W, H, br⟩, p, f⟩ := X0
  rw [siz_journal] at hs0
  obtain ⟨s, sp, sf, rfl, w1, w2, r1, r2, r3⟩ := hv0.journal
  have rp : Vr h shPanel (.agg #[I W, I H, s]) (W, H, br) := Vr.of_panel w1 w2 r1
  obtain ⟨pb, po, pz, rfl, hpm, hpe⟩ := trips_at r2
  obtain ⟨fb, fo, fz, rfl, hfm, hfe⟩ := trips_at r3
  rw [maxLen_eq] at hpm hfm
  refine ACall_intro g138 rfl ?_
  unfold fn138
  simp (disch := omega)
  refine callW_of (c140 _ _ h rp) ?_
  rintro _ h1 ⟨rfl, rfl⟩
  cases q : okP (W, H, br)
  · simp [okJ, q]
    exact Grows.refl _
  have ok := okP_iff.1 q
  have hbl := ok_len ok
  simp (disch := omega) [wrap64]
  refine fork_dec (fun hgt => ?_) (fun hle => ?_)
  · have : ¬ p.length + f.length ≤ 50 := by omega
    simp [okJ, q, this]
    exact Grows.refl _
  have hle : p.length + f.length ≤ 50 := by omega
  have eJ : okJ ((W, H, br), p, f) = ((runB p.reverse br).isSome && (runF f br).isSome) := by simp [okJ, q, hle]
  rw [eJ]
  simp (disch := omega)
  refine callW_of (c150 h1 _ _ hp rp (by simp only; omega)) ?_
  rintro _ h2 ⟨g2, o2⟩
  obtain ⟨so, rfl, _, _, o2⟩ := o2.panel
  obtain ⟨bb, zz, rfl, hb⟩ := own_slice o2
  obtain ⟨n, hn⟩ : ∃ n, n = br.length := ⟨_, rfl⟩
  rw [← hn] at hb ⊢
  simp (disch := omega) [wrap64]
  refine awp_loop (fun (k : Nat) σ h' => k ≤ p.length ∧ Grows h1 h' ∧ σ 1 = .agg #[I W, I H, s, sl pb po p.length pz, sl fb fo f.length fz] ∧ σ 3 = .agg #[I W, I H, sl bb 0 n zz] ∧ σ 4 = I ((p.length : Int) - 1 - k) ∧
    ∃ cur : List Int, cur.length = n ∧ runB (p.reverse.drop k) cur = runB p.reverse br ∧ (n = 0 ∨ h'[bb]? = some ⟨ints cur, true⟩ ∧ h1.length ≤ bb)) (fun k => p.length - k) 0 ?_ ?_
  · refine ⟨by omega, g2, by simp, by simp, by simp, br, hn.symm, by simp, hb.imp id fun e => ⟨e.1, e.2.1⟩⟩
  rintro k σ h' ⟨hk, hg, q1, q3, q4, cur, hcl, hrun, hb⟩
  simp (disch := omega) [q4]
  refine fork_dec (fun hlt => ?_) (fun hge => ?_)
  · have k1 : k < p.length := by omega
    obtain ⟨j, hj⟩ : ∃ j, j = p.length - 1 - k := ⟨_, rfl⟩
    have j1 : j < p.length := by omega
    have ej : (p.length : Int) - 1 - k = (j : Int) := by omega
    have hd : p.reverse.drop k = p[j] :: p.reverse.drop (k + 1) := by
      rw [List.drop_eq_getElem_cons (by simpa using k1)]
      congr 1
      rw [List.getElem_reverse]
      congr 1
      omega
    rw [hd] at hrun
    have hcell := grows_cellsAt hg (hpe j j1)
    rw [ej] at q4
    obtain ⟨⟨t1, t2, t3⟩, ht⟩ : ∃ t, t = p[j] := ⟨_, rfl⟩
    rw [← ht] at hrun hcell
    simp only [runB, hcl] at hrun
    simp (disch := omega) [q1, q3, q4, j1, hcell, trip]
    refine callW_of (c199 h' W H bb 0 n zz (t1, t2, t3) (by rw [maxLen_eq]; omega)) ?_
    rintro _ h' ⟨rfl, rfl⟩
    cases hs : okStep n (t1, t2, t3)
    · simp only [hs, Bool.false_and, Bool.false_eq_true, if_false] at hrun
      simp [← hrun]
      exact hg
    have hso := okStep_iff.1 hs
    simp only at hso
    have hne : n ≠ 0 := by omega
    obtain ⟨hb1, hb2⟩ := hb.resolve_left hne
    obtain ⟨t, rfl⟩ := Int.eq_ofNat_of_zero_le hso.1.1
    have htn : t < cur.length := by omega
    have htn' : t < n := by omega
    have hci := cell_int hb1 htn
    simp only [hs, Bool.true_and, Int.toNat_natCast] at hrun
    simp (disch := omega) [q1, q3, q4, hci, htn']
    refine fork_dec (fun he => ?_) (fun he => ?_)
    · simp only [he, decide_true, if_true] at hrun
      have hst := store_int (v := t2) hb1 htn
      simp (disch := omega) [q1, q3, q4, hst, htn', wrap64]
      refine ⟨k + 1, ⟨by omega, hg.put hb2 _, by omega, cur.set t t2, by simpa using hcl, hrun, .inr ⟨by simp [at_lt hb1], hb2⟩⟩, by omega⟩
    · simp only [he, decide_false, Bool.false_eq_true, if_false] at hrun
      simp [← hrun]
      exact hg
  have hkp : k = p.length := by omega
  rw [List.drop_of_length_le (by simp; omega)] at hrun
  simp only [runB] at hrun
  rw [← hrun]
  simp (disch := omega) [q1, q3]
  refine callW_of (c150 h' _ _ (pos_of hp hg) (rp.grow hg) (by simp only; omega)) ?_
  rintro _ h3 ⟨g3, o3⟩
  obtain ⟨so, rfl, _, _, o3⟩ := o3.panel
  obtain ⟨bb, zz, rfl, hb⟩ := own_slice o3
  rw [← hn] at hb ⊢
  simp (disch := omega) [wrap64, q1, q3]
  refine awp_loop (fun (k : Nat) σ h' => k ≤ f.length ∧ Grows h1 h' ∧ σ 3 = .agg #[I W, I H, sl bb 0 n zz] ∧ σ 64 = sl fb fo f.length fz ∧ σ 65 = I f.length ∧ σ 66 = I k ∧
    ∃ cur : List Int, cur.length = n ∧ runF (f.drop k) cur = runF f br ∧ (n = 0 ∨ h'[bb]? = some ⟨ints cur, true⟩ ∧ h1.length ≤ bb)) (fun k => f.length - k) 0 ?_ ?_
  · refine ⟨by omega, hg.trans g3, by simp, by simp, by simp, by simp, br, hn.symm, by simp, hb.imp id fun e => ⟨e.1, by have := hg.le; omega⟩⟩
  rintro k σ h' ⟨hk, hg, q3, q64, q65, q66, cur, hcl, hrun, hb⟩
  simp (disch := omega) [q65, q66]
  refine fork_dec (fun hlt => ?_) (fun hge => ?_)
  · have k1 : k < f.length := by omega
    rw [List.drop_eq_getElem_cons k1] at hrun
    have hcell := grows_cellsAt hg (hfe k k1)
    obtain ⟨⟨t1, t2, t3⟩, ht⟩ : ∃ t, t = f[k] := ⟨_, rfl⟩
    rw [← ht] at hrun hcell
    simp only [runF, hcl] at hrun
    simp (disch := omega) [q3, q64, q66, k1, hcell, trip]
    refine callW_of (c199 h' W H bb 0 n zz (t1, t2, t3) (by rw [maxLen_eq]; omega)) ?_
    rintro _ h' ⟨rfl, rfl⟩
    cases hs : okStep n (t1, t2, t3)
    · simp only [hs, Bool.false_and, Bool.false_eq_true, if_false] at hrun
      simp [← hrun]
      exact hg
    have hso := okStep_iff.1 hs
    simp only at hso
    have hne : n ≠ 0 := by omega
    obtain ⟨hb1, hb2⟩ := hb.resolve_left hne
    obtain ⟨t, rfl⟩ := Int.eq_ofNat_of_zero_le hso.1.1
    have htn : t < cur.length := by omega
    have htn' : t < n := by omega
    have hci := cell_int hb1 htn
    simp only [hs, Bool.true_and, Int.toNat_natCast] at hrun
    simp (disch := omega) [q3, hci, htn']
    refine fork_dec (fun he => ?_) (fun he => ?_)
    · simp only [he, decide_true, if_true] at hrun
      have hst := store_int (v := t3) hb1 htn
      simp (disch := omega) [q3, q64, q65, q66, hst, htn', wrap64]
      refine ⟨k + 1, ⟨by omega, hg.put hb2 _, by omega, cur.set t t3, by simpa using hcl, hrun, .inr ⟨by simp [at_lt hb1], hb2⟩⟩, by omega⟩
    · simp only [he, decide_false, Bool.false_eq_true, if_false] at hrun
      simp [← hrun]
      exact hg
  have hkp : k = f.length := by omega
  rw [List.drop_of_length_le (by omega)] at hrun
  simp only [runF] at hrun
  simp [← hrun]
  exact hg
end Am

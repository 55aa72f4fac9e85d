/- Contracts: AmC7, AmP1, AmP3, AmT4, AmT5, AmP4, AmP7, AmP8, AmP2, AmP5. -/
import Derived.Test.YtaeaaogpdipjfaaAmK1
/-! AmC7 -/
set_option linter.unusedVariables false
set_option linter.unusedSimpArgs false
set_option maxHeartbeats 4000000
namespace Am
open Go

def inverse (X : List Trip) : List Trip := X.reverse.map fun t => (t.1, t.2.2, t.2.1)
end Am
/-! AmP1 -/
set_option linter.unusedVariables false
set_option linter.unusedSimpArgs false
set_option maxHeartbeats 4000000
namespace Am
open Go

abbrev Pan := Int × Int × List Int
def okBr (b : Int) : Bool := inR b 0 2
def okP (X : Pan) : Bool := okSz X.1 X.2.1 && (decide ((X.2.2.length : Int) = inner X.1 X.2.1) && X.2.2.all okBr)
structure OkP (X : Pan) : Prop where
  w : 1 ≤ X.1 ∧ X.1 ≤ 8
  h : 1 ≤ X.2.1 ∧ X.2.1 ≤ 8
  n : (X.2.2.length : Int) = inner X.1 X.2.1
  b : ∀ x ∈ X.2.2, 0 ≤ x ∧ x ≤ 2
theorem okP_iff {X : Pan} : okP X = true ↔ OkP X := by
  unfold okP
  simp only [Bool.and_eq_true, okSz_iff, decide_eq_true_eq, List.all_eq_true, okBr, inR_iff]
  exact ⟨fun ⟨⟨a, b⟩, c, d⟩ => ⟨a, b, c, d⟩, fun ⟨a, b, c, d⟩ => ⟨⟨a, b⟩, c, d⟩⟩

/-- A pointer to a panel. -/
def PtP (h : Heap) (v : Value) (X : Pan) : Prop := ∃ b o s, v = pt b o ∧ cell h b o = some (I X.1) ∧ cell h b (o + 1) = some (I X.2.1) ∧ cell h b (o + 2) = some s ∧ Vr h shInts s X.2.2 ∧ I64 X.1 ∧ I64 X.2.1
theorem Grows.cell {h h' : Heap} (g : Grows h h') {b o : Nat} {v : Value} (x : Am.cell h b o = some v) : Am.cell h' b o = some v := by
  unfold Am.cell at *
  split at x
  · rename_i k hk; rw [g.at hk]; exact x
  · cases x
theorem PtP.grow {h h' : Heap} {v : Value} {X : Pan} (x : PtP h v X) (g : Grows h h') : PtP h' v X := by
  obtain ⟨b, o, s, e, h1, h2, h3, h4, h5⟩ := x
  exact ⟨b, o, s, e, g.cell h1, g.cell h2, g.cell h3, h4.grow g, h5⟩
theorem PtP.push {h : Heap} {W H : Int} {s : Value} {br : List Int} {r : Bool} {l : List Blk} (hs : Vr h shInts s br) (hW : I64 W) (hH : I64 H) : PtP (h ++ ⟨[I W, I H, s], r⟩ :: l) (pt h.length 0) (W, H, br) := by
  refine ⟨h.length, 0, s, rfl, ?_, ?_, ?_, hs.grow ⟨_, rfl⟩, hW, hH⟩ <;> simp [Am.cell]

theorem c196 (a : Int) (h : Heap) : ACall Gam 196 [I a] h fun v h' => v = B (okBr a) ∧ h' = h := by
  refine ACall_intro g196 rfl ?_
  unfold fn196
  simp (disch := omega)
  refine callW_of (c164 a 0 2 h) ?_
  rintro v h' ⟨rfl, rfl⟩
  simp [okBr]

theorem all_drop {α : Type} {p : α → Bool} {l : List α} {k : Nat} (hk : k < l.length) : (l.drop k).all p = (p l[k] && (l.drop (k + 1)).all p) := by
  rw [List.drop_eq_getElem_cons hk]; rfl

theorem c452 (v : Value) (X : Pan) (h : Heap) (hv : PtP h v X) : ACall Gam 452 [v] h fun r h' => r = B (okP X) ∧ h' = h := by
  obtain ⟨b, o, s, rfl, h1, h2, h3, hs, hW, hH⟩ := hv
  obtain ⟨W, H, br⟩ := X
  obtain ⟨b2, o2, z, rfl, _, hm, hx, hc⟩ := hs.ints
  rw [maxLen_eq] at hm
  have hm : br.length ≤ 9223372036854775807 := hm
  simp only at h1 h2
  refine ACall_intro g452 rfl ?_
  unfold fn452
  simp (disch := omega) [h1, h2, h3]
  refine callW_of (c457 W h) ?_
  rintro v h' ⟨rfl, rfl⟩
  cases hb : inR W 1 8
  · simp [okP, okSz, hb]
  · simp (disch := omega) [h1, h2, h3]
    refine callW_of (c457 H h') ?_
    rintro v h' ⟨rfl, rfl⟩
    cases hc' : inR H 1 8
    · simp [okP, okSz, hb, hc']
    · simp (disch := omega) [h1, h2, h3]
      have qW := inR_iff.1 hb
      have qH := inR_iff.1 hc'
      refine callW_of (c448 W H qW qH h') ?_
      rintro v h' ⟨rfl, rfl⟩
      refine ⟨fun _ => Grows.refl _, ?_⟩
      simp (disch := omega) [h1, h2, h3]
      refine fork_dec (fun hn => ?_) (fun hn => ?_)
      · simp (disch := omega)
        refine awp_loop (fun k σ h'' => h'' = h' ∧ k ≤ br.length ∧ (br.drop k).all okBr = br.all okBr ∧ σ 0 = pt b o ∧ σ 3 = I k) (fun k => br.length - k) 0 ?_ ?_
        · simp
        · rintro k σ h'' ⟨rfl, hk, ht, q0, q3⟩
          simp (disch := omega) [q0, q3, h3]
          refine fork_dec (fun hlt => ?_) (fun hge => ?_)
          · have k1 : k < br.length := by omega
            simp (disch := omega) [q0, q3, h3, k1, ints_cell hc k1]
            refine callW_of (c432 br[k] 0 2 _) ?_
            rintro v h' ⟨rfl, rfl⟩
            rw [all_drop k1] at ht
            have eb : inR br[k] 0 2 = okBr br[k] := rfl
            rw [eb]
            cases hbr : okBr br[k]
            · rw [hbr] at ht
              simp [okP, okSz, hb, hc', hn, ← ht]
            · rw [hbr] at ht
              simp (disch := omega) [q0, q3, wrap64]
              exact ⟨k + 1, ⟨by omega, by simpa using ht, by omega⟩, by omega⟩
          · have : k = br.length := by omega
            subst this
            simp at ht
            simp [okP, okSz, hb, hc', hn]
            exact ht
      · simp [okP, okSz, hb, hc', hn]

theorem c140 (v : Value) (X : Pan) (h : Heap) (hv : Vr h shPanel v X) : ACall Gam 140 [v] h fun r h' => r = B (okP X) ∧ h' = h := by
  obtain ⟨W, H, br⟩ := X
  obtain ⟨s, rfl, hW, hH, hs⟩ := hv.panel
  obtain ⟨b2, o2, z, rfl, _, hm, hx, hc⟩ := hs.ints
  rw [maxLen_eq] at hm
  refine ACall_intro g140 rfl ?_
  unfold fn140
  simp (disch := omega)
  refine callW_of (c198 W H h) ?_
  rintro v h' ⟨rfl, rfl⟩
  cases hb : okSz W H
  · simp [okP, hb]
  · obtain ⟨qW, qH⟩ := okSz_iff.1 hb
    simp (disch := omega)
    refine callW_of (c166 W H qW qH h') ?_
    rintro v h' ⟨rfl, rfl⟩
    simp (disch := omega)
    refine fork_dec (fun hn => ?_) (fun hn => ?_)
    · simp (disch := omega)
      refine awp_loop (fun k σ h'' => h'' = h' ∧ k ≤ br.length ∧ (br.drop k).all okBr = br.all okBr ∧ σ 23 = sl b2 o2 br.length z ∧ σ 24 = I br.length ∧ σ 25 = I k) (fun k => br.length - k) 0 ?_ ?_
      · simp
      · rintro k σ h'' ⟨rfl, hk, ht, q0, q1, q3⟩
        simp (disch := omega) [q0, q1, q3]
        refine fork_dec (fun hlt => ?_) (fun hge => ?_)
        · have k1 : k < br.length := by omega
          simp (disch := omega) [q0, q1, q3, k1, ints_cell hc k1]
          refine callW_of (c196 br[k] _) ?_
          rintro v h' ⟨rfl, rfl⟩
          rw [all_drop k1] at ht
          cases hbr : okBr br[k]
          · rw [hbr] at ht
            simp [okP, hb, hn, ← ht]
          · rw [hbr] at ht
            simp (disch := omega) [q0, q1, q3, wrap64]
            exact ⟨k + 1, ⟨by omega, by simpa using ht, by omega⟩, by omega⟩
        · have : k = br.length := by omega
          subst this
          simp at ht
          simp [okP, hb, hn]
          exact ht
    · simp [okP, hb, hn]
def at0 (br : List Int) (i : Nat) : Int := br.getD i 0
theorem at0_of {br : List Int} {i : Nat} (h : i < br.length) : at0 br i = br[i] := by simp [at0, h]
end Am
/-! AmP3 -/
set_option linter.unusedVariables false
set_option linter.unusedSimpArgs false
set_option maxHeartbeats 4000000
namespace Am
open Go

/-- A slice of numbers appended to an empty one: its own copy. -/
theorem own_ints {h : Heap} {v : Value} {X : List Int} {K : Value → Heap → Prop} (hp : 0 < h.length) (hv : Vr h shInts v X) (hs : X.length ≤ 1048576) (hK : ∀ v' h', Grows h h' → Vo h' h.length h'.length shInts v' X → K v' h') :
    bindW (aAppend 1 h v (sl 0 0 0 1)) K := by
  obtain ⟨b, o, z, rfl, hz, hm, hx, hc⟩ := hv.ints
  by_cases hX : X = []
  · subst hX
    have e : aAppend 1 h (sl b o (List.length ([] : List Int)) z) (sl 0 0 0 1) = some (sl 0 0 0 1, h) := by simp [aAppend, newCells]
    rw [e]
    exact hK _ _ (Grows.refl _) (Vo.of_ints (X := []) (.inl rfl) (by simp) (by simp) (.inl rfl))
  · have hc := hc.resolve_left hX
    have hne : X.length ≠ 0 := by simpa using hX
    refine append_buf hp (Grows.refl h) Buf.nil (new := ints X) ?_ (by omega) (by simpa [ints] using hX) (by simp [ints]) (by simp [ints, maxSize]; omega) ?_
    · simp [newCells, hX, hc]
    · intro v' h' g b1 _
      refine hK v' h' g ?_
      obtain ⟨b2, z2, rfl, hz2, _, _, hc2⟩ := (Buf.ints (by simpa using b1) hm hx).ints
      exact Vo.of_ints hz2 hm hx (hc2.imp id fun q => ⟨q.1, q.2.1, at_lt q.1⟩)

theorem c435 (h : Heap) (v : Value) (X : List Int) (hp : 0 < h.length) (hv : Vr h shInts v X) (hs : X.length ≤ 1048576) : ACall Gam 435 [v] h fun r h' => Grows h h' ∧ Vo h' h.length h'.length shInts r X := by
  refine ACall_intro g435 rfl ?_
  unfold fn435
  simp (disch := omega)
  refine own_ints hp hv hs fun v' h' g o => ?_
  obtain ⟨b, z, e, _⟩ := o.ints
  subst e
  exact ⟨g, o⟩
theorem c308 (h : Heap) (v : Value) (X : List Int) (hp : 0 < h.length) (hv : Vr h shInts v X) (hs : X.length ≤ 1048576) : ACall Gam 308 [v] h fun r h' => Grows h h' ∧ Vo h' h.length h'.length shInts r X := by
  have hv0 := hv
  obtain ⟨b, o, z, rfl, hz, hm, hx, hc⟩ := hv.ints
  refine ACall_intro g308 rfl ?_
  unfold fn308
  simp (disch := omega)
  refine fork_intro (fun hn => ?_) (fun hn => ?_)
  · simp at hn
    rcases hz with hz | ⟨_, rfl⟩
    · omega
    · simp
      exact ⟨Grows.refl _, Vo.of_ints (X := []) (.inr ⟨rfl, rfl⟩) (by simp) (by simp) (.inl rfl)⟩
  · simp (disch := omega)
    refine own_ints hp hv0 hs fun v' h' g o => ?_
    obtain ⟨b, z, e, _⟩ := o.ints
    subst e
    exact ⟨g, o⟩

theorem c453 (h : Heap) (v : Value) (X : Pan) (hp : 0 < h.length) (hv : PtP h v X) (hs : X.2.2.length ≤ 1048576) : ACall Gam 453 [v] h fun r h' => Grows h h' ∧ Vo h' h.length h'.length shPanel r X := by
  obtain ⟨b, o, s, rfl, h1, h2, h3, hvs, hW, hH⟩ := hv
  obtain ⟨W, H, br⟩ := X
  refine ACall_intro g453 rfl ?_
  unfold fn453
  simp (disch := omega) [h1, h2, h3]
  refine callW_of (c435 _ _ br hp hvs hs) ?_
  rintro v' h' ⟨g, ov⟩
  refine ⟨fun _ => g, ?_⟩
  obtain ⟨b, z, e, _⟩ := ov.ints
  subst e
  simp (disch := omega) [resOf_box, aField]
  exact ⟨g, Vo.of_panel hW hH ov⟩
theorem c150 (h : Heap) (v : Value) (X : Pan) (hp : 0 < h.length) (hv : Vr h shPanel v X) (hs : X.2.2.length ≤ 1048576) : ACall Gam 150 [v] h fun r h' => Grows h h' ∧ Vo h' h.length h'.length shPanel r X := by
  obtain ⟨W, H, br⟩ := X
  obtain ⟨s, rfl, hW, hH, hvs⟩ := hv.panel
  refine ACall_intro g150 rfl ?_
  unfold fn150
  simp (disch := omega)
  refine callW_of (c308 _ _ br hp hvs hs) ?_
  rintro v' h' ⟨g, ov⟩
  obtain ⟨b, z, e, _⟩ := ov.ints
  subst e
  simp (disch := omega) [resOf_box, aField]
  exact ⟨g, Vo.of_panel hW hH ov⟩

/-! ### new panels -/
def newP (W H : Int) : Pan := (W, H, List.replicate (inner W H).toNat 0)
theorem newP_ok {W H : Int} (hW : 1 ≤ W ∧ W ≤ 8) (hH : 1 ≤ H ∧ H ≤ 8) : OkP (newP W H) := by
  have := inner_bd hW hH
  refine ⟨hW, hH, ?_, ?_⟩
  · simp [newP]; omega
  · intro x hx
    simp [newP] at hx
    omega
theorem reps_ints (n : Nat) : reps n [I 0] = ints (List.replicate n 0) := by
  induction n with
  | zero => rfl
  | succ n ih => rw [reps_succ, ih, List.replicate_succ]; rfl
theorem new_ints {h : Heap} {n : Nat} (hp : 0 < h.length) (hn : n ≤ 1048576) : Vo (h ++ [⟨reps n [I 0], true⟩]) h.length (h.length + 1) shInts (sl h.length 0 n 1) (List.replicate n 0) := by
  have := Vo.of_ints (h := h ++ [⟨reps n [I 0], true⟩]) (b := h.length) (lo := h.length) (hi := h.length + 1) (z := 1) (X := List.replicate n 0) (.inl rfl) (by simp [maxLen_eq]; omega) (by intro x hx; simp at hx; unfold I64; omega) (.inr ⟨by simp [reps_ints], by omega, by omega⟩)
  simpa using this
theorem c450 (h : Heap) (W H : Int) (hW : 1 ≤ W ∧ W ≤ 8) (hH : 1 ≤ H ∧ H ≤ 8) (hp : 0 < h.length) : ACall Gam 450 [I W, I H] h fun r h' => Grows h h' ∧ Vo h' h.length h'.length shPanel r (newP W H) := by
  have hi := inner_bd hW hH
  refine ACall_intro g450 rfl ?_
  unfold fn450
  simp (disch := omega)
  refine callW_of (c448 W H hW hH h) ?_
  rintro v' h' ⟨rfl, rfl⟩
  simp (disch := omega) [aMake, maxSize]
  rw [if_pos (by omega)]
  simp (disch := omega) [resOf_box, aField]
  refine ⟨⟨_, rfl⟩, ?_⟩
  have := new_ints (h := h') (n := (inner W H).toNat) hp (by omega)
  exact Vo.of_panel (by unfold I64; omega) (by unfold I64; omega) this
theorem c177 (h : Heap) (W H : Int) (hW : 1 ≤ W ∧ W ≤ 8) (hH : 1 ≤ H ∧ H ≤ 8) (hp : 0 < h.length) : ACall Gam 177 [I W, I H] h fun r h' => Grows h h' ∧ Vo h' h.length h'.length shPanel r (newP W H) := by
  have hi := inner_bd hW hH
  refine ACall_intro g177 rfl ?_
  unfold fn177
  simp (disch := omega)
  refine callW_of (c166 W H hW hH h) ?_
  rintro v' h' ⟨rfl, rfl⟩
  simp (disch := omega) [aMake, maxSize]
  rw [if_pos (by omega)]
  simp (disch := omega) [resOf_box, aField]
  refine ⟨⟨_, rfl⟩, ?_⟩
  have := new_ints (h := h') (n := (inner W H).toNat) hp (by omega)
  exact Vo.of_panel (by unfold I64; omega) (by unfold I64; omega) this

/-! ### sizes -/
def sameSz (X Y : Pan) : Bool := decide (X.1 = Y.1) && decide (X.2.1 = Y.2.1)
theorem sameSz_iff {X Y : Pan} : sameSz X Y = true ↔ X.1 = Y.1 ∧ X.2.1 = Y.2.1 := by simp [sameSz]
theorem c186 (h : Heap) (v w : Value) (X Y : Pan) (hv : Vr h shPanel v X) (hw : Vr h shPanel w Y) : ACall Gam 186 [v, w] h fun r h' => r = B (sameSz X Y) ∧ h' = h := by
  obtain ⟨W, H, br⟩ := X
  obtain ⟨W2, H2, br2⟩ := Y
  obtain ⟨s, rfl, _⟩ := hv.panel
  obtain ⟨s2, rfl, _⟩ := hw.panel
  refine ACall_intro g186 rfl ?_
  unfold fn186
  simp (disch := omega)
  refine fork_dec (fun e => ?_) (fun e => ?_)
  · simp [e, sameSz]
  · simp [e, sameSz]

def allOk : List Pan → Bool := fun l => l.all okP
def sizesCode (l : List Pan) : Int := if l.all okP then (if (l.drop 1).all fun y => sameSz y (l.headD (0, 0, [])) then 0 else 6) else 1
theorem c552 (h : Heap) (b o : Nat) (ps : List Value) (l : List Pan) (hne : l ≠ []) (hl : l.length ≤ 100) (hlen : ps.length = l.length) (hc : cellsAt h b o ps.length = some ps) (hp : ∀ i (hi : i < l.length), ∃ v, ps[i]? = some v ∧ PtP h v l[i]) :
    ACall Gam 552 [sl b o ps.length 1] h fun r h' => r = I (sizesCode l) ∧ h' = h := by
  have cel : ∀ i (hi : i < l.length), ∃ v, cell h b (o + i) = some v ∧ PtP h v l[i] := fun i hi => by
    obtain ⟨v, h1, h2⟩ := hp i hi
    exact ⟨v, by rw [(cell_in (i := i) hc (by omega)).1]; exact h1, h2⟩
  have hpos : 0 < l.length := by cases l <;> simp_all
  refine ACall_intro g552 rfl ?_
  unfold fn552
  simp (disch := omega)
  refine awp_loop (fun k σ h' => h' = h ∧ k ≤ l.length ∧ (l.drop k).all okP = l.all okP ∧ σ 0 = sl b o ps.length 1 ∧ σ 3 = I k) (fun k => l.length - k) 0 ?_ ?_
  · simp
  · rintro k σ h' ⟨rfl, hk, ht, q0, q3⟩
    simp (disch := omega) [q0, q3]
    refine fork_dec (fun hlt => ?_) (fun hge => ?_)
    · have k1 : k < l.length := by omega
      obtain ⟨v, hv, hpt⟩ := cel k k1
      simp (disch := omega) [q0, q3, show k < ps.length by omega, hv]
      refine callW_of (c452 v l[k] _ hpt) ?_
      rintro _ h'' ⟨rfl, rfl⟩
      rw [all_drop k1] at ht
      cases hok : okP l[k]
      · rw [hok] at ht
        have eC : sizesCode l = 1 := by unfold sizesCode; rw [← ht]; rfl
        simp [eC]
      · rw [hok] at ht
        simp (disch := omega) [q0, q3, wrap64]
        exact ⟨k + 1, ⟨by omega, by simpa using ht, by omega⟩, by omega⟩
    · have : k = l.length := by omega
      subst this
      simp only [List.drop_length, List.all_nil] at ht
      obtain ⟨v0, hv0, hpt0⟩ := cel 0 hpos
      obtain ⟨b0, o0, s0, rfl, w0, x0, _⟩ := hpt0
      have e0 : l.headD (0, 0, []) = l[0] := by cases l <;> simp_all
      simp (disch := omega) [q0]
      refine awp_loop (fun k σ' h'' => h'' = h' ∧ 1 ≤ k ∧ k ≤ l.length ∧ ((l.drop k).all fun y => sameSz y l[0]) = ((l.drop 1).all fun y => sameSz y l[0]) ∧ σ' 0 = sl b o ps.length 1 ∧ σ' 4 = I k) (fun k => l.length - k) 1 ?_ ?_
      · simp [q0]; omega
      · rintro k σ' h'' ⟨rfl, hk1, hk, ht2, p0, p4⟩
        simp (disch := omega) [p0, p4]
        refine fork_dec (fun hlt => ?_) (fun hge => ?_)
        · have k1 : k < l.length := by omega
          obtain ⟨v, hv, hpt⟩ := cel k k1
          obtain ⟨b1, o1, s1, rfl, w1, x1, _⟩ := hpt
          simp only [Nat.add_zero] at hv0
          rw [all_drop (p := fun y => sameSz y l[0]) k1] at ht2
          simp (disch := omega) [p0, p4, show k < ps.length by omega, show 0 < ps.length by omega, hv, hv0, w0, w1]
          refine fork_dec (fun hw => ?_) (fun hw => ?_)
          · simp (disch := omega) [p0, p4, show k < ps.length by omega, show 0 < ps.length by omega, hv, hv0, x0, x1, hw]
            refine fork_dec (fun hx => ?_) (fun hx => ?_)
            · have es : sameSz l[k] l[0] = true := sameSz_iff.2 ⟨hw, hx⟩
              rw [es] at ht2
              simp (disch := omega) [p0, p4, wrap64]
              exact ⟨k + 1, ⟨by omega, by omega, by simpa using ht2, by omega⟩, by omega⟩
            · have es : sameSz l[k] l[0] = false := by
                cases h : sameSz l[k] l[0]
                · rfl
                · exact absurd (sameSz_iff.1 h).2 hx
              rw [es] at ht2
              have eC : sizesCode l = 6 := by unfold sizesCode; rw [← ht, if_pos rfl, e0, ← ht2]; rfl
              simp [eC]
          · have es : sameSz l[k] l[0] = false := by
              cases h : sameSz l[k] l[0]
              · rfl
              · exact absurd (sameSz_iff.1 h).1 hw
            rw [es] at ht2
            have eC : sizesCode l = 6 := by unfold sizesCode; rw [← ht, if_pos rfl, e0, ← ht2]; rfl
            simp [eC, hw]
        · have : k = l.length := by omega
          subst this
          simp only [List.drop_length, List.all_nil] at ht2
          have eC : sizesCode l = 0 := by unfold sizesCode; rw [← ht, if_pos rfl, e0, ← ht2]; rfl
          simp [eC]
end Am
/-! AmT4 -/
set_option linter.unusedVariables false
set_option linter.unusedSimpArgs false
set_option maxHeartbeats 4000000
namespace Am
open Go

abbrev Pan3 := Int × Int × List Int
abbrev Jrn := Pan3 × List Trip × List Trip
theorem Rd.one {h : Heap} {a : Shp} {cs : List Value} {X : List a.T} (r : Rd h (.slice a) cs X) : ∃ s, cs = [s] := by
  have := r.len
  match cs, this with
  | [s], _ => exact ⟨s, rfl⟩
theorem Vr.journal {h : Heap} {v : Value} {W H : Int} {br : List Int} {p f : List Trip} (x : Vr h shJournal v ((W, H, br), p, f)) : ∃ s sp sf, v = .agg #[I W, I H, s, sp, sf] ∧ I64 W ∧ I64 H ∧ Vr h shInts s br ∧ Vr h shTrips sp p ∧ Vr h shTrips sf f := by
  obtain ⟨cs, ⟨c1, c2, rfl, ⟨c3, c4, rfl, ⟨rfl, w1⟩, c5, c6, rfl, ⟨rfl, w2⟩, r1⟩, c7, c8, rfl, r2, r3⟩, rfl⟩ := x
  obtain ⟨s, rfl⟩ := Rd.one r1
  obtain ⟨sp, rfl⟩ := Rd.one r2
  obtain ⟨sf, rfl⟩ := Rd.one r3
  exact ⟨s, sp, sf, rfl, wf_i64.1 w1, wf_i64.1 w2, ⟨_, r1, rfl⟩, ⟨_, r2, rfl⟩, ⟨_, r3, rfl⟩⟩
theorem Vr.of_journal {h : Heap} {W H : Int} {br : List Int} {p f : List Trip} {s sp sf : Value} (h1 : I64 W) (h2 : I64 H) (r1 : Vr h shInts s br) (r2 : Vr h shTrips sp p) (r3 : Vr h shTrips sf f) : Vr h shJournal (.agg #[I W, I H, s, sp, sf]) ((W, H, br), p, f) := by
  obtain ⟨_, r1, rfl⟩ := r1
  obtain ⟨_, r2, rfl⟩ := r2
  obtain ⟨_, r3, rfl⟩ := r3
  obtain ⟨s, rfl⟩ := Rd.one r1
  obtain ⟨sp, rfl⟩ := Rd.one r2
  obtain ⟨sf, rfl⟩ := Rd.one r3
  exact ⟨[I W, I H, s, sp, sf], ⟨[I W, I H, s], [sp, sf], rfl, ⟨[I W], [I H, s], rfl, ⟨rfl, wf_i64.2 h1⟩, [I H], [s], rfl, ⟨rfl, wf_i64.2 h2⟩, r1⟩, [sp], [sf], rfl, r2, r3⟩, rfl⟩

/-- The blocks from l on, before u: none, or within these bounds. -/
def Sub2 (lo hi l u : Nat) : Prop := l = u ∨ lo ≤ l ∧ u ≤ hi
theorem iv_ints {h : Heap} {cs : List Value} {X : List Int} {bs : List Nat} (r : Ow h shInts cs X bs) : ∃ s l u, cs = [s] ∧ Vo h l u shInts s X ∧ (bs = [] ∧ l = 0 ∧ u = 0 ∨ bs = [l] ∧ u = l + 1) := by
  obtain ⟨b, z, css, bss, rfl, hz, hm, h1, h2⟩ := r
  obtain ⟨e1, e2, e3⟩ := All3.ints h1
  rcases h2 with ⟨h2, h3⟩ | ⟨h2, h3, h4⟩
  · exact ⟨_, 0, 0, rfl, Vo.of_ints hz hm e2 (.inl h2), .inl ⟨h3, rfl, rfl⟩⟩
  · rw [e3] at h3; rw [e1] at h4
    exact ⟨_, b, b + 1, rfl, Vo.of_ints hz hm e2 (.inr ⟨h4, by omega, by omega⟩), .inr ⟨h3, rfl⟩⟩
theorem iv_trips {h : Heap} {cs : List Value} {X : List Trip} {bs : List Nat} (r : Ow h shTrips cs X bs) : ∃ s l u, cs = [s] ∧ Vo h l u shTrips s X ∧ (bs = [] ∧ l = 0 ∧ u = 0 ∨ bs = [l] ∧ u = l + 1) := by
  obtain ⟨b, z, css, bss, rfl, hz, hm, h1, h2⟩ := r
  obtain ⟨e1, e2, e3⟩ := All3.trips h1
  rcases h2 with ⟨h2, h3⟩ | ⟨h2, h3, h4⟩
  · exact ⟨_, 0, 0, rfl, Vo.of_trips hz hm e2 (.inl h2), .inl ⟨h3, rfl, rfl⟩⟩
  · rw [e3] at h3; rw [e1] at h4
    exact ⟨_, b, b + 1, rfl, Vo.of_trips hz hm e2 (.inr ⟨h4, by omega, by omega⟩), .inr ⟨h3, rfl⟩⟩
/-- Apart. -/
def Dis (l u l' u' : Nat) : Prop := u ≤ l' ∨ u' ≤ l
theorem Vo.journal {h : Heap} {lo hi : Nat} {v : Value} {W H : Int} {br : List Int} {p f : List Trip} (x : Vo h lo hi shJournal v ((W, H, br), p, f)) : ∃ s sp sf l1 u1 l2 u2 l3 u3, v = .agg #[I W, I H, s, sp, sf] ∧ I64 W ∧ I64 H ∧
    Vo h l1 u1 shInts s br ∧ Vo h l2 u2 shTrips sp p ∧ Vo h l3 u3 shTrips sf f ∧ Sub2 lo hi l1 u1 ∧ Sub2 lo hi l2 u2 ∧ Sub2 lo hi l3 u3 ∧ Dis l1 u1 l2 u2 ∧ Dis l1 u1 l3 u3 ∧ Dis l2 u2 l3 u3 := by
  obtain ⟨cs, bs, ⟨c1, c2, b1, b2, rfl, rfl, ⟨c3, c4, b3, b4, rfl, rfl, ⟨rfl, w1, rfl⟩, c5, c6, b5, b6, rfl, rfl, ⟨rfl, w2, rfl⟩, r1⟩, c7, c8, b7, b8, rfl, rfl, r2, r3⟩, rfl, nd, hb⟩ := x
  obtain ⟨s, l1, u1, rfl, o1, q1⟩ := iv_ints r1
  obtain ⟨sp, l2, u2, rfl, o2, q2⟩ := iv_trips r2
  obtain ⟨sf, l3, u3, rfl, o3, q3⟩ := iv_trips r3
  refine ⟨s, sp, sf, l1, u1, l2, u2, l3, u3, rfl, wf_i64.1 w1, wf_i64.1 w2, o1, o2, o3, ?_, ?_, ?_, ?_, ?_, ?_⟩
  all_goals
    (first | unfold Sub2 | unfold Dis) <;>
    rcases q1 with ⟨rfl, rfl, rfl⟩ | ⟨rfl, rfl⟩ <;> rcases q2 with ⟨rfl, rfl, rfl⟩ | ⟨rfl, rfl⟩ <;> rcases q3 with ⟨rfl, rfl, rfl⟩ | ⟨rfl, rfl⟩ <;> simp at nd hb <;> omega
theorem Vo.of_journal {h : Heap} {lo hi l1 u1 l2 u2 l3 u3 : Nat} {W H : Int} {br : List Int} {p f : List Trip} {s sp sf : Value} (h1 : I64 W) (h2 : I64 H) (r1 : Vo h l1 u1 shInts s br) (r2 : Vo h l2 u2 shTrips sp p) (r3 : Vo h l3 u3 shTrips sf f)
    (s1 : Sub2 lo hi l1 u1) (s2 : Sub2 lo hi l2 u2) (s3 : Sub2 lo hi l3 u3) (d1 : Dis l1 u1 l2 u2) (d2 : Dis l1 u1 l3 u3) (d3 : Dis l2 u2 l3 u3) : Vo h lo hi shJournal (.agg #[I W, I H, s, sp, sf]) ((W, H, br), p, f) := by
  obtain ⟨_, b1, r1, rfl, n1, k1⟩ := r1
  obtain ⟨_, b2, r2, rfl, n2, k2⟩ := r2
  obtain ⟨_, b3, r3, rfl, n3, k3⟩ := r3
  obtain ⟨s, rfl⟩ := Rd.one r1.rd
  obtain ⟨sp, rfl⟩ := Rd.one r2.rd
  obtain ⟨sf, rfl⟩ := Rd.one r3.rd
  refine ⟨[I W, I H, s, sp, sf], b1 ++ (b2 ++ b3), ⟨[I W, I H, s], [sp, sf], b1, b2 ++ b3, rfl, rfl, ⟨[I W], [I H, s], [], b1, rfl, rfl, ⟨rfl, wf_i64.2 h1, rfl⟩, [I H], [s], [], b1, rfl, rfl, ⟨rfl, wf_i64.2 h2, rfl⟩, r1⟩, [sp], [sf], b2, b3, rfl, rfl, r2, r3⟩, rfl, ?_, ?_⟩
  · rw [List.nodup_append, List.nodup_append]
    refine ⟨n1, ⟨n2, n3, fun a ha b hb e => ?_⟩, fun a ha b hb e => ?_⟩
    · subst e
      have := k2 a ha; have := k3 a hb
      unfold Dis at d3; omega
    · subst e
      have := k1 a ha
      unfold Dis at d1 d2
      rcases List.mem_append.1 hb with hb | hb
      · have := k2 a hb; omega
      · have := k3 a hb; omega
  · intro b hb
    unfold Sub2 at s1 s2 s3
    rcases List.mem_append.1 hb with hb | hb
    · have := k1 b hb; omega
    · rcases List.mem_append.1 hb with hb | hb
      · have := k2 b hb; omega
      · have := k3 b hb; omega

end Am
/-! AmT5 -/
set_option linter.unusedVariables false
set_option linter.unusedSimpArgs false
set_option maxHeartbeats 4000000
namespace Am
open Go

abbrev Kpt := List UInt8 × Pan3
def sizL (X : List Kpt) : Nat := (X.map fun y => siz shKept y).sum
end Am
/-! AmP4 -/
set_option linter.unusedVariables false
set_option linter.unusedSimpArgs false
set_option maxHeartbeats 4000000
namespace Am
open Go

theorem PtP.of_block {h : Heap} {b : Nat} {W H : Int} {s : Value} {br : List Int} {r : Bool} (hb : h[b]? = some ⟨[I W, I H, s], r⟩) (hs : Vr h shInts s br) (hW : I64 W) (hH : I64 H) : PtP h (pt b 0) (W, H, br) :=
  ⟨b, 0, s, rfl, by simp [Am.cell, hb], by simp [Am.cell, hb], by simp [Am.cell, hb], hs, hW, hH⟩
theorem sameSz_comm (X Y : Pan) : sameSz X Y = sameSz Y X := by
  unfold sameSz; rw [decide_eq_decide.2 (eq_comm (a := X.1)), decide_eq_decide.2 (eq_comm (a := X.2.1))]
theorem same_len {X Y : Pan} (hx : OkP X) (hy : OkP Y) (hs : sameSz X Y = true) : X.2.2.length = Y.2.2.length := by
  obtain ⟨h1, h2⟩ := sameSz_iff.1 hs
  have a := hx.n; have b := hy.n
  rw [h1, h2] at a
  omega

/-! ### differences -/
def dpre (a b : List Int) (n : Nat) : List Trip := (List.range n).flatMap fun i => if at0 a i = at0 b i then [] else [((i : Int), at0 a i, at0 b i)]
theorem at0wide {a : List Int} (h : ∀ x ∈ a, I64 x) (i : Nat) : I64 (at0 a i) := by
  unfold at0
  rw [List.getD_eq_getElem?_getD]
  by_cases hi : i < a.length
  · rw [List.getElem?_eq_getElem hi]; exact h _ (List.getElem_mem hi)
  · rw [List.getElem?_eq_none (by omega)]; simp [I64]
def diffAns (X Y : Pan) : List Trip × Int := if okP X && okP Y then (if sameSz X Y then (dpre X.2.2 Y.2.2 X.2.2.length, 0) else ([], 6)) else ([], 1)
theorem Vo.no_ints {h : Heap} {lo hi : Nat} : Vo h lo hi shInts (sl 0 0 0 0) ([] : List Int) := Vo.of_ints (X := []) (.inr ⟨rfl, rfl⟩) (by simp) (by simp) (.inl rfl)

end Am
/-! AmP7 -/
set_option linter.unusedVariables false
set_option linter.unusedSimpArgs false
set_option maxHeartbeats 4000000
namespace Am
open Go

def newDesk : Jrn := (newP 3 2, [], [])
/-! ### equal lists -/
theorem take_ne {α : Type} {X Y : List α} {k : Nat} (h1 : k < X.length) (h2 : k < Y.length) (hne : ¬ X[k] = Y[k]) : ¬ X = Y := fun e => by subst e; exact hne rfl
theorem c436 (h : Heap) (v w : Value) (X Y : List Int) (hv : Vr h shInts v X) (hw : Vr h shInts w Y) : ACall Gam 436 [v, w] h fun r h' => r = B (decide (X = Y)) ∧ h' = h := by
  obtain ⟨b1, o1, z1, rfl, _, hm1, _, hc1⟩ := hv.ints
  obtain ⟨b2, o2, z2, rfl, _, hm2, _, hc2⟩ := hw.ints
  rw [maxLen_eq] at hm1 hm2
  refine ACall_intro g436 rfl ?_
  unfold fn436
  simp (disch := omega)
  refine fork_dec (fun heq => ?_) (fun hne => ?_)
  · simp (disch := omega)
    refine awp_loop (fun k σ h' => h' = h ∧ k ≤ X.length ∧ X.take k = Y.take k ∧ σ 0 = sl b1 o1 X.length z1 ∧ σ 1 = sl b2 o2 Y.length z2 ∧ σ 5 = I k) (fun k => X.length - k) 0 ?_ ?_
    · simp
    · rintro k σ h' ⟨rfl, hk, ht, h0, h1, h5⟩
      simp (disch := omega) [h0, h1, h5]
      refine fork_dec (fun hlt => ?_) (fun hge => ?_)
      · have k1 : k < X.length := by omega
        have k2 : k < Y.length := by omega
        simp (disch := omega) [h0, h1, h5, ints_cell hc1 k1, ints_cell hc2 k2, k1, k2]
        refine fork_dec (fun he => ?_) (fun he => ?_)
        · simp (disch := omega) [h0, h1, h5]
          refine ⟨k + 1, ⟨by omega, ?_, ?_⟩, by omega⟩
          · rw [List.take_succ_eq_append_getElem k1, List.take_succ_eq_append_getElem k2, ht, he]
          · rw [wrap64 (by omega) (by omega)]; simp
        · simp (disch := omega) [h0, h1, h5]
          exact take_ne k1 k2 he
      · simp (disch := omega) [h0, h1, h5]
        have q1 : k = X.length := by omega
        have q2 : X.length = Y.length := by omega
        subst q1
        rw [List.take_length, q2, List.take_length] at ht
        exact ht
  · simp (disch := omega)
    intro e; apply hne; rw [e]
def samP (X Y : Pan) : Bool := decide (X = Y)
theorem samP_mk (W H W2 H2 : Int) (br br2 : List Int) : samP (W, H, br) (W2, H2, br2) = (decide (W = W2) && (decide (H = H2) && decide (br = br2))) := by
  simp only [samP, Prod.mk.injEq, Bool.decide_and]
theorem c456 (h : Heap) (v w : Value) (X Y : Pan) (hv : PtP h v X) (hw : PtP h w Y) : ACall Gam 456 [v, w] h fun r h' => r = B (samP X Y) ∧ h' = h := by
  obtain ⟨W, H, br⟩ := X
  obtain ⟨W2, H2, br2⟩ := Y
  obtain ⟨b, o, s, rfl, x1, x2, x3, hs, _⟩ := hv
  obtain ⟨b', o', s', rfl, y1, y2, y3, hs', _⟩ := hw
  rw [samP_mk]
  refine ACall_intro g456 rfl ?_
  unfold fn456
  simp (disch := omega) [x1, x2, x3, y1, y2, y3]
  refine fork_dec (fun e1 => ?_) (fun e1 => ?_)
  · simp (disch := omega) [x1, x2, x3, y1, y2, y3, e1]
    refine fork_dec (fun e2 => ?_) (fun e2 => ?_)
    · simp (disch := omega) [x1, x2, x3, y1, y2, y3, e1, e2]
      refine callW_of (c436 h _ _ br br2 hs hs') ?_
      rintro _ h' ⟨rfl, rfl⟩
      simp [e1, e2]
    · simp (disch := omega) [x1, x2, x3, y1, y2, y3, e1, e2]
  · simp (disch := omega) [x1, x2, x3, y1, y2, y3, e1]
def samJ (X Y : Jrn) : Bool := samP X.1 Y.1 && (decide (X.2.1 = Y.2.1) && decide (X.2.2 = Y.2.2))
end Am
/-! AmP8 -/
set_option linter.unusedVariables false
set_option linter.unusedSimpArgs false
set_option maxHeartbeats 4000000
namespace Am
open Go

def samK (X Y : List Kpt) : Bool := decide (X = Y)
end Am
/-! AmP2 -/
set_option linter.unusedVariables false
set_option linter.unusedSimpArgs false
set_option maxHeartbeats 4000000
namespace Am
open Go

def byteI (x : Int) : UInt8 := UInt8.ofNat x.toNat
def ended (l : List UInt8) : List UInt8 := l ++ [byteI (checksum l / 256), byteI (checksum l % 256)]
/-! ### the digits of five breaks -/

def pv (br : List Int) (i : Nat) : Nat → Int
  | 0 => 0
  | j + 1 => 3 * pv br i j + at0 br (i + j)
def fiveV (br : List Int) (i : Nat) : Int := pv br i 5
def packB (br : List Int) (q : Nat) : List UInt8 := (List.range q).map fun i => byteI (fiveV br (5 * i))
def packBody (X : Pan) : List UInt8 := [77, byteI X.1, byteI X.2.1] ++ packB X.2.2 ((X.2.2.length + 4) / 5)
def packP (X : Pan) : List UInt8 := ended (packBody X)

def packAnsP (X : Pan) : List UInt8 × Int := if okP X then (packP X, 0) else ([], 1)
end Am
/-! AmP5 -/
set_option linter.unusedVariables false
set_option linter.unusedSimpArgs false
set_option maxHeartbeats 4000000
namespace Am
open Go

theorem append_int {h h' : Heap} {v : Value} {l : List Int} {a : Int} {K : Value → Heap → Prop} (hp : 0 < h.length) (hl : l.length ≤ 1048576) (hg : Grows h h') (hv : Buf h h' v 1 (ints l))
    (hK : ∀ v' h'', Grows h h'' → Buf h h'' v' 1 (ints (l ++ [a])) → (∀ c kk, h'[c]? = some kk → (∀ n, v ≠ sl c 0 n 1) → h''[c]? = some kk) → K v' h'') :
    bindW (aBuildSlice 1 1 h' [(0, .agg #[I 0]), (1, I a)]) fun y h'' => bindW (aAppend 1 h'' y v) K := by
  have e : aBuildSlice 1 1 h' [(0, .agg #[I 0]), (1, I a)] = some (sl h'.length 0 1 1, h' ++ [⟨[I a], true⟩]) := by simp [aBuildSlice]
  rw [e]
  simp only [bindW_some]
  refine append_buf hp (hg.push _) (hv.grow ⟨_, rfl⟩) (new := [I a]) ?_ (by omega) (by simp) (by simp) (by simp [ints, maxSize]; omega) ?_
  · simp [newCells]
    rw [cellsAt_of (k := ⟨[I a], true⟩) (by simp) (by simp)]
    simp
  · intro v' h'' g1 b1 k1
    refine hK v' h'' g1 (by rw [ints_append]; exact b1) fun c kk hc hne => k1 c kk (push_at hc) hne

def clash (o a b : List Int) (i : Nat) : Bool := decide (at0 a i ≠ at0 o i) && (decide (at0 b i ≠ at0 o i) && decide (at0 a i ≠ at0 b i))
def cpre (o a b : List Int) (n : Nat) : List Int := (List.range n).flatMap fun i => if clash o a b i then [(i : Int)] else []
theorem cpre_succ (o a b : List Int) (n : Nat) : cpre o a b (n + 1) = cpre o a b n ++ if clash o a b n then [(n : Int)] else [] := by simp [cpre, List.range_succ]
theorem cpre_len (o a b : List Int) (n : Nat) : (cpre o a b n).length ≤ n := by
  induction n with
  | zero => simp [cpre]
  | succ n ih => rw [cpre_succ]; simp; split <;> simp <;> omega
theorem cpre_64 {o a b : List Int} {n : Nat} (hn : n ≤ 1048576) : ∀ x ∈ cpre o a b n, I64 x := by
  intro x hx
  obtain ⟨i, hi, hx⟩ := List.mem_flatMap.1 hx
  have := List.mem_range.1 hi
  split at hx
  · simp at hx; subst hx; unfold I64; omega
  · simp at hx
def clashCode (X0 X1 X2 : Pan) : Int := if okP X0 && (okP X1 && okP X2) then (if sameSz X0 X1 && sameSz X0 X2 then 0 else 6) else 1
def clashAns (X0 X1 X2 : Pan) : List Int × Int := (if clashCode X0 X1 X2 = 0 then cpre X0.2.2 X1.2.2 X2.2.2 X0.2.2.length else [], clashCode X0 X1 X2)
theorem clash_siz (X Y Z : Pan) (hs : X.2.2.length ≤ 1048576) : siz shInts (clashAns X Y Z).1 ≤ 16777216 := by
  rw [siz_ints]
  unfold clashAns
  simp only
  split
  · have := cpre_len X.2.2 Y.2.2 Z.2.2 X.2.2.length; omega
  · simp
theorem clashCode_zero {X Y Z : Pan} (h : clashCode X Y Z = 0) : OkP X ∧ OkP Y ∧ OkP Z ∧ sameSz X Y = true ∧ sameSz X Z = true := by
  unfold clashCode at h
  split at h
  · rename_i h1
    simp only [Bool.and_eq_true] at h1
    split at h
    · rename_i h2
      simp only [Bool.and_eq_true] at h2
      exact ⟨okP_iff.1 h1.1, okP_iff.1 h1.2.1, okP_iff.1 h1.2.2, h2.1, h2.2⟩
    · cases h
  · cases h
theorem sizes3 (X Y Z : Pan) : sizesCode [X, Y, Z] = clashCode X Y Z := by
  simp only [sizesCode, clashCode, List.all_cons, List.all_nil, Bool.and_true, List.drop_succ_cons, List.drop_zero, List.headD_cons]
  rw [sameSz_comm Y, sameSz_comm Z]

theorem c548 (h : Heap) (hp : 0 < h.length) (v0 v1 v2 : Value) (X0 X1 X2 : Pan) (p0 : PtP h v0 X0) (p1 : PtP h v1 X1) (p2 : PtP h v2 X2) (hs : X0.2.2.length ≤ 1048576) (h01 : X0.2.2.length = X1.2.2.length) (h02 : X0.2.2.length = X2.2.2.length) :
    ACall Gam 548 [v0, v1, v2] h fun r h' => Grows h h' ∧ Vo h' h.length h'.length shInts r (cpre X0.2.2 X1.2.2 X2.2.2 X0.2.2.length) := by
  obtain ⟨W0, H0, o⟩ := X0
  obtain ⟨W1, H1, a⟩ := X1
  obtain ⟨W2, H2, b⟩ := X2
  obtain ⟨q0, i0, s0, rfl, _, _, f0, r0, _⟩ := p0
  obtain ⟨q1, i1, s1, rfl, _, _, f1, r1, _⟩ := p1
  obtain ⟨q2, i2, s2, rfl, _, _, f2, r2, _⟩ := p2
  obtain ⟨b0, o0, z0, rfl, _, hm0, hx0, hc0⟩ := r0.ints
  obtain ⟨b1, o1, z1, rfl, _, hm1, hx1, hc1⟩ := r1.ints
  obtain ⟨b2, o2, z2, rfl, _, hm2, hx2, hc2⟩ := r2.ints
  simp only at hs h01 h02
  refine ACall_intro g548 rfl ?_
  unfold fn548
  simp (disch := omega)
  refine awp_loop (fun k σ h' => k ≤ o.length ∧ Grows h h' ∧ σ 0 = pt q0 i0 ∧ σ 1 = pt q1 i1 ∧ σ 2 = pt q2 i2 ∧ σ 8 = I k ∧ Buf h h' (σ 7) 1 (ints (cpre o a b k))) (fun k => o.length - k) 0 ?_ ?_
  · exact ⟨by omega, Grows.refl _, by simp, by simp, by simp, by simp, by simp [cpre, ints_nil]; exact Buf.nil⟩
  · rintro k σ h' ⟨hk, hg, t0, t1, t2, t8, hb⟩
    have d0 := hg.cell f0
    have d1 := hg.cell f1
    have d2 := hg.cell f2
    simp (disch := omega) [t0, t8, d0]
    refine fork_dec (fun hlt => ?_) (fun hge => ?_)
    · have l0 : k < o.length := by omega
      have l1 : k < a.length := by omega
      have l2 : k < b.length := by omega
      have c0 := ints_cell (hc0.imp id (grows_cellsAt hg)) l0
      have c1 := ints_cell (hc1.imp id (grows_cellsAt hg)) l1
      have c2 := ints_cell (hc2.imp id (grows_cellsAt hg)) l2
      rw [← at0_of l0] at c0
      rw [← at0_of l1] at c1
      rw [← at0_of l2] at c2
      simp (disch := omega) [t0, t1, t2, t8, d0, d1, d2, l0, l1, l2, c0, c1, c2]
      have skip : clash o a b k = false → Buf h h' (σ 7) 1 (ints (cpre o a b (k + 1))) := fun hf => by rw [cpre_succ, hf]; simpa using hb
      refine fork_dec (fun e1 => ?_) (fun e1 => ?_)
      · simp (disch := omega) [t0, t1, t2, t8, wrap64, e1]
        exact ⟨k + 1, ⟨by omega, hg, by omega, skip (by simp [clash, e1])⟩, by omega⟩
      · simp (disch := omega) [t0, t1, t2, t8, d0, d1, d2, l0, l1, l2, c0, c1, c2, e1]
        refine fork_dec (fun e2 => ?_) (fun e2 => ?_)
        · simp (disch := omega) [t0, t1, t2, t8, wrap64, e1, e2]
          exact ⟨k + 1, ⟨by omega, hg, by omega, skip (by simp [clash, e2])⟩, by omega⟩
        · simp (disch := omega) [t0, t1, t2, t8, e1, e2]
          refine fork_dec (fun e3 => ?_) (fun e3 => ?_)
          · simp (disch := omega) [t0, t1, t2, t8, wrap64, e1, e2, e3]
            exact ⟨k + 1, ⟨by omega, hg, by omega, skip (by simp [clash, e3])⟩, by omega⟩
          · simp (disch := omega) [t0, t1, t2, t8, e1, e2, e3]
            refine append_int hp (by have := cpre_len o a b k; omega) hg hb fun v' h'' g1 b1 _ => ?_
            simp (disch := omega) [t0, t1, t2, t8, wrap64]
            have hcl : clash o a b k = true := by simp [clash, e1, e2, e3]
            exact ⟨k + 1, ⟨by omega, g1, by omega, by rw [cpre_succ, hcl]; exact b1⟩, by omega⟩
    · have : k = o.length := by omega
      subst this
      have hvo := hb.ints (by have := cpre_len o a b o.length; rw [maxLen_eq]; omega) (cpre_64 hs)
      obtain ⟨bb, zz, e, _⟩ := hvo.ints
      rw [e] at hvo
      simp (disch := omega) [t0, t8, e]
      exact ⟨hg, hvo⟩

/-- Three panels put into boxes, and a slice of pointers to them. -/
theorem boxes3 {h hh : Heap} {W0 H0 W1 H1 W2 H2 : Int} {s0 s1 s2 : Value} {o a b : List Int} {l : List Blk} (e : hh = h ++ ⟨[I W0, I H0, s0], true⟩ :: ⟨[I W1, I H1, s1], true⟩ :: ⟨[I W2, I H2, s2], true⟩ :: l)
    (r0 : Vr h shInts s0 o) (r1 : Vr h shInts s1 a) (r2 : Vr h shInts s2 b) (w0 : I64 W0) (x0 : I64 H0) (w1 : I64 W1) (x1 : I64 H1) (w2 : I64 W2) (x2 : I64 H2) :
    Grows h hh ∧ PtP hh (pt h.length 0) (W0, H0, o) ∧ PtP hh (pt (h.length + 1) 0) (W1, H1, a) ∧ PtP hh (pt (h.length + 2) 0) (W2, H2, b) ∧ hh[h.length]? = some ⟨[I W0, I H0, s0], true⟩ ∧ hh[h.length + 1]? = some ⟨[I W1, I H1, s1], true⟩ ∧ hh[h.length + 2]? = some ⟨[I W2, I H2, s2], true⟩ := by
  have G : Grows h hh := ⟨_, e⟩
  have k0 : hh[h.length]? = some ⟨[I W0, I H0, s0], true⟩ := by rw [e]; simp
  have k1 : hh[h.length + 1]? = some ⟨[I W1, I H1, s1], true⟩ := by rw [e, List.getElem?_append_right (by omega)]; simp
  have k2 : hh[h.length + 2]? = some ⟨[I W2, I H2, s2], true⟩ := by rw [e, List.getElem?_append_right (by omega)]; simp
  exact ⟨G, PtP.of_block k0 (r0.grow G) w0 x0, PtP.of_block k1 (r1.grow G) w1 x1, PtP.of_block k2 (r2.grow G) w2 x2, k0, k1, k2⟩

theorem c334 (h : Heap) (hp : 0 < h.length) (v0 : Value) (X0 : Pan) (hv0 : Vr h shPanel v0 X0) (hs0 : siz shPanel X0 ≤ 1048576) (v1 : Value) (X1 : Pan) (hv1 : Vr h shPanel v1 X1) (hs1 : siz shPanel X1 ≤ 1048576) (v2 : Value) (X2 : Pan) (hv2 : Vr h shPanel v2 X2) (hs2 : siz shPanel X2 ≤ 1048576) :
    ACall Gam 334 [v0, v1, v2] h fun r h' => Grows h h' ∧ ∃ r0, r = .tuple #[r0, I (clashAns X0 X1 X2).2] ∧ Vo h' h.length h'.length shInts r0 (clashAns X0 X1 X2).1 ∧ siz shInts (clashAns X0 X1 X2).1 ≤ 16777216 := by
  obtain ⟨W0, H0, o⟩ := X0
  obtain ⟨W1, H1, a⟩ := X1
  obtain ⟨W2, H2, b⟩ := X2
  rw [siz_panel] at hs0 hs1 hs2
  have hsz := clash_siz (W0, H0, o) (W1, H1, a) (W2, H2, b) hs0
  obtain ⟨s0, rfl, w0, x0, r0⟩ := hv0.panel
  obtain ⟨s1, rfl, w1, x1, r1⟩ := hv1.panel
  obtain ⟨s2, rfl, w2, x2, r2⟩ := hv2.panel
  refine ACall_intro g334 rfl ?_
  unfold fn334
  simp (disch := omega) [aBuildSlice]
  obtain ⟨hh, ehh⟩ : ∃ hh, hh = h ++ [⟨[I W0, I H0, s0], true⟩, ⟨[I W1, I H1, s1], true⟩, ⟨[I W2, I H2, s2], true⟩, ⟨[pt h.length 0, pt (h.length + 1) 0, pt (h.length + 2) 0], true⟩] := ⟨_, rfl⟩
  rw [← ehh]
  obtain ⟨G, p0, p1, p2, k0, k1, k2⟩ := boxes3 ehh r0 r1 r2 w0 x0 w1 x1 w2 x2
  have k3 : hh[h.length + 3]? = some ⟨[pt h.length 0, pt (h.length + 1) 0, pt (h.length + 2) 0], true⟩ := by rw [ehh, List.getElem?_append_right (by omega)]; simp
  refine callW_of (c552 hh (h.length + 3) 0 [pt h.length 0, pt (h.length + 1) 0, pt (h.length + 2) 0] [(W0, H0, o), (W1, H1, a), (W2, H2, b)] (by simp) (by simp) rfl (by rw [cellsAt_of k3 (by simp)]; simp) (fun i hi => by
    have : i = 0 ∨ i = 1 ∨ i = 2 := by simp at hi; omega
    rcases this with rfl | rfl | rfl
    · exact ⟨_, rfl, p0⟩
    · exact ⟨_, rfl, p1⟩
    · exact ⟨_, rfl, p2⟩)) ?_
  rintro _ h1 ⟨rfl, rfl⟩
  rw [sizes3]
  simp (disch := omega)
  refine fork_dec (fun hz => ?_) (fun hz => ?_)
  · obtain ⟨ok0, ok1, ok2, sm1, sm2⟩ := clashCode_zero hz
    have eA : clashAns (W0, H0, o) (W1, H1, a) (W2, H2, b) = (cpre o a b o.length, 0) := by simp [clashAns, hz]
    rw [eA] at hsz ⊢
    simp (disch := omega)
    refine callW_of (c548 h1 (pos_of hp G) _ _ _ _ _ _ p0 p1 p2 hs0 (same_len ok0 ok1 sm1) (same_len ok0 ok2 sm2)) ?_
    rintro r h2 ⟨g2, ho⟩
    obtain ⟨bb, zz, e, _⟩ := ho.ints
    have ho' := ho.wide (lo' := h.length) (hi' := h2.length) G.le (Nat.le_refl _)
    subst e
    simp (disch := omega)
    exact ⟨G.trans g2, ho', hsz⟩
  · have eA : clashAns (W0, H0, o) (W1, H1, a) (W2, H2, b) = ([], clashCode (W0, H0, o) (W1, H1, a) (W2, H2, b)) := by simp [clashAns, hz]
    rw [eA] at hsz ⊢
    simp (disch := omega)
    exact ⟨G, Vo.no_ints, hsz⟩

theorem c65 (h : Heap) (hp : 0 < h.length) (v0 : Value) (X0 : Pan) (hv0 : Vr h shPanel v0 X0) (hs0 : siz shPanel X0 ≤ 1048576) (v1 : Value) (X1 : Pan) (hv1 : Vr h shPanel v1 X1) (hs1 : siz shPanel X1 ≤ 1048576) (v2 : Value) (X2 : Pan) (hv2 : Vr h shPanel v2 X2) (hs2 : siz shPanel X2 ≤ 1048576) :
    ACall Gam 65 [v0, v1, v2] h fun r h' => Grows h h' ∧ ∃ r0, r = .tuple #[r0, I (clashAns X0 X1 X2).2] ∧ Vo h' h.length h'.length shInts r0 (clashAns X0 X1 X2).1 ∧ siz shInts (clashAns X0 X1 X2).1 ≤ 16777216 := by
  obtain ⟨W0, H0, o⟩ := X0
  obtain ⟨W1, H1, a⟩ := X1
  obtain ⟨W2, H2, b⟩ := X2
  rw [siz_panel] at hs0 hs1 hs2
  have hsz := clash_siz (W0, H0, o) (W1, H1, a) (W2, H2, b) hs0
  have hv0' := hv0
  have hv1' := hv1
  have hv2' := hv2
  obtain ⟨s0, rfl, w0, x0, r0⟩ := hv0.panel
  obtain ⟨s1, rfl, w1, x1, r1⟩ := hv1.panel
  obtain ⟨s2, rfl, w2, x2, r2⟩ := hv2.panel
  have bad : ∀ c : Int, clashCode (W0, H0, o) (W1, H1, a) (W2, H2, b) = c → c ≠ 0 → clashAns (W0, H0, o) (W1, H1, a) (W2, H2, b) = ([], c) := by
    intro c hc hn; unfold clashAns; rw [hc, if_neg hn]
  refine ACall_intro g65 rfl ?_
  unfold fn65
  simp (disch := omega)
  refine callW_of (c140 _ _ h hv0') ?_
  rintro _ h1 ⟨rfl, rfl⟩
  cases q0 : okP (W0, H0, o)
  · rw [bad 1 (by simp [clashCode, q0]) (by decide)] at hsz ⊢
    simp
    exact ⟨Grows.refl _, Vo.no_ints, hsz⟩
  simp (disch := omega)
  refine callW_of (c140 _ _ h1 hv1') ?_
  rintro _ h1 ⟨rfl, rfl⟩
  cases q1 : okP (W1, H1, a)
  · rw [bad 1 (by simp [clashCode, q1]) (by decide)] at hsz ⊢
    simp
    exact ⟨Grows.refl _, Vo.no_ints, hsz⟩
  simp (disch := omega)
  refine callW_of (c140 _ _ h1 hv2') ?_
  rintro _ h1 ⟨rfl, rfl⟩
  cases q2 : okP (W2, H2, b)
  · rw [bad 1 (by simp [clashCode, q2]) (by decide)] at hsz ⊢
    simp
    exact ⟨Grows.refl _, Vo.no_ints, hsz⟩
  simp (disch := omega)
  refine callW_of (c186 h1 _ _ _ _ hv0' hv1') ?_
  rintro _ h1 ⟨rfl, rfl⟩
  cases m1 : sameSz (W0, H0, o) (W1, H1, a)
  · rw [bad 6 (by simp [clashCode, q0, q1, q2, m1]) (by decide)] at hsz ⊢
    simp
    exact ⟨Grows.refl _, Vo.no_ints, hsz⟩
  simp (disch := omega)
  refine callW_of (c186 h1 _ _ _ _ hv0' hv2') ?_
  rintro _ h1 ⟨rfl, rfl⟩
  cases m2 : sameSz (W0, H0, o) (W2, H2, b)
  · rw [bad 6 (by simp [clashCode, q0, q1, q2, m1, m2]) (by decide)] at hsz ⊢
    simp
    exact ⟨Grows.refl _, Vo.no_ints, hsz⟩
  have hz : clashCode (W0, H0, o) (W1, H1, a) (W2, H2, b) = 0 := by simp [clashCode, q0, q1, q2, m1, m2]
  have eA : clashAns (W0, H0, o) (W1, H1, a) (W2, H2, b) = (cpre o a b o.length, 0) := by simp [clashAns, hz]
  rw [eA] at hsz ⊢
  have hl1 : o.length = a.length := same_len (okP_iff.1 q0) (okP_iff.1 q1) m1
  have hl2 : o.length = b.length := same_len (okP_iff.1 q0) (okP_iff.1 q2) m2
  obtain ⟨b0, o0, z0, rfl, _, hm0, hx0, hc0⟩ := r0.ints
  obtain ⟨b1, o1, z1, rfl, _, hm1, hx1, hc1⟩ := r1.ints
  obtain ⟨b2, o2, z2, rfl, _, hm2, hx2, hc2⟩ := r2.ints
  simp (disch := omega)
  refine awp_loop (fun k σ h' => k ≤ o.length ∧ Grows h1 h' ∧ σ 4 = .agg #[I W1, I H1, sl b1 o1 a.length z1] ∧ σ 5 = .agg #[I W2, I H2, sl b2 o2 b.length z2] ∧ σ 38 = sl b0 o0 o.length z0 ∧ σ 39 = I o.length ∧ σ 40 = I k ∧ Buf h1 h' (σ 8) 1 (ints (cpre o a b k))) (fun k => o.length - k) 0 ?_ ?_
  · exact ⟨by omega, Grows.refl _, by simp, by simp, by simp, by simp, by simp, by simp [cpre, ints_nil]; exact Buf.nil⟩
  · rintro k σ h' ⟨hk, hg, t4, t5, t38, t39, t40, hb⟩
    simp (disch := omega) [t39, t40]
    refine fork_dec (fun hlt => ?_) (fun hge => ?_)
    · have l0 : k < o.length := by omega
      have l1 : k < a.length := by omega
      have l2 : k < b.length := by omega
      have c0 := ints_cell (hc0.imp id (grows_cellsAt hg)) l0
      have c1 := ints_cell (hc1.imp id (grows_cellsAt hg)) l1
      have c2 := ints_cell (hc2.imp id (grows_cellsAt hg)) l2
      rw [← at0_of l0] at c0
      rw [← at0_of l1] at c1
      rw [← at0_of l2] at c2
      simp (disch := omega) [t4, t5, t38, t39, t40, l0, l1, l2, c0, c1, c2]
      have skip : clash o a b k = false → Buf h1 h' (σ 8) 1 (ints (cpre o a b (k + 1))) := fun hf => by rw [cpre_succ, hf]; simpa using hb
      refine fork_dec (fun e1 => ?_) (fun e1 => ?_)
      · simp (disch := omega) [t4, t5, t38, t39, t40, wrap64, e1]
        exact ⟨k + 1, ⟨by omega, hg, by omega, skip (by simp [clash, e1])⟩, by omega⟩
      · simp (disch := omega) [t4, t5, t38, t39, t40, e1]
        refine fork_dec (fun e2 => ?_) (fun e2 => ?_)
        · simp (disch := omega) [t4, t5, t38, t39, t40, wrap64, e1, e2]
          exact ⟨k + 1, ⟨by omega, hg, by omega, skip (by simp [clash, e2])⟩, by omega⟩
        · simp (disch := omega) [t4, t5, t38, t39, t40, e1, e2]
          refine fork_dec (fun e3 => ?_) (fun e3 => ?_)
          · simp (disch := omega) [t4, t5, t38, t39, t40, wrap64, e1, e2, e3]
            exact ⟨k + 1, ⟨by omega, hg, by omega, skip (by simp [clash, e3])⟩, by omega⟩
          · simp (disch := omega) [t4, t5, t38, t39, t40, e1, e2, e3]
            refine append_int hp (by have := cpre_len o a b k; omega) hg hb fun v' h'' g1 b1 _ => ?_
            simp (disch := omega) [t4, t5, t38, t39, t40, wrap64]
            have hcl : clash o a b k = true := by simp [clash, e1, e2, e3]
            exact ⟨k + 1, ⟨by omega, g1, by omega, by rw [cpre_succ, hcl]; exact b1⟩, by omega⟩
    · have : k = o.length := by omega
      subst this
      have hvo := hb.ints (by have := cpre_len o a b o.length; rw [maxLen_eq]; omega) (cpre_64 hs0)
      obtain ⟨bb, zz, e, _⟩ := hvo.ints
      rw [e] at hvo
      simp (disch := omega) [t39, t40, e]
      exact ⟨hg, hvo, hsz⟩
end Am

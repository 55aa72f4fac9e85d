/- Contracts: panels made anew and cloned; their sizes; differences, clashes. -/
import Derived.Test.YtpdhmojncndobaaAmP1
set_option linter.unusedVariables false
set_option linter.unusedSimpArgs false
set_option maxHeartbeats 4000000
namespace Am
open Go

/-- A slice of numbers appended to an empty one: its own copy. -/
theorem own_ints {h : Heap} {v : Value} {X : List Int} {K : Value → Heap → Prop} (hp : 0 < h.length) (hv : Vr h shInts v X) (hs : X.length ≤ 1048576) (hK : ∀ v' h', Grows h h' → Vo h' h.length h'.length shInts v' X → K v' h') :
    bindW (aAppend 1 h v (sl 0 0 0 1)) K := by
  obtain ⟨b, o, z, rfl, hz, hm, hx, hc⟩ := hv.ints
  by_cases hX : X = []
  · subst hX
    have e : aAppend 1 h (sl b o (List.length ([] : List Int)) z) (sl 0 0 0 1) = some (sl 0 0 0 1, h) := by simp [aAppend, newCells]
    rw [e]
    exact hK _ _ (Grows.refl _) (Vo.of_ints (X := []) (.inl rfl) (by simp) (by simp) (.inl rfl))
  · have hc := hc.resolve_left hX
    have hne : X.length ≠ 0 := by simpa using hX
    refine append_buf hp (Grows.refl h) Buf.nil (new := ints X) ?_ (by omega) (by simpa [ints] using hX) (by simp [ints]) (by simp [ints, maxSize]; omega) ?_
    · simp [newCells, hX, hc]
    · intro v' h' g b1 _
      refine hK v' h' g ?_
      obtain ⟨b2, z2, rfl, hz2, _, _, hc2⟩ := (Buf.ints (by simpa using b1) hm hx).ints
      exact Vo.of_ints hz2 hm hx (hc2.imp id fun q => ⟨q.1, q.2.1, at_lt q.1⟩)

theorem c435 (h : Heap) (v : Value) (X : List Int) (hp : 0 < h.length) (hv : Vr h shInts v X) (hs : X.length ≤ 1048576) : ACall Gam 435 [v] h fun r h' => Grows h h' ∧ Vo h' h.length h'.length shInts r X := by
  refine ACall_intro g435 rfl ?_
  unfold fn435
  simp (disch := omega)
  refine own_ints hp hv hs fun v' h' g o => ?_
  obtain ⟨b, z, e, _⟩ := o.ints
  subst e
  exact ⟨g, o⟩
theorem c308 (h : Heap) (v : Value) (X : List Int) (hp : 0 < h.length) (hv : Vr h shInts v X) (hs : X.length ≤ 1048576) : ACall Gam 308 [v] h fun r h' => Grows h h' ∧ Vo h' h.length h'.length shInts r X := by
  have hv0 := hv
  obtain ⟨b, o, z, rfl, hz, hm, hx, hc⟩ := hv.ints
  refine ACall_intro g308 rfl ?_
  unfold fn308
  simp (disch := omega)
  refine fork_intro (fun hn => ?_) (fun hn => ?_)
  · simp at hn
    rcases hz with hz | ⟨_, rfl⟩
    · omega
    · simp
      exact ⟨Grows.refl _, Vo.of_ints (X := []) (.inr ⟨rfl, rfl⟩) (by simp) (by simp) (.inl rfl)⟩
  · simp (disch := omega)
    refine own_ints hp hv0 hs fun v' h' g o => ?_
    obtain ⟨b, z, e, _⟩ := o.ints
    subst e
    exact ⟨g, o⟩

theorem c453 (h : Heap) (v : Value) (X : Pan) (hp : 0 < h.length) (hv : PtP h v X) (hs : X.2.2.length ≤ 1048576) : ACall Gam 453 [v] h fun r h' => Grows h h' ∧ Vo h' h.length h'.length shPanel r X := by
  obtain ⟨b, o, s, rfl, h1, h2, h3, hvs, hW, hH⟩ := hv
  obtain ⟨W, H, br⟩ := X
  refine ACall_intro g453 rfl ?_
  unfold fn453
  simp (disch := omega) [h1, h2, h3]
  refine callW_of (c435 _ _ br hp hvs hs) ?_
  rintro v' h' ⟨g, ov⟩
  refine ⟨fun _ => g, ?_⟩
  obtain ⟨b, z, e, _⟩ := ov.ints
  subst e
  simp (disch := omega) [resOf_box, aField]
  exact ⟨g, Vo.of_panel hW hH ov⟩
theorem c150 (h : Heap) (v : Value) (X : Pan) (hp : 0 < h.length) (hv : Vr h shPanel v X) (hs : X.2.2.length ≤ 1048576) : ACall Gam 150 [v] h fun r h' => Grows h h' ∧ Vo h' h.length h'.length shPanel r X := by
  obtain ⟨W, H, br⟩ := X
  obtain ⟨s, rfl, hW, hH, hvs⟩ := hv.panel
  refine ACall_intro g150 rfl ?_
  unfold fn150
  simp (disch := omega)
  refine callW_of (c308 _ _ br hp hvs hs) ?_
  rintro v' h' ⟨g, ov⟩
  obtain ⟨b, z, e, _⟩ := ov.ints
  subst e
  simp (disch := omega) [resOf_box, aField]
  exact ⟨g, Vo.of_panel hW hH ov⟩

/-! ### new panels -/
def newP (W H : Int) : Pan := (W, H, List.replicate (inner W H).toNat 0)
theorem newP_ok {W H : Int} (hW : 1 ≤ W ∧ W ≤ 8) (hH : 1 ≤ H ∧ H ≤ 8) : OkP (newP W H) := by
  have := inner_bd hW hH
  refine ⟨hW, hH, ?_, ?_⟩
  · simp [newP]; omega
  · intro x hx
    simp [newP] at hx
    omega
theorem reps_ints (n : Nat) : reps n [I 0] = ints (List.replicate n 0) := by
  induction n with
  | zero => rfl
  | succ n ih => rw [reps_succ, ih, List.replicate_succ]; rfl
theorem new_ints {h : Heap} {n : Nat} (hp : 0 < h.length) (hn : n ≤ 1048576) : Vo (h ++ [⟨reps n [I 0], true⟩]) h.length (h.length + 1) shInts (sl h.length 0 n 1) (List.replicate n 0) := by
  have := Vo.of_ints (h := h ++ [⟨reps n [I 0], true⟩]) (b := h.length) (lo := h.length) (hi := h.length + 1) (z := 1) (X := List.replicate n 0) (.inl rfl) (by simp [maxLen_eq]; omega) (by intro x hx; simp at hx; unfold I64; omega) (.inr ⟨by simp [reps_ints], by omega, by omega⟩)
  simpa using this
theorem c450 (h : Heap) (W H : Int) (hW : 1 ≤ W ∧ W ≤ 8) (hH : 1 ≤ H ∧ H ≤ 8) (hp : 0 < h.length) : ACall Gam 450 [I W, I H] h fun r h' => Grows h h' ∧ Vo h' h.length h'.length shPanel r (newP W H) := by
  have hi := inner_bd hW hH
  refine ACall_intro g450 rfl ?_
  unfold fn450
  simp (disch := omega)
  refine callW_of (c448 W H hW hH h) ?_
  rintro v' h' ⟨rfl, rfl⟩
  simp (disch := omega) [aMake, maxSize]
  rw [if_pos (by omega)]
  simp (disch := omega) [resOf_box, aField]
  refine ⟨⟨_, rfl⟩, ?_⟩
  have := new_ints (h := h') (n := (inner W H).toNat) hp (by omega)
  exact Vo.of_panel (by unfold I64; omega) (by unfold I64; omega) this
theorem c177 (h : Heap) (W H : Int) (hW : 1 ≤ W ∧ W ≤ 8) (hH : 1 ≤ H ∧ H ≤ 8) (hp : 0 < h.length) : ACall Gam 177 [I W, I H] h fun r h' => Grows h h' ∧ Vo h' h.length h'.length shPanel r (newP W H) := by
  have hi := inner_bd hW hH
  refine ACall_intro g177 rfl ?_
  unfold fn177
  simp (disch := omega)
  refine callW_of (c166 W H hW hH h) ?_
  rintro v' h' ⟨rfl, rfl⟩
  simp (disch := omega) [aMake, maxSize]
  rw [if_pos (by omega)]
  simp (disch := omega) [resOf_box, aField]
  refine ⟨⟨_, rfl⟩, ?_⟩
  have := new_ints (h := h') (n := (inner W H).toNat) hp (by omega)
  exact Vo.of_panel (by unfold I64; omega) (by unfold I64; omega) this

/-! ### sizes -/
def sameSz (X Y : Pan) : Bool := decide (X.1 = Y.1) && decide (X.2.1 = Y.2.1)
theorem sameSz_iff {X Y : Pan} : sameSz X Y = true ↔ X.1 = Y.1 ∧ X.2.1 = Y.2.1 := by simp [sameSz]
theorem c186 (h : Heap) (v w : Value) (X Y : Pan) (hv : Vr h shPanel v X) (hw : Vr h shPanel w Y) : ACall Gam 186 [v, w] h fun r h' => r = B (sameSz X Y) ∧ h' = h := by
  obtain ⟨W, H, br⟩ := X
  obtain ⟨W2, H2, br2⟩ := Y
  obtain ⟨s, rfl, _⟩ := hv.panel
  obtain ⟨s2, rfl, _⟩ := hw.panel
  refine ACall_intro g186 rfl ?_
  unfold fn186
  simp (disch := omega)
  refine fork_dec (fun e => ?_) (fun e => ?_)
  · simp [e, sameSz]
  · simp [e, sameSz]

def allOk : List Pan → Bool := fun l => l.all okP
def sizesCode (l : List Pan) : Int := if l.all okP then (if (l.drop 1).all fun y => sameSz y (l.headD (0, 0, [])) then 0 else 6) else 1
theorem c552 (h : Heap) (b o : Nat) (ps : List Value) (l : List Pan) (hne : l ≠ []) (hl : l.length ≤ 100) (hlen : ps.length = l.length) (hc : cellsAt h b o ps.length = some ps) (hp : ∀ i (hi : i < l.length), ∃ v, ps[i]? = some v ∧ PtP h v l[i]) :
    ACall Gam 552 [sl b o ps.length 1] h fun r h' => r = I (sizesCode l) ∧ h' = h := by
  have cel : ∀ i (hi : i < l.length), ∃ v, cell h b (o + i) = some v ∧ PtP h v l[i] := fun i hi => by
    obtain ⟨v, h1, h2⟩ := hp i hi
    exact ⟨v, by rw [(cell_in (i := i) hc (by omega)).1]; exact h1, h2⟩
  have hpos : 0 < l.length := by cases l <;> simp_all
  refine ACall_intro g552 rfl ?_
  unfold fn552
  simp (disch := omega)
  refine awp_loop (fun k σ h' => h' = h ∧ k ≤ l.length ∧ (l.drop k).all okP = l.all okP ∧ σ 0 = sl b o ps.length 1 ∧ σ 3 = I k) (fun k => l.length - k) 0 ?_ ?_
  · simp
  · rintro k σ h' ⟨rfl, hk, ht, q0, q3⟩
    simp (disch := omega) [q0, q3]
    refine fork_dec (fun hlt => ?_) (fun hge => ?_)
    · have k1 : k < l.length := by omega
      obtain ⟨v, hv, hpt⟩ := cel k k1
      simp (disch := omega) [q0, q3, show k < ps.length by omega, hv]
      refine callW_of (c452 v l[k] _ hpt) ?_
      rintro _ h'' ⟨rfl, rfl⟩
      rw [all_drop k1] at ht
      cases hok : okP l[k]
      · rw [hok] at ht
        have eC : sizesCode l = 1 := by unfold sizesCode; rw [← ht]; rfl
        simp [eC]
      · rw [hok] at ht
        simp (disch := omega) [q0, q3, wrap64]
        exact ⟨k + 1, ⟨by omega, by simpa using ht, by omega⟩, by omega⟩
    · have : k = l.length := by omega
      subst this
      simp only [List.drop_length, List.all_nil] at ht
      obtain ⟨v0, hv0, hpt0⟩ := cel 0 hpos
      obtain ⟨b0, o0, s0, rfl, w0, x0, _⟩ := hpt0
      have e0 : l.headD (0, 0, []) = l[0] := by cases l <;> simp_all
      simp (disch := omega) [q0]
      refine awp_loop (fun k σ' h'' => h'' = h' ∧ 1 ≤ k ∧ k ≤ l.length ∧ ((l.drop k).all fun y => sameSz y l[0]) = ((l.drop 1).all fun y => sameSz y l[0]) ∧ σ' 0 = sl b o ps.length 1 ∧ σ' 4 = I k) (fun k => l.length - k) 1 ?_ ?_
      · simp [q0]; omega
      · rintro k σ' h'' ⟨rfl, hk1, hk, ht2, p0, p4⟩
        simp (disch := omega) [p0, p4]
        refine fork_dec (fun hlt => ?_) (fun hge => ?_)
        · have k1 : k < l.length := by omega
          obtain ⟨v, hv, hpt⟩ := cel k k1
          obtain ⟨b1, o1, s1, rfl, w1, x1, _⟩ := hpt
          simp only [Nat.add_zero] at hv0
          rw [all_drop (p := fun y => sameSz y l[0]) k1] at ht2
          simp (disch := omega) [p0, p4, show k < ps.length by omega, show 0 < ps.length by omega, hv, hv0, w0, w1]
          refine fork_dec (fun hw => ?_) (fun hw => ?_)
          · simp (disch := omega) [p0, p4, show k < ps.length by omega, show 0 < ps.length by omega, hv, hv0, x0, x1, hw]
            refine fork_dec (fun hx => ?_) (fun hx => ?_)
            · have es : sameSz l[k] l[0] = true := sameSz_iff.2 ⟨hw, hx⟩
              rw [es] at ht2
              simp (disch := omega) [p0, p4, wrap64]
              exact ⟨k + 1, ⟨by omega, by omega, by simpa using ht2, by omega⟩, by omega⟩
            · have es : sameSz l[k] l[0] = false := by
                cases h : sameSz l[k] l[0]
                · rfl
                · exact absurd (sameSz_iff.1 h).2 hx
              rw [es] at ht2
              have eC : sizesCode l = 6 := by unfold sizesCode; rw [← ht, if_pos rfl, e0, ← ht2]; rfl
              simp [eC]
          · have es : sameSz l[k] l[0] = false := by
              cases h : sameSz l[k] l[0]
              · rfl
              · exact absurd (sameSz_iff.1 h).1 hw
            rw [es] at ht2
            have eC : sizesCode l = 6 := by unfold sizesCode; rw [← ht, if_pos rfl, e0, ← ht2]; rfl
            simp [eC, hw]
        · have : k = l.length := by omega
          subst this
          simp only [List.drop_length, List.all_nil] at ht2
          have eC : sizesCode l = 0 := by unfold sizesCode; rw [← ht, if_pos rfl, e0, ← ht2]; rfl
          simp [eC]
end Am

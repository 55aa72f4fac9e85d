/- Contracts: panels that are valid, compared, made anew, cloned. -/
import Derived.Test.YtpdhmojncndobaaAmT3
import Derived.Test.YtpdhmojncndobaaAmC3
set_option linter.unusedVariables false
set_option linter.unusedSimpArgs false
set_option maxHeartbeats 4000000
namespace Am
open Go

abbrev Pan := Int × Int × List Int
def okBr (b : Int) : Bool := inR b 0 2
def okP (X : Pan) : Bool := okSz X.1 X.2.1 && (decide ((X.2.2.length : Int) = inner X.1 X.2.1) && X.2.2.all okBr)
structure OkP (X : Pan) : Prop where
  w : 1 ≤ X.1 ∧ X.1 ≤ 8
  h : 1 ≤ X.2.1 ∧ X.2.1 ≤ 8
  n : (X.2.2.length : Int) = inner X.1 X.2.1
  b : ∀ x ∈ X.2.2, 0 ≤ x ∧ x ≤ 2
theorem okP_iff {X : Pan} : okP X = true ↔ OkP X := by
  unfold okP
  simp only [Bool.and_eq_true, okSz_iff, decide_eq_true_eq, List.all_eq_true, okBr, inR_iff]
  exact ⟨fun ⟨⟨a, b⟩, c, d⟩ => ⟨a, b, c, d⟩, fun ⟨a, b, c, d⟩ => ⟨⟨a, b⟩, c, d⟩⟩

/-- A pointer to a panel. -/
def PtP (h : Heap) (v : Value) (X : Pan) : Prop := ∃ b o s, v = pt b o ∧ cell h b o = some (I X.1) ∧ cell h b (o + 1) = some (I X.2.1) ∧ cell h b (o + 2) = some s ∧ Vr h shInts s X.2.2 ∧ I64 X.1 ∧ I64 X.2.1
theorem Grows.cell {h h' : Heap} (g : Grows h h') {b o : Nat} {v : Value} (x : Am.cell h b o = some v) : Am.cell h' b o = some v := by
  unfold Am.cell at *
  split at x
  · rename_i k hk; rw [g.at hk]; exact x
  · cases x
theorem PtP.grow {h h' : Heap} {v : Value} {X : Pan} (x : PtP h v X) (g : Grows h h') : PtP h' v X := by
  obtain ⟨b, o, s, e, h1, h2, h3, h4, h5⟩ := x
  exact ⟨b, o, s, e, g.cell h1, g.cell h2, g.cell h3, h4.grow g, h5⟩
theorem PtP.push {h : Heap} {W H : Int} {s : Value} {br : List Int} {r : Bool} {l : List Blk} (hs : Vr h shInts s br) (hW : I64 W) (hH : I64 H) : PtP (h ++ ⟨[I W, I H, s], r⟩ :: l) (pt h.length 0) (W, H, br) := by
  refine ⟨h.length, 0, s, rfl, ?_, ?_, ?_, hs.grow ⟨_, rfl⟩, hW, hH⟩ <;> simp [Am.cell]

theorem c449 (a : Int) (h : Heap) : ACall Gam 449 [I a] h fun v h' => v = B (okBr a) ∧ h' = h := by
  refine ACall_intro g449 rfl ?_
  unfold fn449
  simp (disch := omega)
  refine callW_of (c432 a 0 2 h) ?_
  rintro v h' ⟨rfl, rfl⟩
  simp [okBr]
theorem c196 (a : Int) (h : Heap) : ACall Gam 196 [I a] h fun v h' => v = B (okBr a) ∧ h' = h := by
  refine ACall_intro g196 rfl ?_
  unfold fn196
  simp (disch := omega)
  refine callW_of (c164 a 0 2 h) ?_
  rintro v h' ⟨rfl, rfl⟩
  simp [okBr]

theorem all_drop {α : Type} {p : α → Bool} {l : List α} {k : Nat} (hk : k < l.length) : (l.drop k).all p = (p l[k] && (l.drop (k + 1)).all p) := by
  rw [List.drop_eq_getElem_cons hk]; rfl

theorem c452 (v : Value) (X : Pan) (h : Heap) (hv : PtP h v X) : ACall Gam 452 [v] h fun r h' => r = B (okP X) ∧ h' = h := by
  obtain ⟨b, o, s, rfl, h1, h2, h3, hs, hW, hH⟩ := hv
  obtain ⟨W, H, br⟩ := X
  obtain ⟨b2, o2, z, rfl, _, hm, hx, hc⟩ := hs.ints
  rw [maxLen_eq] at hm
  have hm : br.length ≤ 9223372036854775807 := hm
  simp only at h1 h2
  refine ACall_intro g452 rfl ?_
  unfold fn452
  simp (disch := omega) [h1, h2, h3]
  refine callW_of (c457 W h) ?_
  rintro v h' ⟨rfl, rfl⟩
  cases hb : inR W 1 8
  · simp [okP, okSz, hb]
  · simp (disch := omega) [h1, h2, h3]
    refine callW_of (c457 H h') ?_
    rintro v h' ⟨rfl, rfl⟩
    cases hc' : inR H 1 8
    · simp [okP, okSz, hb, hc']
    · simp (disch := omega) [h1, h2, h3]
      have qW := inR_iff.1 hb
      have qH := inR_iff.1 hc'
      refine callW_of (c448 W H qW qH h') ?_
      rintro v h' ⟨rfl, rfl⟩
      refine ⟨fun _ => Grows.refl _, ?_⟩
      simp (disch := omega) [h1, h2, h3]
      refine fork_dec (fun hn => ?_) (fun hn => ?_)
      · simp (disch := omega)
        refine awp_loop (fun k σ h'' => h'' = h' ∧ k ≤ br.length ∧ (br.drop k).all okBr = br.all okBr ∧ σ 0 = pt b o ∧ σ 3 = I k) (fun k => br.length - k) 0 ?_ ?_
        · simp
        · rintro k σ h'' ⟨rfl, hk, ht, q0, q3⟩
          simp (disch := omega) [q0, q3, h3]
          refine fork_dec (fun hlt => ?_) (fun hge => ?_)
          · have k1 : k < br.length := by omega
            simp (disch := omega) [q0, q3, h3, k1, ints_cell hc k1]
            refine callW_of (c432 br[k] 0 2 _) ?_
            rintro v h' ⟨rfl, rfl⟩
            rw [all_drop k1] at ht
            have eb : inR br[k] 0 2 = okBr br[k] := rfl
            rw [eb]
            cases hbr : okBr br[k]
            · rw [hbr] at ht
              simp [okP, okSz, hb, hc', hn, ← ht]
            · rw [hbr] at ht
              simp (disch := omega) [q0, q3, wrap64]
              exact ⟨k + 1, ⟨by omega, by simpa using ht, by omega⟩, by omega⟩
          · have : k = br.length := by omega
            subst this
            simp at ht
            simp [okP, okSz, hb, hc', hn]
            exact ht
      · simp [okP, okSz, hb, hc', hn]

theorem c140 (v : Value) (X : Pan) (h : Heap) (hv : Vr h shPanel v X) : ACall Gam 140 [v] h fun r h' => r = B (okP X) ∧ h' = h := by
  obtain ⟨W, H, br⟩ := X
  obtain ⟨s, rfl, hW, hH, hs⟩ := hv.panel
  obtain ⟨b2, o2, z, rfl, _, hm, hx, hc⟩ := hs.ints
  rw [maxLen_eq] at hm
  refine ACall_intro g140 rfl ?_
  unfold fn140
  simp (disch := omega)
  refine callW_of (c198 W H h) ?_
  rintro v h' ⟨rfl, rfl⟩
  cases hb : okSz W H
  · simp [okP, hb]
  · obtain ⟨qW, qH⟩ := okSz_iff.1 hb
    simp (disch := omega)
    refine callW_of (c166 W H qW qH h') ?_
    rintro v h' ⟨rfl, rfl⟩
    simp (disch := omega)
    refine fork_dec (fun hn => ?_) (fun hn => ?_)
    · simp (disch := omega)
      refine awp_loop (fun k σ h'' => h'' = h' ∧ k ≤ br.length ∧ (br.drop k).all okBr = br.all okBr ∧ σ 23 = sl b2 o2 br.length z ∧ σ 24 = I br.length ∧ σ 25 = I k) (fun k => br.length - k) 0 ?_ ?_
      · simp
      · rintro k σ h'' ⟨rfl, hk, ht, q0, q1, q3⟩
        simp (disch := omega) [q0, q1, q3]
        refine fork_dec (fun hlt => ?_) (fun hge => ?_)
        · have k1 : k < br.length := by omega
          simp (disch := omega) [q0, q1, q3, k1, ints_cell hc k1]
          refine callW_of (c196 br[k] _) ?_
          rintro v h' ⟨rfl, rfl⟩
          rw [all_drop k1] at ht
          cases hbr : okBr br[k]
          · rw [hbr] at ht
            simp [okP, hb, hn, ← ht]
          · rw [hbr] at ht
            simp (disch := omega) [q0, q1, q3, wrap64]
            exact ⟨k + 1, ⟨by omega, by simpa using ht, by omega⟩, by omega⟩
        · have : k = br.length := by omega
          subst this
          simp at ht
          simp [okP, hb, hn]
          exact ht
    · simp [okP, hb, hn]
def at0 (br : List Int) (i : Nat) : Int := br.getD i 0
theorem at0_of {br : List Int} {i : Nat} (h : i < br.length) : at0 br i = br[i] := by simp [at0, h]
end Am

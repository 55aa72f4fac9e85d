/- Contracts: AmY35, AmY36, AmY37, AmY38, AmY39, AmY40, AmG4. -/
import Derived.Test.YtikhbjdcomgemaaAmK10
import Derived.Test.YtikhbjdcomgemaaAmK7
import Derived.Test.YtikhbjdcomgemaaAmK8
import Derived.Test.YtikhbjdcomgemaaAmK4
import Derived.Test.YtikhbjdcomgemaaAmK9
set_option linter.unusedVariables false
set_option linter.unusedSimpArgs false
set_option maxHeartbeats 4000000
set_option maxRecDepth 4000
namespace Am
open Go

noncomputable def withC (X : Lib) (a : Int) : List (List UInt8) × Int := withAns X (fun p => (curveN p : Int)) a
theorem KeptOk.panel {X : Lib} (ok : KeptOk X) {i : Nat} (hi : i < X.length) : OkP X[i].2 := by
  have := (ok.ent i hi).ok
  rwa [kP_of hi] at this
theorem KeptOk.names12 {X : Lib} (ok : KeptOk X) : ∀ y ∈ X, y.1.length ≤ 12 := by
  intro y hy
  obtain ⟨i, hi, rfl⟩ := List.mem_iff_getElem.1 hy
  have := (ok.name12 hi).1
  simpa [kN, hi] using this
theorem KeptOk.name12' {X : Lib} (ok : KeptOk X) {i : Nat} (hi : i < X.length) : X[i].1.length ≤ 12 := ok.names12 _ (List.getElem_mem hi)
theorem withC_siz (X : Lib) (a : Int) : siz shTexts (withC X a).1 ≤ 16777216 := by
  unfold withC withAns
  split
  · rename_i q
    have ok := keptOk_iff.1 q
    have h1 := ok.len
    have key : ∀ Y : Lib, (∀ y ∈ Y, y.1.length ≤ 12) → siz shTexts (Y.map (·.1)) ≤ Y.length * 13 := by
      intro Y
      induction Y with
      | nil => intro _; show 0 + 0 ≤ _; omega
      | cons y Y ih =>
        intro hY
        have h1 := ih fun y hy => hY y (by simp [hy])
        have h2 := hY y (by simp)
        have e1 : siz shTexts (Y.map (·.1)) = (Y.map (·.1)).length + ((Y.map (·.1)).map fun y : List UInt8 => y.length).sum := rfl
        have e2 : siz shTexts ((y :: Y).map (·.1)) = ((Y.map (·.1)).length + 1) + (y.1.length + ((Y.map (·.1)).map fun y : List UInt8 => y.length).sum) := rfl
        rw [e2]; rw [e1] at h1
        simp only [List.length_cons]; omega
    have h2 := key (X.filter fun k => decide ((curveN k.2 : Int) = a)) fun y hy => ok.names12 y (List.mem_filter.1 hy).1
    have h3 : (X.filter fun k => decide ((curveN k.2 : Int) = a)).length ≤ X.length := List.length_filter_le _ _
    simp only
    omega
  · show 0 + 0 ≤ _; omega
theorem c387 (h : Heap) (hp : 0 < h.length) (v : Value) (X : Lib) (hv : Vr h shKepts v X) (hs : siz shKepts X ≤ 1048576) (a : Int) (ha : I64 a) : ACall Gam 387 [v, I a] h fun r h' => Grows h h' ∧ ∃ r0, r = .tuple #[r0, I (withC X a).2] ∧ Vo h' h.length h'.length shTexts r0 (withC X a).1 ∧ siz shTexts (withC X a).1 ≤ 16777216 := by
  obtain ⟨b, o, z, rfl, hX⟩ := hv.kat
  have hsz := withC_siz X a
  refine ACall_intro g387 rfl ?_
  unfold fn387
  simp (disch := omega)
  refine callW_of (c541 h hp b o z X hX fun k hk => KAt.short hs hk) ?_
  rintro _ h1 ⟨rfl, g1⟩
  try refine ⟨fun e => (by first | exact g1 | cases e), ?_⟩
  have l1 := g1.le
  cases q : keptOk X
  · have e : withC X a = ([], 1) := by unfold withC withAns; rw [q]; rfl
    rw [e] at hsz ⊢
    simp (disch := omega)
    first | exact ⟨g1, Vo.no_texts, hsz⟩ | exact ⟨g1, _, rfl, Vo.no_texts, hsz⟩
  have ok := keptOk_iff.1 q
  have e : withC X a = (((X.filter fun k => decide ((curveN k.2 : Int) = a)).map (·.1)), 0) := by unfold withC withAns; rw [q]; rfl
  rw [e] at hsz ⊢
  have hlen := ok.len
  simp (disch := omega)
  refine awp_loop (fun (k : Nat) σ h' => Grows h h' ∧ h1.length ≤ h'.length ∧ k ≤ X.length ∧ σ 0 = sl b o X.length z ∧ σ 1 = I a ∧ σ 7 = I k ∧ Buf h h' (σ 6) 1 (texts (((X.take k).filter fun k => decide ((curveN k.2 : Int) = a)).map (·.1)))) (fun k => X.length - k) 0 ?_ ?_
  · exact ⟨g1, by omega, by omega, by simp, by simp, by simp, by simpa [texts] using Buf.nil⟩
  · rintro k σ h2 ⟨g, l2, hk, q0, q1, q7, bf⟩
    simp (disch := omega) [q0, q1, q7]
    refine fork_dec (fun hlt => ?_) (fun hge => ?_)
    · have k1 : k < X.length := by omega
      obtain ⟨s, c4, c1, vp, pp, _⟩ := (hX.grow g).cells k1
      have okp : OkP X[k].2 := ok.panel k1
      have hn := (ok.name12' k1)
      have et : (X.take (k + 1)).filter (fun k => decide ((curveN k.2 : Int) = a)) = (X.take k).filter (fun k => decide ((curveN k.2 : Int) = a)) ++ if (curveN X[k].2 : Int) = a then [X[k]] else [] := by
        rw [List.take_succ_eq_append_getElem k1, List.filter_append]
        congr 1
        by_cases q : (curveN X[k].2 : Int) = a <;> simp [q]
      have hlf : (texts (((X.take k).filter fun k => decide ((curveN k.2 : Int) = a)).map (·.1))).length ≤ k := by
        simp only [texts, List.length_map]
        exact Nat.le_trans (List.length_filter_le _ _) (by simp; omega)
      simp (disch := omega) [q0, q1, q7, k1, c4]
      refine callW_of (c465 h2 (by omega) _ X[k].2 pp okp) ?_
      rintro _ h3 ⟨g3, rfl⟩
      try refine ⟨fun e => (by first | exact g3 | cases e), ?_⟩
      have l3 := g3.le
      have bf3 := bf.grow g3
      obtain ⟨_, c43, c13, _⟩ := (hX.grow (g.trans g3)).cells k1
      simp (disch := omega) [q0, q1, q7]
      refine fork_dec (fun hq => ?_) (fun hq => ?_)
      · have eb : aBuildSlice 1 1 h3 [(0, .agg #[S []]), (1, S X[k].1)] = some (sl h3.length 0 1 1, h3 ++ [⟨[S X[k].1], true⟩]) := by simp [aBuildSlice]
        simp (disch := omega) [q0, q1, q7, k1, c13]
        rw [eb]
        simp only [bindW_some]
        refine app1 hp (g.trans g3) (Nat.le_refl _) (by omega) bf3 (by simp) (by omega) (by simp [maxSize]; omega) fun v6 h6 g6 l6 b6 n6 fr6 => ?_
        simp (disch := omega) [q0, q1, q7, wrap64]
        refine ⟨k + 1, ⟨g6, by omega, by omega, by omega, ?_⟩, by omega⟩
        rw [et, if_pos hq, List.map_append, texts_append]
        exact b6
      · simp (disch := omega) [q0, q1, q7, wrap64]
        refine ⟨k + 1, ⟨g.trans g3, by omega, by omega, by omega, ?_⟩, by omega⟩
        rw [et, if_neg hq, List.append_nil]
        exact bf3
    · have ek : k = X.length := by omega
      subst ek
      rw [List.take_length] at bf
      have vo := bf.vo_texts (X := (X.filter fun k => decide ((curveN k.2 : Int) = a)).map (·.1)) (by rw [maxLen_eq]; rw [List.length_map]; exact Nat.le_trans (List.length_filter_le _ _) (by omega)) (by
        intro x hx
        obtain ⟨y, hy, rfl⟩ := List.mem_map.1 hx
        have := ok.names12 y (List.mem_filter.1 hy).1
        rw [maxLen_eq]; omega)
      obtain ⟨b6, e6⟩ := bf.sl1
      simp (disch := omega) [q0, q1, q7, e6]
      rw [e6] at vo
      first | exact ⟨g, vo, hsz⟩ | exact ⟨g, _, rfl, vo, hsz⟩
theorem c95 (h : Heap) (hp : 0 < h.length) (v : Value) (X : Lib) (hv : Vr h shKepts v X) (hs : siz shKepts X ≤ 1048576) (a : Int) (ha : I64 a) : ACall Gam 95 [v, I a] h fun r h' => Grows h h' ∧ ∃ r0, r = .tuple #[r0, I (withC X a).2] ∧ Vo h' h.length h'.length shTexts r0 (withC X a).1 ∧ siz shTexts (withC X a).1 ≤ 16777216 := by
  obtain ⟨b, o, z, rfl, hX⟩ := hv.kat
  have hsz := withC_siz X a
  refine ACall_intro g95 rfl ?_
  unfold fn95
  simp (disch := omega)
  refine callW_of (c139 h hp b o z X hX fun k hk => KAt.short hs hk) ?_
  rintro _ h1 ⟨rfl, g1⟩
  try refine ⟨fun e => (by first | exact g1 | cases e), ?_⟩
  have l1 := g1.le
  cases q : keptOk X
  · have e : withC X a = ([], 1) := by unfold withC withAns; rw [q]; rfl
    rw [e] at hsz ⊢
    simp (disch := omega)
    first | exact ⟨g1, Vo.no_texts, hsz⟩ | exact ⟨g1, _, rfl, Vo.no_texts, hsz⟩
  have ok := keptOk_iff.1 q
  have e : withC X a = (((X.filter fun k => decide ((curveN k.2 : Int) = a)).map (·.1)), 0) := by unfold withC withAns; rw [q]; rfl
  rw [e] at hsz ⊢
  have hlen := ok.len
  simp (disch := omega)
  refine awp_loop (fun (k : Nat) σ h' => Grows h h' ∧ h1.length ≤ h'.length ∧ k ≤ X.length ∧ σ 1 = I a ∧ σ 13 = sl b o X.length z ∧ σ 14 = I X.length ∧ σ 15 = I k ∧ Buf h h' (σ 6) 1 (texts (((X.take k).filter fun k => decide ((curveN k.2 : Int) = a)).map (·.1)))) (fun k => X.length - k) 0 ?_ ?_
  · exact ⟨g1, by omega, by omega, by simp, by simp, by simp, by simp, by simpa [texts] using Buf.nil⟩
  · rintro k σ h2 ⟨g, l2, hk, q1, q13, q14, q15, bf⟩
    simp (disch := omega) [q1, q13, q14, q15]
    refine fork_dec (fun hlt => ?_) (fun hge => ?_)
    · have k1 : k < X.length := by omega
      obtain ⟨s, c4, c1, vp, pp, _⟩ := (hX.grow g).cells k1
      have okp : OkP X[k].2 := ok.panel k1
      have hn := (ok.name12' k1)
      have et : (X.take (k + 1)).filter (fun k => decide ((curveN k.2 : Int) = a)) = (X.take k).filter (fun k => decide ((curveN k.2 : Int) = a)) ++ if (curveN X[k].2 : Int) = a then [X[k]] else [] := by
        rw [List.take_succ_eq_append_getElem k1, List.filter_append]
        congr 1
        by_cases q : (curveN X[k].2 : Int) = a <;> simp [q]
      have hlf : (texts (((X.take k).filter fun k => decide ((curveN k.2 : Int) = a)).map (·.1))).length ≤ k := by
        simp only [texts, List.length_map]
        exact Nat.le_trans (List.length_filter_le _ _) (by simp; omega)
      simp (disch := omega) [q1, q13, q14, q15, k1, c4]
      refine callW_of (c154 h2 (by omega) _ X[k].2 vp okp) ?_
      rintro _ h3 ⟨g3, rfl⟩
      try refine ⟨fun e => (by first | exact g3 | cases e), ?_⟩
      have l3 := g3.le
      have bf3 := bf.grow g3
      obtain ⟨_, c43, c13, _⟩ := (hX.grow (g.trans g3)).cells k1
      simp (disch := omega) [q1, q13, q14, q15]
      refine fork_dec (fun hq => ?_) (fun hq => ?_)
      · have eb : aBuildSlice 1 1 h3 [(0, .agg #[S []]), (1, S X[k].1)] = some (sl h3.length 0 1 1, h3 ++ [⟨[S X[k].1], true⟩]) := by simp [aBuildSlice]
        simp (disch := omega) [q1, q13, q14, q15, k1, c13]
        rw [eb]
        simp only [bindW_some]
        refine app1 hp (g.trans g3) (Nat.le_refl _) (by omega) bf3 (by simp) (by omega) (by simp [maxSize]; omega) fun v6 h6 g6 l6 b6 n6 fr6 => ?_
        simp (disch := omega) [q1, q13, q14, q15, wrap64]
        refine ⟨k + 1, ⟨g6, by omega, by omega, by omega, ?_⟩, by omega⟩
        rw [et, if_pos hq, List.map_append, texts_append]
        exact b6
      · simp (disch := omega) [q1, q13, q14, q15, wrap64]
        refine ⟨k + 1, ⟨g.trans g3, by omega, by omega, by omega, ?_⟩, by omega⟩
        rw [et, if_neg hq, List.append_nil]
        exact bf3
    · have ek : k = X.length := by omega
      subst ek
      rw [List.take_length] at bf
      have vo := bf.vo_texts (X := (X.filter fun k => decide ((curveN k.2 : Int) = a)).map (·.1)) (by rw [maxLen_eq]; rw [List.length_map]; exact Nat.le_trans (List.length_filter_le _ _) (by omega)) (by
        intro x hx
        obtain ⟨y, hy, rfl⟩ := List.mem_map.1 hx
        have := ok.names12 y (List.mem_filter.1 hy).1
        rw [maxLen_eq]; omega)
      obtain ⟨b6, e6⟩ := bf.sl1
      simp (disch := omega) [q1, q13, q14, q15, e6]
      rw [e6] at vo
      first | exact ⟨g, vo, hsz⟩ | exact ⟨g, _, rfl, vo, hsz⟩
end Am
/-! AmY36 -/
set_option linter.unusedVariables false
set_option linter.unusedSimpArgs false
set_option maxHeartbeats 4000000
set_option maxRecDepth 4000
namespace Am
open Go

/-- The breaks after the first steps from the start. -/
def fwdB (p : List Trip) (c : List Int) (k : Nat) : List Int := (p.take k).foldl (fun b s => b.set s.1.toNat s.2.2) c
noncomputable def alongL (X : Jrn) (k : Nat) : List Int := (List.range k).map fun j => (curveN (X.1.1, X.1.2.1, fwdB X.2.1 (startB X) j) : Int)
noncomputable def alongA (X : Jrn) : List Int × Int := if okJ X then (alongL X (X.2.1.length + 1), 0) else ([], 1)
structure AlongOk (W H : Int) (br : List Int) (p f : List Trip) : Prop where
  ok : ∀ k, k ≤ p.length → OkP (W, H, fwdB p (startB ((W, H, br), p, f)) k)
  st : ∀ k, (h : k < p.length) → (0 ≤ p[k].1 ∧ p[k].1 < (fwdB p (startB ((W, H, br), p, f)) k).length)
  len : ∀ k, k ≤ p.length → (fwdB p (startB ((W, H, br), p, f)) k).length = br.length
  le : p.length ≤ 50
end Am
/-! AmY37 -/
set_option linter.unusedVariables false
set_option linter.unusedSimpArgs false
set_option maxHeartbeats 4000000
set_option maxRecDepth 4000
namespace Am
open Go

end Am
/-! AmY38 -/
set_option linter.unusedVariables false
set_option linter.unusedSimpArgs false
set_option maxHeartbeats 4000000
namespace Am
open Go

noncomputable def entO (l : List UInt8) : Option Kpt := if idx l 32 0 < 0 then none else if (readAns (l.drop ((idx l 32 0).toNat + 1))).2 then some (l.take (idx l 32 0).toNat, (readAns (l.drop ((idx l 32 0).toNat + 1))).1) else none
noncomputable def entS (l : List UInt8) : Option Kpt := if (splitS 32 l).length = 2 then (if (readAns (nth (splitS 32 l) 1)).2 then some (nth (splitS 32 l) 0, (readAns (nth (splitS 32 l) 1)).1) else none) else none
/-! ### lines -/
def linesP (s : List UInt8) : Option (List (List UInt8)) := if nth (splitS 10 s) ((splitS 10 s).length - 1) = [] then some (splitS 10 s).dropLast else none
noncomputable def entsO : List (List UInt8) → Option Lib
  | [] => some []
  | l :: L => match entO l with
    | none => none
    | some e => (entsO L).map (e :: ·)
noncomputable def readK (s : List UInt8) : Lib × Bool := match linesP s with
  | none => ([], false)
  | some L => if 40 < L.length then ([], false) else match entsO L with
    | none => ([], false)
    | some X => if keptOk X then (X, true) else ([], false)
end Am
/-! AmY39 -/
set_option linter.unusedVariables false
set_option linter.unusedSimpArgs false
set_option maxHeartbeats 4000000
set_option maxRecDepth 4000
namespace Am
open Go

def LinesAt (h : Heap) (s : List UInt8) (r : Value) : Prop := ∃ b n z, r = .tuple #[sl b 0 n z, B (linesP s).isSome] ∧ ∀ L, linesP s = some L → n = L.length ∧ (L = [] ∨ cellsAt h b 0 L.length = some (texts L))
/-- The rows' entries are these. -/
def RowsOf (R : List Row) (X : Lib) : Prop := R.map (·.1) = X
end Am
/-! AmY40 -/
set_option linter.unusedVariables false
set_option linter.unusedSimpArgs false
set_option maxHeartbeats 4000000
set_option maxRecDepth 4000
namespace Am
open Go

end Am
/-! AmG4 -/
set_option linter.unusedVariables false
set_option linter.unusedSimpArgs false
set_option maxHeartbeats 4000000
set_option maxRecDepth 4000
namespace Am
open Go

/-! ### libraries -/
/-- One entry at the head of bytes, and what is behind it; more bytes than the entry needs must be there. -/
def oneP (more : Nat) (r : List UInt8) : Option (Kpt × List UInt8) :=
  if r.length < bn r 0 + 4 + more then none
  else if okSz (bn (r.drop (bn r 0 + 1)) 1) (bn (r.drop (bn r 0 + 1)) 2) = false ∨ ((r.drop (bn r 0 + 1)).length : Int) < packSize (bn (r.drop (bn r 0 + 1)) 1) (bn (r.drop (bn r 0 + 1)) 2) then none
  else if unOk ((r.drop (bn r 0 + 1)).take (packSize (bn (r.drop (bn r 0 + 1)) 1) (bn (r.drop (bn r 0 + 1)) 2)).toNat) then
    some ((((r.take (bn r 0 + 1)).drop 1), unP ((r.drop (bn r 0 + 1)).take (packSize (bn (r.drop (bn r 0 + 1)) 1) (bn (r.drop (bn r 0 + 1)) 2)).toNat)), (r.drop (bn r 0 + 1)).drop (packSize (bn (r.drop (bn r 0 + 1)) 1) (bn (r.drop (bn r 0 + 1)) 2)).toNat)
  else none
def parK (more : Nat) : Nat → List UInt8 → Option (Lib × List UInt8)
  | 0, r => some ([], r)
  | n + 1, r => match oneP more r with
    | none => none
    | some (k, t) => (parK more n t).map fun p => (k :: p.1, p.2)
open Classical in
/-- The library with a packed form. -/
noncomputable def unpackK (s : List UInt8) : Lib × Int := if h : ∃ X, keptOk X = true ∧ packK X = s then (Classical.choose h, 0) else ([], 8)
theorem KeptOk.pk {X : Lib} (ok : KeptOk X) : ∀ e ∈ X, OkP e.2 ∧ e.1.length ≤ 12 := by
  intro e he
  obtain ⟨i, hi, rfl⟩ := List.getElem_of_mem he
  exact ok.getOk hi
end Am

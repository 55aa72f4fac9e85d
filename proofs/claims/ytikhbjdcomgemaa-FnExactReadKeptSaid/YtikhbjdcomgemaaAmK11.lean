/- Contracts: AmY35, AmY36, AmY37, AmY38, AmY39, AmY40, AmG4. -/
import Derived.Test.YtikhbjdcomgemaaAmK10
import Derived.Test.YtikhbjdcomgemaaAmK7
import Derived.Test.YtikhbjdcomgemaaAmK8
import Derived.Test.YtikhbjdcomgemaaAmK4
import Derived.Test.YtikhbjdcomgemaaAmK9
set_option linter.unusedVariables false
set_option linter.unusedSimpArgs false
set_option maxHeartbeats 4000000
set_option maxRecDepth 4000
namespace Am
open Go

noncomputable def withC (X : Lib) (a : Int) : List (List UInt8) × Int := withAns X (fun p => (curveN p : Int)) a
theorem KeptOk.panel {X : Lib} (ok : KeptOk X) {i : Nat} (hi : i < X.length) : OkP X[i].2 := by
  have := (ok.ent i hi).ok
  rwa [kP_of hi] at this
end Am
/-! AmY36 -/
set_option linter.unusedVariables false
set_option linter.unusedSimpArgs false
set_option maxHeartbeats 4000000
set_option maxRecDepth 4000
namespace Am
open Go

/-- The breaks after the first steps from the start. -/
def fwdB (p : List Trip) (c : List Int) (k : Nat) : List Int := (p.take k).foldl (fun b s => b.set s.1.toNat s.2.2) c
noncomputable def alongL (X : Jrn) (k : Nat) : List Int := (List.range k).map fun j => (curveN (X.1.1, X.1.2.1, fwdB X.2.1 (startB X) j) : Int)
noncomputable def alongA (X : Jrn) : List Int × Int := if okJ X then (alongL X (X.2.1.length + 1), 0) else ([], 1)
structure AlongOk (W H : Int) (br : List Int) (p f : List Trip) : Prop where
  ok : ∀ k, k ≤ p.length → OkP (W, H, fwdB p (startB ((W, H, br), p, f)) k)
  st : ∀ k, (h : k < p.length) → (0 ≤ p[k].1 ∧ p[k].1 < (fwdB p (startB ((W, H, br), p, f)) k).length)
  len : ∀ k, k ≤ p.length → (fwdB p (startB ((W, H, br), p, f)) k).length = br.length
  le : p.length ≤ 50
end Am
/-! AmY37 -/
set_option linter.unusedVariables false
set_option linter.unusedSimpArgs false
set_option maxHeartbeats 4000000
set_option maxRecDepth 4000
namespace Am
open Go

end Am
/-! AmY38 -/
set_option linter.unusedVariables false
set_option linter.unusedSimpArgs false
set_option maxHeartbeats 4000000
namespace Am
open Go

theorem idx_split : ∀ (s : List UInt8) (c : UInt8) (i : Nat), (idx s c i = -1 ∧ c ∉ s) ∨ ∃ a t, s = a ++ c :: t ∧ c ∉ a ∧ idx s c i = ((i + a.length : Nat) : Int)
  | [], c, i => .inl ⟨rfl, by simp⟩
  | x :: r, c, i => by
    simp only [idx]
    split
    · rename_i e; exact .inr ⟨[], r, by simp [e], by simp, by simp⟩
    · rename_i e
      rcases idx_split r c (i + 1) with ⟨h1, h2⟩ | ⟨a, t, h1, h2, h3⟩
      · exact .inl ⟨h1, by simp only [List.mem_cons, not_or]; exact ⟨fun q => e q.symm, h2⟩⟩
      · refine .inr ⟨x :: a, t, by simp [h1], ?_, ?_⟩
        · simp only [List.mem_cons, not_or]; exact ⟨fun q => e q.symm, h2⟩
        · rw [h3]; simp; omega
theorem no_space {X : Pan} (ok : OkP X) : (32 : UInt8) ∉ pTxt X := by
  rw [pTxt_ok ok]
  have h1 := dgB_toNat ok.w
  have h2 := dgB_toNat ok.h
  have e32 : (32 : UInt8).toNat = 32 := rfl
  intro h
  simp only [List.mem_cons, List.mem_map] at h
  rcases h with h | h | h | h | ⟨x, _, h⟩
  · rw [← h] at h1; omega
  · exact absurd h (by decide)
  · rw [← h] at h2; omega
  · exact absurd h (by decide)
  · unfold signB at h; split at h
    · exact absurd h (by decide)
    · split at h <;> exact absurd h (by decide)
noncomputable def entO (l : List UInt8) : Option Kpt := if idx l 32 0 < 0 then none else if (readAns (l.drop ((idx l 32 0).toNat + 1))).2 then some (l.take (idx l 32 0).toNat, (readAns (l.drop ((idx l 32 0).toNat + 1))).1) else none
noncomputable def entS (l : List UInt8) : Option Kpt := if (splitS 32 l).length = 2 then (if (readAns (nth (splitS 32 l) 1)).2 then some (nth (splitS 32 l) 0, (readAns (nth (splitS 32 l) 1)).1) else none) else none
theorem entSO (l : List UInt8) : entS l = entO l := by
  rcases idx_split l 32 0 with ⟨h1, h2⟩ | ⟨a, t, h1, h2, h3⟩
  · have e : splitS 32 l = [l] := by unfold splitS; rw [splitG_none h2]; simp
    unfold entS entO
    rw [e, h1]; simp
  · have e0 : splitS 32 l = a :: splitS 32 t := by
      unfold splitS; rw [h1, splitG_one h2]; simp
    have e1 : idx l 32 0 = (a.length : Int) := by rw [h3]; simp
    have e2 : l.drop ((idx l 32 0).toNat + 1) = t := by rw [e1, h1]; simp
    have e3 : l.take (idx l 32 0).toNat = a := by rw [e1, h1]; simp
    unfold entS entO
    rw [e2, e3, e0, if_neg (show ¬ idx l 32 0 < 0 by omega)]
    by_cases q : (32 : UInt8) ∈ t
    · obtain ⟨a', t', h1', h2'⟩ : ∃ a' t', t = a' ++ 32 :: t' ∧ (32 : UInt8) ∉ a' := by
        rcases idx_split t 32 0 with ⟨_, q2⟩ | ⟨a', t', q1, q2, _⟩
        · exact absurd q q2
        · exact ⟨a', t', q1, q2⟩
      have e4 : splitS 32 t = a' :: splitS 32 t' := by
        unfold splitS; rw [h1', splitG_one h2']; simp
      have hl := (splitG_len 32 t' []).1
      rw [if_neg (by intro e; rw [e4] at e; simp only [List.length_cons] at e; have q : splitS 32 t' = splitG 32 [] t' := rfl; rw [q] at e; omega), if_neg]
      rcases readAns_cases t with ⟨X, ok, hX, _⟩ | ⟨_, hr⟩
      · exact absurd (hX ▸ q) (no_space ok)
      · rw [hr]; simp
    · have e4 : splitS 32 t = [t] := by unfold splitS; rw [splitG_none q]; simp
      rw [e4]; simp [nth]

/-! ### lines -/
theorem splitG_end (b : UInt8) : ∀ (s cur : List UInt8), splitG b cur (s ++ [b]) = splitG b cur s ++ [[]]
  | [], cur => by simp [splitG]
  | c :: r, cur => by
    simp only [List.cons_append, splitG]
    split
    · rw [splitG_end b r []]; rfl
    · exact splitG_end b r _
theorem splitG_last {b x : UInt8} (hx : x ≠ b) : ∀ (s cur : List UInt8), ∃ L w, splitG b cur (s ++ [x]) = L ++ [w ++ [x]]
  | [], cur => ⟨[], cur, by simp [splitG, hx]⟩
  | c :: r, cur => by
    simp only [List.cons_append, splitG]
    split
    · obtain ⟨L, w, h⟩ := splitG_last hx r []
      exact ⟨cur :: L, w, by rw [h]; rfl⟩
    · exact splitG_last hx r _
def linesP (s : List UInt8) : Option (List (List UInt8)) := if nth (splitS 10 s) ((splitS 10 s).length - 1) = [] then some (splitS 10 s).dropLast else none
theorem lines_nil : linesP [] = some [] := by simp [linesP, splitS, splitG, nth]
theorem lines_end (s : List UInt8) : linesP (s ++ [10]) = some (splitS 10 s) := by
  have e : splitS 10 (s ++ [10]) = splitS 10 s ++ [[]] := splitG_end 10 s []
  unfold linesP
  rw [e]
  simp [nth]
theorem lines_none {s : List UInt8} {x : UInt8} (hx : x ≠ 10) : linesP (s ++ [x]) = none := by
  obtain ⟨L, w, h⟩ := splitG_last hx s []
  have h' : splitS 10 (s ++ [x]) = L ++ [w ++ [x]] := h
  unfold linesP
  rw [h']
  simp [nth]
noncomputable def entsO : List (List UInt8) → Option Lib
  | [] => some []
  | l :: L => match entO l with
    | none => none
    | some e => (entsO L).map (e :: ·)
theorem entsO_snoc : ∀ {L : List (List UInt8)} {X : Lib} {l : List UInt8} {e : Kpt}, entsO L = some X → entO l = some e → entsO (L ++ [l]) = some (X ++ [e])
  | [], X, l, e, h, he => by simp only [entsO, Option.some.injEq] at h; subst h; simp [entsO, he]
  | a :: L, X, l, e, h, he => by
    simp only [entsO] at h
    split at h
    · cases h
    · rename_i k hk
      obtain ⟨Y, hY, rfl⟩ := Option.map_eq_some_iff.1 h
      simp only [List.cons_append, entsO, hk, entsO_snoc hY he, Option.map_some]
theorem entsO_none : ∀ {L : List (List UInt8)} {l : List UInt8}, l ∈ L → entO l = none → entsO L = none
  | a :: L, l, h, he => by
    simp only [entsO]
    rcases List.mem_cons.1 h with rfl | h
    · rw [he]
    · split
      · rfl
      · rw [entsO_none h he]; rfl
theorem entsO_len : ∀ {L : List (List UInt8)} {X : Lib}, entsO L = some X → X.length = L.length
  | [], X, h => by simp only [entsO, Option.some.injEq] at h; subst h; rfl
  | a :: L, X, h => by
    simp only [entsO] at h
    split at h
    · cases h
    · obtain ⟨Y, hY, rfl⟩ := Option.map_eq_some_iff.1 h
      simp [entsO_len hY]
noncomputable def readK (s : List UInt8) : Lib × Bool := match linesP s with
  | none => ([], false)
  | some L => if 40 < L.length then ([], false) else match entsO L with
    | none => ([], false)
    | some X => if keptOk X then (X, true) else ([], false)
end Am
/-! AmY39 -/
set_option linter.unusedVariables false
set_option linter.unusedSimpArgs false
set_option maxHeartbeats 4000000
set_option maxRecDepth 4000
namespace Am
open Go

theorem Buf.texts1 {h0 h : Heap} {v : Value} {L : List (List UInt8)} (x : Buf h0 h v 1 (texts L)) : ∃ b, v = sl b 0 L.length 1 ∧ (L = [] ∨ cellsAt h b 0 L.length = some (texts L)) := by
  have hl : (Am.texts L).length = L.length := by simp [Am.texts]
  rcases x with ⟨e1, rfl⟩ | ⟨b, n, rfl, e2, e3, e4⟩
  · rw [e1] at hl
    have : L = [] := List.length_eq_zero_iff.1 (by simpa using hl.symm)
    subst this
    exact ⟨0, rfl, .inl rfl⟩
  · have : n = L.length := by omega
    subst this
    exact ⟨b, rfl, .inr (cellsAt_all e4 hl.symm)⟩
def LinesAt (h : Heap) (s : List UInt8) (r : Value) : Prop := ∃ b n z, r = .tuple #[sl b 0 n z, B (linesP s).isSome] ∧ ∀ L, linesP s = some L → n = L.length ∧ (L = [] ∨ cellsAt h b 0 L.length = some (texts L))
theorem c170 (h : Heap) (hp : 0 < h.length) (s : List UInt8) (hs : s.length ≤ 1048576) : ACall Gam 170 [S s] h fun r h' => Grows h h' ∧ LinesAt h' s r := by
  refine ACall_intro g170 rfl ?_
  unfold fn170
  rcases List.eq_nil_or_concat s with rfl | ⟨t, x, e⟩
  · simp (disch := omega)
    refine ⟨Grows.refl _, 0, 0, 0, by rw [lines_nil]; rfl, fun L hL => ?_⟩
    rw [lines_nil] at hL
    cases hL
    exact ⟨rfl, .inl rfl⟩
  · have e : s = t ++ [x] := by rw [e]; simp
    subst e
    have hl : (t ++ [x]).length = t.length + 1 := by simp
    rw [hl] at hs
    have ne : ¬ (t ++ [x] = []) := by simp
    have e2 : ((t.length : Int) + 1) - 1 = (t.length : Nat) := by omega
    have i1 : (t.length : Int) < t.length + 1 := by omega
    by_cases hx : x = 10
    · subst hx
      have es : aSlice 0 h (S (t ++ [10])) none (some (I (t.length : Nat))) none = some (S t, h) := by
        rw [slice_to (by simp)]; simp
      simp (disch := omega) [wrap64, e2, ne, i1, es]
      refine callW_of (split_ok (.inl rfl) t 10 (by omega) h hp) ?_
      rintro _ h1 ⟨g1, bf⟩
      obtain ⟨b, rfl, hc⟩ := bf.texts1
      try refine ⟨fun e => (by first | exact g1 | cases e), ?_⟩
      simp (disch := omega)
      refine ⟨g1, b, _, 1, by rw [lines_end]; rfl, fun L hL => ?_⟩
      rw [lines_end] at hL
      cases hL
      exact ⟨rfl, hc⟩
    · have hx' : ¬ ((x.toNat : Int) = 10) := by
        intro e; exact hx (UInt8.toNat_inj.1 (by have : (10 : UInt8).toNat = 10 := rfl; omega))
      have hx'' : ¬ (x.toNat = 10) := by omega
      simp (disch := omega) [wrap64, e2, ne, i1, hx', hx'']
      refine ⟨Grows.refl _, 0, 0, 0, by rw [lines_none hx]; rfl, fun L hL => ?_⟩
      rw [lines_none hx] at hL
      cases hL
/-- The rows' entries are these. -/
def RowsOf (R : List Row) (X : Lib) : Prop := R.map (·.1) = X
theorem RowsOf.snoc {R : List Row} {X : Lib} {r : Row} {k : Kpt} (a : RowsOf R X) (h : r.1 = k) : RowsOf (R ++ [r]) (X ++ [k]) := by
  unfold RowsOf at a ⊢; rw [List.map_append, a]; simp [h]
theorem entO_some {l : List UInt8} {e : Kpt} (h : entO l = some e) : e.1.length ≤ l.length := by
  unfold entO at h
  split at h
  · cases h
  · split at h
    · cases h; simp; omega
    · cases h
theorem entsO_small : ∀ {L : List (List UInt8)} {X : Lib}, entsO L = some X → (∀ l ∈ L, l.length ≤ 1048576) → ∀ e ∈ X, e.1.length ≤ 1048576
  | [], X, h, _ => by simp only [entsO, Option.some.injEq] at h; subst h; simp
  | a :: L, X, h, hL => by
    simp only [entsO] at h
    split at h
    · cases h
    · rename_i k hk
      obtain ⟨Y, hY, rfl⟩ := Option.map_eq_some_iff.1 h
      intro e he
      rcases List.mem_cons.1 he with rfl | he
      · have := entO_some hk
        have := hL a (by simp); omega
      · exact entsO_small hY (fun l hl => hL l (by simp [hl])) e he
theorem readK_siz (s : List UInt8) : siz shKepts (readK s).1 ≤ 16777216 := by
  have z0 : siz shKepts ([] : Lib) ≤ 16777216 := by rw [siz_kepts]; simp [sizL]
  unfold readK
  split
  · exact z0
  · split
    · exact z0
    · split
      · exact z0
      · split
        · rename_i X _ q
          have ok := keptOk_iff.1 q
          have := small_siz (X := X) (n := 40) ok.len ok.small
          simp only; omega
        · exact z0
theorem lines_small {s : List UInt8} {L : List (List UInt8)} (h : linesP s = some L) : ∀ l ∈ L, l.length ≤ s.length := by
  unfold linesP at h
  split at h
  · cases h
    intro l hl
    have := splitG_sum 10 s [] l ((List.dropLast_sublist _).subset hl)
    simpa using this
  · cases h
theorem readK_bad {s : List UInt8} (h : linesP s = none) : readK s = ([], false) := by unfold readK; rw [h]
theorem readK_long {s : List UInt8} {L : List (List UInt8)} (h : linesP s = some L) (hl : 40 < L.length) : readK s = ([], false) := by unfold readK; rw [h]; simp only; rw [if_pos hl]
theorem readK_none {s : List UInt8} {L : List (List UInt8)} (h : linesP s = some L) (he : entsO L = none) : readK s = ([], false) := by
  unfold readK; rw [h]; simp only; rw [he]; split <;> rfl
theorem readK_some {s : List UInt8} {L : List (List UInt8)} {X : Lib} (h : linesP s = some L) (hl : L.length ≤ 40) (he : entsO L = some X) : readK s = if keptOk X then (X, true) else ([], false) := by
  unfold readK; rw [h]; simp only; rw [if_neg (by omega), he]
theorem c121 (h : Heap) (hp : 0 < h.length) (s : List UInt8) (hs : s.length ≤ 1048576) : ACall Gam 121 [S s] h fun r h' => Grows h h' ∧ ∃ r0, r = .tuple #[r0, B (readK s).2] ∧ Vo h' h.length h'.length shKepts r0 (readK s).1 ∧ siz shKepts (readK s).1 ≤ 16777216 := by
  have hsz := readK_siz s
  have vo0 : ∀ {h' : Heap}, Vo h' h.length h'.length shKepts (sl 0 0 0 0) ([] : Lib) := Vo.no_kepts
  refine ACall_intro g121 rfl ?_
  unfold fn121
  simp (disch := omega)
  refine callW_of (c170 h hp s hs) ?_
  rintro _ h1 ⟨g1, b, n, z, rfl, hL⟩
  try refine ⟨fun e => (by first | exact g1 | cases e), ?_⟩
  have l1 := g1.le
  rcases q : linesP s with _ | L
  · rw [readK_bad q] at hsz ⊢
    simp (disch := omega)
    exact ⟨g1, vo0, hsz⟩
  obtain ⟨rfl, hc⟩ := hL L q
  by_cases q2 : 40 < L.length
  · rw [readK_long q q2] at hsz ⊢
    have q2' : (40 : Int) < L.length := by omega
    simp (disch := omega) [q2, q2']
    exact ⟨g1, vo0, hsz⟩
  have q2' : ¬ (40 : Int) < L.length := by omega
  have hsm : ∀ l ∈ L, l.length ≤ 1048576 := fun l hl => by have := lines_small q l hl; omega
  simp (disch := omega) [q2, q2']
  have hp1 : 0 < h1.length := by omega
  refine awp_loop (fun (k : Nat) σ h' => k ≤ L.length ∧ Grows h1 h' ∧ σ 25 = sl b 0 L.length z ∧ σ 26 = I L.length ∧ σ 27 = I k ∧ ∃ R X, RowsOf R X ∧ entsO (L.take k) = some X ∧ KB h1 h' (σ 6) R) (fun k => L.length - k) 0 ?_ ?_
  · exact ⟨by omega, Grows.refl _, by simp, by simp, by simp, [], [], rfl, by simp [entsO], by simpa using KB.nil⟩
  · rintro k σ h2 ⟨hk, g12, q25, q26, q27, R, X, hR, hX, kb⟩
    have g := g1.trans g12
    have hRl : R.length = k := by
      have h1 := entsO_len hX
      have h2 : _ = _ := congrArg List.length (show R.map (·.1) = X from hR)
      simp at h1 h2; omega
    simp (disch := omega) [q25, q26, q27]
    refine fork_dec (fun hlt => ?_) (fun hge => ?_)
    · have k1 : k < L.length := by omega
      have hcell := texts_at (hc.imp id g12.cellsAt) k1
      simp only [Nat.zero_add] at hcell
      obtain ⟨l, el⟩ : ∃ l, l = L[k] := ⟨_, rfl⟩
      have hlm : l ∈ L := by rw [el]; exact List.getElem_mem k1
      have hll := hsm l hlm
      rw [← el] at hcell
      obtain ⟨i1, i2, i3⟩ := idx_rng l 32 0
      have l2 := g.le
      have l12 := g12.le
      simp (disch := omega) [q25, q26, q27, k1, hcell]
      refine callW_of (c183 l hll 32 h2) ?_
      rintro _ h3 ⟨rfl, rfl⟩
      try refine ⟨fun e => (by first | exact Grows.refl _ | cases e), ?_⟩
      simp (disch := omega)
      have hbad : entO l = none → readK s = ([], false) := fun e => readK_none q (entsO_none hlm e)
      refine fork_dec (fun hneg => ?_) (fun hpos => ?_)
      · have := hbad (by unfold entO; rw [if_pos hneg])
        rw [this] at hsz ⊢
        simp (disch := omega)
        exact ⟨g, vo0, hsz⟩
      · obtain ⟨a, ea⟩ := Int.eq_ofNat_of_zero_le (show 0 ≤ idx l 32 0 by omega)
        obtain ⟨a1, ha1⟩ : ∃ a1, a1 = a + 1 := ⟨_, rfl⟩
        have e1 : (a : Int) + 1 = (a1 : Int) := by omega
        have hent : entO l = if (readAns (l.drop a1)).2 then some (l.take a, (readAns (l.drop a1)).1) else none := by
          unfold entO; rw [ea, if_neg (by omega), ha1]; rfl
        rw [ea] at i2 ⊢
        have s1 := slice_from (h := h3) (s := l) (a := a1) (by omega)
        simp (disch := omega) [e1, s1, wrap64]
        refine callW_of (c122 h3 (by omega) (l.drop a1) (by simp; omega)) ?_
        rintro _ h4 ⟨g4, r0, rfl, o⟩
        try refine ⟨fun e => (by first | exact g4 | cases e), ?_⟩
        have l4 := g4.le
        obtain ⟨P, hP⟩ : ∃ P : Pan, P = (readAns (l.drop a1)).1 := ⟨_, rfl⟩
        rw [← hP] at o hent
        obtain ⟨W, H, br⟩ := P
        have o' := o
        obtain ⟨sv, rfl, w1, w2, o3⟩ := o.panel
        cases qb : (readAns (l.drop a1)).2
        · rw [qb] at hent
          have := hbad hent
          rw [this] at hsz ⊢
          simp (disch := omega)
          exact ⟨g.trans g4, vo0, hsz⟩
        · rw [qb] at hent
          have hent : entO l = some (l.take a, (W, H, br)) := hent
          have s2 := slice_to (h := h4) (s := l) (b := a) (by omega)
          simp (disch := omega) [s2]
          refine kb_snoc hp1 kb g12 g4 o' (n := l.take a) (by rw [maxLen_eq, List.length_take]; omega) (by omega) fun v' h5 r g5 kb5 hr => ?_
          simp (disch := omega) [q25, q26, q27, wrap64]
          refine ⟨k + 1, ⟨by omega, g5, by omega, R ++ [r], X ++ [(l.take a, (W, H, br))], hR.snoc hr, ?_, kb5⟩, by omega⟩
          rw [List.take_succ_eq_append_getElem k1, ← el]
          exact entsO_snoc hX hent
    · have ek : k = L.length := by omega
      rw [ek, List.take_length] at hX
      have kb' := kb.low g1
      obtain ⟨bk, ebk, hK⟩ := kb'.kat (by omega)
      rw [show R.map (·.1) = X from hR] at hK
      have hXl := entsO_len hX
      have hXR : R.length = X.length := by omega
      have cc := c139 h2 (by have := g.le; omega) bk 0 4 X hK fun i hi => entsO_small hX hsm _ (List.getElem_mem hi)
      rw [hXR] at ebk
      simp (disch := omega) [q26, q27, ebk]
      refine callW_of cc ?_
      rintro _ h3 ⟨rfl, g3⟩
      try refine ⟨fun e => (by first | exact g3 | cases e), ?_⟩
      have e := readK_some q (by omega) hX
      cases qk : keptOk X
      · rw [qk] at e
        rw [show readK s = ([], false) from e] at hsz ⊢
        simp (disch := omega)
        exact ⟨g.trans g3, vo0, hsz⟩
      · rw [qk] at e
        rw [show readK s = (X, true) from e] at hsz ⊢
        simp (disch := omega) [ebk]
        have vo := (kb'.grow g3).vo (by rw [maxLen_eq]; omega)
        rw [ebk, show R.map (·.1) = X from hR] at vo
        exact ⟨g.trans g3, vo, hsz⟩
end Am
/-! AmY40 -/
set_option linter.unusedVariables false
set_option linter.unusedSimpArgs false
set_option maxHeartbeats 4000000
set_option maxRecDepth 4000
namespace Am
open Go

theorem c412 (h : Heap) (hp : 0 < h.length) (s : List UInt8) (hs : s.length ≤ 1048576) : ACall Gam 412 [S s] h fun r h' => Grows h h' ∧ ∃ r0, r = .tuple #[r0, B (readK s).2] ∧ Vo h' h.length h'.length shKepts r0 (readK s).1 ∧ siz shKepts (readK s).1 ≤ 16777216 := by
  have hsz := readK_siz s
  have vo0 : ∀ {h' : Heap}, Vo h' h.length h'.length shKepts (sl 0 0 0 0) ([] : Lib) := Vo.no_kepts
  refine ACall_intro g412 rfl ?_
  unfold fn412
  simp (disch := omega)
  refine callW_of (split_ok (.inr rfl) s 10 hs h hp) ?_
  rintro _ h1 ⟨g1, bf⟩
  obtain ⟨b, rfl, hc⟩ := bf.texts1
  try refine ⟨fun e => (by first | exact g1 | cases e), ?_⟩
  have l1 := g1.le
  obtain ⟨w1, w2⟩ := splitG_len 10 s []
  have w1 : 1 ≤ (splitS 10 s).length := w1
  have w2 : (splitS 10 s).length ≤ s.length + 1 := w2
  have hsm0 : ∀ l ∈ splitS 10 s, l.length ≤ 1048576 := fun l hl => by have := splitG_sum 10 s [] l hl; simp at this; omega
  have hlp : linesP s = if nth (splitS 10 s) ((splitS 10 s).length - 1) = [] then some (splitS 10 s).dropLast else none := rfl
  obtain ⟨W, hW⟩ : ∃ W, W = splitS 10 s := ⟨_, rfl⟩
  rw [← hW] at w1 w2 hsm0 hc hlp ⊢
  obtain ⟨n, hn⟩ : ∃ n, W.length = n + 1 := ⟨W.length - 1, by omega⟩
  have cn := texts_at hc (k := n) (by omega)
  have en : nth W (W.length - 1) = W[n] := by rw [show W.length - 1 = n by omega]; exact nth_of (by omega)
  rw [en] at hlp
  rw [hn] at hc ⊢
  have i1 : ((n + 1 : Nat) : Int) - 1 = n := by omega
  have i1' : (n : Int) + 1 - 1 = n := by omega
  have i2 : (n : Int) < (n : Int) + 1 := by omega
  simp only [Nat.zero_add] at cn
  by_cases e1 : W[n] = []
  · rw [if_pos e1] at hlp
    have cn' := cn
    rw [e1] at cn'
    by_cases e2 : 41 < n + 1
    · have er := readK_long hlp (by rw [List.length_dropLast]; omega)
      rw [er] at hsz ⊢
      have e2' : (41 : Int) < (n : Int) + 1 := by omega
      simp (disch := omega) [i1', i2, cn', e2', wrap64]
      exact ⟨g1, vo0, hsz⟩
    · have e2' : ¬ (41 : Int) < (n : Int) + 1 := by omega
      simp (disch := omega) [i1', i2, cn', e2', wrap64]
      obtain ⟨L, hL⟩ : ∃ L, L = W.dropLast := ⟨_, rfl⟩
      rw [← hL] at hlp
      have hLl : L.length = n := by rw [hL, List.length_dropLast]; omega
      have hsm : ∀ l ∈ L, l.length ≤ 1048576 := fun l hl => hsm0 l ((List.dropLast_sublist _).subset (by rw [← hL]; exact hl))
      have hp1 : 0 < h1.length := by omega
      refine awp_loop (fun (k : Nat) σ h' => k ≤ n ∧ Grows h1 h' ∧ σ 4 = sl b 0 (n + 1) 1 ∧ σ 6 = I k ∧ ∃ R X, RowsOf R X ∧ entsO (L.take k) = some X ∧ KB h1 h' (σ 5) R) (fun k => n - k) 0 ?_ ?_
      · exact ⟨by omega, Grows.refl _, by simp, by simp, [], [], rfl, by simp [entsO], by simpa using KB.nil⟩
      · rintro k σ h2 ⟨hk, g12, q4, q6, R, X, hR, hX, kb⟩
        have g := g1.trans g12
        have hRl : R.length = k := by
          have h1 := entsO_len hX
          have h2 : _ = _ := congrArg List.length (show R.map (·.1) = X from hR)
          simp at h1 h2; omega
        simp (disch := omega) [q4, q6, i1', wrap64]
        refine fork_dec (fun hlt => ?_) (fun hge => ?_)
        · have k1 : k < n := by omega
          have k2 : k < L.length := by omega
          have hcell := texts_at ((show W = [] ∨ cellsAt h1 b 0 W.length = some (texts W) by rw [hn]; exact hc).imp id g12.cellsAt) (k := k) (by omega)
          simp only [Nat.zero_add] at hcell
          have eW : W[k] = L[k] := by simp [hL]
          obtain ⟨l, el⟩ : ∃ l, l = L[k] := ⟨_, rfl⟩
          have hlm : l ∈ L := by rw [el]; exact List.getElem_mem k2
          have hll := hsm l hlm
          rw [eW, ← el] at hcell
          have l2 := g.le
          have l12 := g12.le
          have k3 : (k : Int) < (n : Int) + 1 := by omega
          simp (disch := omega) [q4, q6, k1, k3, hcell]
          refine callW_of (split_ok (.inr rfl) l 32 hll h2 (by omega)) ?_
          rintro _ h3 ⟨g3, bf3⟩
          obtain ⟨b3, rfl, hc3⟩ := bf3.texts1
          try refine ⟨fun e => (by first | exact g3 | cases e), ?_⟩
          have l3 := g3.le
          have hent := entSO l
          unfold entS at hent
          obtain ⟨V, hV⟩ : ∃ V, V = splitS 32 l := ⟨_, rfl⟩
          have hVs : ∀ v ∈ V, v.length ≤ l.length := fun v hv => by have := splitG_sum 32 l [] v (by rw [hV] at hv; exact hv); simpa using this
          rw [← hV] at hent hc3 ⊢
          have hbad : entO l = none → readK s = ([], false) := fun e => readK_none hlp (entsO_none hlm e)
          simp (disch := omega)
          by_cases ev : V.length = 2
          · rw [if_pos ev] at hent
            rw [nth_of (show 1 < V.length by omega), nth_of (show 0 < V.length by omega)] at hent
            have v0 := texts_at hc3 (k := 0) (by omega)
            have v1 := texts_at hc3 (k := 1) (by omega)
            simp only [Nat.zero_add] at v0 v1
            have s0 := hVs _ (List.getElem_mem (show 0 < V.length by omega))
            have s1 := hVs _ (List.getElem_mem (show 1 < V.length by omega))
            obtain ⟨x0, ex0⟩ : ∃ x, x = V[0] := ⟨_, rfl⟩
            obtain ⟨x1, ex1⟩ : ∃ x, x = V[1] := ⟨_, rfl⟩
            rw [← ex0, ← ex1] at hent
            rw [← ex0] at v0 s0
            rw [← ex1] at v1 s1
            have ev' : (V.length : Int) = 2 := by omega
            simp (disch := omega) [ev, ev', v1]
            refine callW_of (c413 h3 (by omega) x1 (by omega)) ?_
            rintro _ h4 ⟨g4, r0, rfl, o⟩
            try refine ⟨fun e => (by first | exact g4 | cases e), ?_⟩
            have l4 := g4.le
            obtain ⟨P, hP⟩ : ∃ P : Pan, P = (readAns x1).1 := ⟨_, rfl⟩
            rw [← hP] at o hent
            obtain ⟨Wd, H, br⟩ := P
            have o' := o.wide (show h2.length ≤ h3.length by omega) (Nat.le_refl _)
            obtain ⟨sv, rfl, _, _, _⟩ := o.panel
            cases qb : (readAns x1).2
            · rw [qb] at hent
              have := hbad hent.symm
              rw [this] at hsz ⊢
              simp (disch := omega)
              exact ⟨(g.trans g3).trans g4, vo0, hsz⟩
            · rw [qb] at hent
              have hent : entO l = some (x0, (Wd, H, br)) := hent.symm
              simp (disch := omega) [ev, g4.cell v0]
              refine kb_snoc hp1 kb g12 (g3.trans g4) o' (n := x0) (by rw [maxLen_eq]; omega) (by omega) fun v' h5 r g5 kb5 hr => ?_
              simp (disch := omega) [q4, q6, wrap64]
              refine ⟨k + 1, ⟨by omega, g5, by omega, R ++ [r], X ++ [(x0, (Wd, H, br))], hR.snoc hr, ?_, kb5⟩, by omega⟩
              rw [List.take_succ_eq_append_getElem k2, ← el]
              exact entsO_snoc hX hent
          · rw [if_neg ev] at hent
            have := hbad hent.symm
            rw [this] at hsz ⊢
            have ev' : ¬ (V.length : Int) = 2 := by omega
            simp (disch := omega) [ev, ev']
            exact ⟨g.trans g3, vo0, hsz⟩
        · have ek : k = L.length := by omega
          rw [ek, List.take_length] at hX
          have kb' := kb.low g1
          obtain ⟨bk, ebk, hK⟩ := kb'.kat (by omega)
          rw [show R.map (·.1) = X from hR] at hK
          have hXl := entsO_len hX
          have hXR : R.length = X.length := by omega
          have cc := c541 h2 (by have := g.le; omega) bk 0 4 X hK fun i hi => entsO_small hX hsm _ (List.getElem_mem hi)
          rw [hXR] at ebk
          simp (disch := omega) [ebk]
          refine callW_of cc ?_
          rintro _ h3 ⟨rfl, g3⟩
          try refine ⟨fun e => (by first | exact g3 | cases e), ?_⟩
          have e := readK_some hlp (by omega) hX
          cases qk : keptOk X
          · rw [qk] at e
            rw [show readK s = ([], false) from e] at hsz ⊢
            simp (disch := omega)
            exact ⟨g.trans g3, vo0, hsz⟩
          · rw [qk] at e
            rw [show readK s = (X, true) from e] at hsz ⊢
            simp (disch := omega) [ebk]
            have vo := (kb'.grow g3).vo (by rw [maxLen_eq]; omega)
            rw [ebk, show R.map (·.1) = X from hR] at vo
            exact ⟨g.trans g3, vo, hsz⟩
  · rw [if_neg e1] at hlp
    have er := readK_bad hlp
    rw [er] at hsz ⊢
    simp (disch := omega) [i1', i2, cn, e1, wrap64]
    exact ⟨g1, vo0, hsz⟩
end Am
/-! AmG4 -/
set_option linter.unusedVariables false
set_option linter.unusedSimpArgs false
set_option maxHeartbeats 4000000
set_option maxRecDepth 4000
namespace Am
open Go

/-! ### libraries -/
/-- One entry at the head of bytes, and what is behind it; more bytes than the entry needs must be there. -/
def oneP (more : Nat) (r : List UInt8) : Option (Kpt × List UInt8) :=
  if r.length < bn r 0 + 4 + more then none
  else if okSz (bn (r.drop (bn r 0 + 1)) 1) (bn (r.drop (bn r 0 + 1)) 2) = false ∨ ((r.drop (bn r 0 + 1)).length : Int) < packSize (bn (r.drop (bn r 0 + 1)) 1) (bn (r.drop (bn r 0 + 1)) 2) then none
  else if unOk ((r.drop (bn r 0 + 1)).take (packSize (bn (r.drop (bn r 0 + 1)) 1) (bn (r.drop (bn r 0 + 1)) 2)).toNat) then
    some ((((r.take (bn r 0 + 1)).drop 1), unP ((r.drop (bn r 0 + 1)).take (packSize (bn (r.drop (bn r 0 + 1)) 1) (bn (r.drop (bn r 0 + 1)) 2)).toNat)), (r.drop (bn r 0 + 1)).drop (packSize (bn (r.drop (bn r 0 + 1)) 1) (bn (r.drop (bn r 0 + 1)) 2)).toNat)
  else none
def parK (more : Nat) : Nat → List UInt8 → Option (Lib × List UInt8)
  | 0, r => some ([], r)
  | n + 1, r => match oneP more r with
    | none => none
    | some (k, t) => (parK more n t).map fun p => (k :: p.1, p.2)
open Classical in
/-- The library with a packed form. -/
noncomputable def unpackK (s : List UInt8) : Lib × Int := if h : ∃ X, keptOk X = true ∧ packK X = s then (Classical.choose h, 0) else ([], 8)
theorem KeptOk.pk {X : Lib} (ok : KeptOk X) : ∀ e ∈ X, OkP e.2 ∧ e.1.length ≤ 12 := by
  intro e he
  obtain ⟨i, hi, rfl⟩ := List.getElem_of_mem he
  exact ok.getOk hi
end Am

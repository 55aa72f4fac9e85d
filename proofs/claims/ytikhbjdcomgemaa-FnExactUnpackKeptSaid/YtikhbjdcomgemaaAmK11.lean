/- Contracts: AmY35, AmY36, AmY37, AmY38, AmY39, AmY40, AmG4. -/
import Derived.Test.YtikhbjdcomgemaaAmK10
import Derived.Test.YtikhbjdcomgemaaAmK7
import Derived.Test.YtikhbjdcomgemaaAmK8
import Derived.Test.YtikhbjdcomgemaaAmK4
import Derived.Test.YtikhbjdcomgemaaAmK9
set_option linter.unusedVariables false
set_option linter.unusedSimpArgs false
set_option maxHeartbeats 4000000
set_option maxRecDepth 4000
namespace Am
open Go

noncomputable def withC (X : Lib) (a : Int) : List (List UInt8) × Int := withAns X (fun p => (curveN p : Int)) a
theorem KeptOk.panel {X : Lib} (ok : KeptOk X) {i : Nat} (hi : i < X.length) : OkP X[i].2 := by
  have := (ok.ent i hi).ok
  rwa [kP_of hi] at this
end Am
/-! AmY36 -/
set_option linter.unusedVariables false
set_option linter.unusedSimpArgs false
set_option maxHeartbeats 4000000
set_option maxRecDepth 4000
namespace Am
open Go

/-- The breaks after the first steps from the start. -/
def fwdB (p : List Trip) (c : List Int) (k : Nat) : List Int := (p.take k).foldl (fun b s => b.set s.1.toNat s.2.2) c
noncomputable def alongL (X : Jrn) (k : Nat) : List Int := (List.range k).map fun j => (curveN (X.1.1, X.1.2.1, fwdB X.2.1 (startB X) j) : Int)
noncomputable def alongA (X : Jrn) : List Int × Int := if okJ X then (alongL X (X.2.1.length + 1), 0) else ([], 1)
structure AlongOk (W H : Int) (br : List Int) (p f : List Trip) : Prop where
  ok : ∀ k, k ≤ p.length → OkP (W, H, fwdB p (startB ((W, H, br), p, f)) k)
  st : ∀ k, (h : k < p.length) → (0 ≤ p[k].1 ∧ p[k].1 < (fwdB p (startB ((W, H, br), p, f)) k).length)
  len : ∀ k, k ≤ p.length → (fwdB p (startB ((W, H, br), p, f)) k).length = br.length
  le : p.length ≤ 50
end Am
/-! AmY37 -/
set_option linter.unusedVariables false
set_option linter.unusedSimpArgs false
set_option maxHeartbeats 4000000
set_option maxRecDepth 4000
namespace Am
open Go

end Am
/-! AmY38 -/
set_option linter.unusedVariables false
set_option linter.unusedSimpArgs false
set_option maxHeartbeats 4000000
namespace Am
open Go

noncomputable def entO (l : List UInt8) : Option Kpt := if idx l 32 0 < 0 then none else if (readAns (l.drop ((idx l 32 0).toNat + 1))).2 then some (l.take (idx l 32 0).toNat, (readAns (l.drop ((idx l 32 0).toNat + 1))).1) else none
noncomputable def entS (l : List UInt8) : Option Kpt := if (splitS 32 l).length = 2 then (if (readAns (nth (splitS 32 l) 1)).2 then some (nth (splitS 32 l) 0, (readAns (nth (splitS 32 l) 1)).1) else none) else none
/-! ### lines -/
def linesP (s : List UInt8) : Option (List (List UInt8)) := if nth (splitS 10 s) ((splitS 10 s).length - 1) = [] then some (splitS 10 s).dropLast else none
noncomputable def entsO : List (List UInt8) → Option Lib
  | [] => some []
  | l :: L => match entO l with
    | none => none
    | some e => (entsO L).map (e :: ·)
noncomputable def readK (s : List UInt8) : Lib × Bool := match linesP s with
  | none => ([], false)
  | some L => if 40 < L.length then ([], false) else match entsO L with
    | none => ([], false)
    | some X => if keptOk X then (X, true) else ([], false)
end Am
/-! AmY39 -/
set_option linter.unusedVariables false
set_option linter.unusedSimpArgs false
set_option maxHeartbeats 4000000
set_option maxRecDepth 4000
namespace Am
open Go

def LinesAt (h : Heap) (s : List UInt8) (r : Value) : Prop := ∃ b n z, r = .tuple #[sl b 0 n z, B (linesP s).isSome] ∧ ∀ L, linesP s = some L → n = L.length ∧ (L = [] ∨ cellsAt h b 0 L.length = some (texts L))
/-- The rows' entries are these. -/
def RowsOf (R : List Row) (X : Lib) : Prop := R.map (·.1) = X
theorem RowsOf.snoc {R : List Row} {X : Lib} {r : Row} {k : Kpt} (a : RowsOf R X) (h : r.1 = k) : RowsOf (R ++ [r]) (X ++ [k]) := by
  unfold RowsOf at a ⊢; rw [List.map_append, a]; simp [h]
end Am
/-! AmY40 -/
set_option linter.unusedVariables false
set_option linter.unusedSimpArgs false
set_option maxHeartbeats 4000000
set_option maxRecDepth 4000
namespace Am
open Go

end Am
/-! AmG4 -/
set_option linter.unusedVariables false
set_option linter.unusedSimpArgs false
set_option maxHeartbeats 4000000
set_option maxRecDepth 4000
namespace Am
open Go

theorem pv_dv {br : List Int} (hb : ∀ x ∈ br, 0 ≤ x ∧ x ≤ 2) (i : Nat) : ∀ m j, dv (pv br i (j + m)).toNat m = (pv br i j).toNat
  | 0, j => by rw [dv_zero]; rfl
  | m + 1, j => by
    have ih := pv_dv hb i m (j + 1)
    rw [dv_succ, show j + (m + 1) = j + 1 + m by omega, ih]
    have h1 := (pv_bd hb i j).1
    have h2 := at0_bd hb (i + j)
    simp only [pv]
    omega
theorem pv_digit {br : List Int} (hb : ∀ x ∈ br, 0 ≤ x ∧ x ≤ 2) (i : Nat) {j : Nat} (hj : j < 5) : ((dv (fiveV br i).toNat (4 - j) % 3 : Nat) : Int) = at0 br (i + j) := by
  have e := pv_dv hb i (4 - j) (j + 1)
  rw [show j + 1 + (4 - j) = 5 by omega] at e
  unfold fiveV
  rw [e]
  have h1 := (pv_bd hb i j).1
  have h2 := at0_bd hb (i + j)
  simp only [pv]
  omega
theorem bn_app {a b : List UInt8} {i : Nat} (h : i < a.length) : bn (a ++ b) i = bn a i := by
  unfold bn; rw [List.getD_eq_getElem?_getD, List.getElem?_append_left h, ← List.getD_eq_getElem?_getD]
theorem bn_app2 {a b : List UInt8} {i : Nat} : bn (a ++ b) (a.length + i) = bn b i := by
  unfold bn; rw [List.getD_eq_getElem?_getD, List.getElem?_append_right (by omega), ← List.getD_eq_getElem?_getD]; congr 2; omega
theorem bn_packB {br : List Int} {q i : Nat} (hb : ∀ x ∈ br, 0 ≤ x ∧ x ≤ 2) (h : i < q) : bn (packB br q) i = (fiveV br (5 * i)).toNat := by
  have h1 := pv_le hb (5 * i) 5 (Nat.le_refl _)
  have : (packB br q)[i]? = some (byteI (fiveV br (5 * i))) := by simp [packB, h]
  unfold bn
  rw [List.getD_eq_getElem?_getD, this]
  have h2 := byteI_toNat (x := fiveV br (5 * i)) (by unfold fiveV; omega)
  simp only [Option.getD_some]
  omega
theorem packBody_len {X : Pan} : (packBody X).length = 3 + (X.2.2.length + 4) / 5 := by
  unfold packBody; rw [List.length_append, packB_len]; rfl
theorem packP_len' {X : Pan} : (packP X).length = 5 + (X.2.2.length + 4) / 5 := by
  unfold packP; rw [ended_len, packBody_len]; omega
theorem bn_packP {X : Pan} {i : Nat} (h : i < (packBody X).length) : bn (packP X) i = bn (packBody X) i := by
  unfold packP ended; exact bn_app h
theorem packP_heads {X : Pan} (ok : OkP X) : bn (packP X) 0 = 77 ∧ (bn (packP X) 1 : Int) = X.1 ∧ (bn (packP X) 2 : Int) = X.2.1 := by
  have hl := packBody_len (X := X)
  have hw := ok.w; have hh := ok.h
  rw [bn_packP (by omega), bn_packP (by omega), bn_packP (by omega)]
  have e1 := byteI_toNat (x := X.1) (by omega)
  have e2 := byteI_toNat (x := X.2.1) (by omega)
  refine ⟨rfl, ?_, ?_⟩
  · show ((byteI X.1).toNat : Int) = _
    exact e1
  · show ((byteI X.2.1).toNat : Int) = _
    exact e2
theorem unP_pack {X : Pan} (ok : OkP X) : unP (packP X) = X := by
  obtain ⟨h0, h1, h2⟩ := packP_heads ok
  have hl := packBody_len (X := X)
  have hn := ok.n
  obtain ⟨W, H, br⟩ := X
  simp only at h1 h2 hn hl
  unfold unP
  rw [h1, h2]
  refine Prod.ext rfl (Prod.ext rfl ?_)
  simp only
  unfold unB
  apply List.ext_getElem
  · simp; omega
  · intro k hk hk'
    have hk2 : k / 5 < (br.length + 4) / 5 := by omega
    simp only [List.getElem_map, List.getElem_range]
    have e : bn (packP (W, H, br)) (3 + k / 5) = (fiveV br (5 * (k / 5))).toNat := by
      rw [bn_packP (by omega)]
      show bn ([77, byteI W, byteI H] ++ packB br ((br.length + 4) / 5)) (3 + k / 5) = _
      have := bn_app2 (a := [77, byteI W, byteI H]) (b := packB br ((br.length + 4) / 5)) (i := k / 5)
      simp only [List.length_cons, List.length_nil] at this
      rw [this]
      exact bn_packB ok.b hk2
    unfold brk
    rw [e, pv_digit ok.b _ (Nat.mod_lt _ (by omega)), show 5 * (k / 5) + k % 5 = k by omega, at0_of hk']
theorem lenOk_pack {X : Pan} (ok : OkP X) : lenOk (packP X) = true := by
  obtain ⟨h0, h1, h2⟩ := packP_heads ok
  have hl := packP_len' (X := X)
  have hn := ok.n
  unfold lenOk
  rw [h1, h2]
  simp only [Bool.and_eq_true, decide_eq_true_eq]
  refine ⟨by omega, okSz_iff.2 ⟨ok.w, ok.h⟩, ?_⟩
  unfold packSize
  omega
theorem unOk_pack {X : Pan} (ok : OkP X) : unOk (packP X) = true := by
  unfold unOk
  rw [lenOk_pack ok, unP_pack ok]; simp
theorem packP_size {X : Pan} (ok : OkP X) : ((packP X).length : Int) = packSize X.1 X.2.1 := by
  have hl := packP_len' (X := X)
  have hn := ok.n
  unfold packSize
  omega

/-! ### libraries -/
/-- One entry at the head of bytes, and what is behind it; more bytes than the entry needs must be there. -/
def oneP (more : Nat) (r : List UInt8) : Option (Kpt × List UInt8) :=
  if r.length < bn r 0 + 4 + more then none
  else if okSz (bn (r.drop (bn r 0 + 1)) 1) (bn (r.drop (bn r 0 + 1)) 2) = false ∨ ((r.drop (bn r 0 + 1)).length : Int) < packSize (bn (r.drop (bn r 0 + 1)) 1) (bn (r.drop (bn r 0 + 1)) 2) then none
  else if unOk ((r.drop (bn r 0 + 1)).take (packSize (bn (r.drop (bn r 0 + 1)) 1) (bn (r.drop (bn r 0 + 1)) 2)).toNat) then
    some ((((r.take (bn r 0 + 1)).drop 1), unP ((r.drop (bn r 0 + 1)).take (packSize (bn (r.drop (bn r 0 + 1)) 1) (bn (r.drop (bn r 0 + 1)) 2)).toNat)), (r.drop (bn r 0 + 1)).drop (packSize (bn (r.drop (bn r 0 + 1)) 1) (bn (r.drop (bn r 0 + 1)) 2)).toNat)
  else none
def parK (more : Nat) : Nat → List UInt8 → Option (Lib × List UInt8)
  | 0, r => some ([], r)
  | n + 1, r => match oneP more r with
    | none => none
    | some (k, t) => (parK more n t).map fun p => (k :: p.1, p.2)
theorem oneP_pack {more : Nat} {k : Kpt} {r : List UInt8} (ok : OkP k.2) (hn : k.1.length ≤ 12) (hm : more ≤ 1 + r.length) : oneP more (packE k ++ r) = some (k, r) := by
  obtain ⟨n, X⟩ := k
  simp only at ok hn
  have hb : bn (packE (n, X) ++ r) 0 = n.length := by
    rw [bn_app (by simp [packE])]
    have := byteI_toNat (x := (n.length : Int)) (by omega)
    show (byteI (n.length : Int)).toNat = n.length
    omega
  have e0 : packE (n, X) ++ r = byteI n.length :: (n ++ (packP X ++ r)) := by simp [packE]
  have hd : (packE (n, X) ++ r).drop (n.length + 1) = packP X ++ r := by
    rw [e0, List.drop_succ_cons]; simp
  have ht : ((packE (n, X) ++ r).take (n.length + 1)).drop 1 = n := by
    rw [e0, List.take_succ_cons, List.drop_succ_cons]; simp
  have hl := packP_len ok
  have hll : (packE (n, X) ++ r).length = 1 + n.length + (packP X).length + r.length := by
    rw [e0]; simp; omega
  obtain ⟨h0, h1, h2⟩ := packP_heads ok
  have b1 : bn (packP X ++ r) 1 = bn (packP X) 1 := bn_app (by omega)
  have b2 : bn (packP X ++ r) 2 = bn (packP X) 2 := bn_app (by omega)
  have hs := packP_size ok
  have hsz : okSz X.1 X.2.1 = true := okSz_iff.2 ⟨ok.w, ok.h⟩
  have hsn : (packSize X.1 X.2.1).toNat = (packP X).length := by omega
  unfold oneP
  rw [hb, hd, ht, b1, b2, h1, h2, hsn]
  rw [if_neg (by omega), if_neg]
  · rw [List.take_left', List.drop_left', if_pos (unOk_pack ok), unP_pack ok]
    · rfl
    · rfl
  · rw [hsz, List.length_append]
    rintro (q | q)
    · cases q
    · omega
theorem parK_pack {more : Nat} : ∀ (X : Lib) (r : List UInt8), (∀ e ∈ X, OkP e.2 ∧ e.1.length ≤ 12) → more ≤ 1 + r.length → parK more X.length (packBodyK X ++ r) = some (X, r)
  | [], r, _, _ => rfl
  | k :: X, r, h, hm => by
    have e : packBodyK (k :: X) ++ r = packE k ++ (packBodyK X ++ r) := by simp [packBodyK]
    have h1 := h k (by simp)
    rw [e]
    simp only [List.length_cons, parK]
    rw [oneP_pack h1.1 h1.2 (by rw [List.length_append]; omega)]
    simp only
    rw [parK_pack X r (fun e he => h e (by simp [he])) hm]
    rfl
/-- What is read is what was there. -/
theorem oneP_sound {more : Nat} {r t : List UInt8} {k : Kpt} (h : oneP more r = some (k, t)) : r = packE k ++ t ∧ k.1.length ≤ 255 := by
  unfold oneP at h
  split at h
  · cases h
  · rename_i hl
    split at h
    · cases h
    · rename_i hs
      split at h
      · rename_i hu
        cases h
        have hlt := bn_lt r 0
        have hne : 0 < r.length := by omega
        obtain ⟨c, r', rfl⟩ : ∃ c r', r = c :: r' := by
          cases r with
          | nil => simp at hne
          | cons c r' => exact ⟨c, r', rfl⟩
        have hc : bn (c :: r') 0 = c.toNat := rfl
        simp only [hc, List.length_cons] at hl hs hu hlt ⊢
        simp only [List.take_succ_cons, List.drop_succ_cons, List.drop_zero] at hu ⊢
        have hpk : packP (unP ((r'.drop c.toNat).take (packSize (bn (r'.drop c.toNat) 1) (bn (r'.drop c.toNat) 2)).toNat)) = (r'.drop c.toNat).take (packSize (bn (r'.drop c.toNat) 1) (bn (r'.drop c.toNat) 2)).toNat := by
          unfold unOk at hu
          simp only [Bool.and_eq_true, decide_eq_true_eq] at hu
          exact hu.2
        have hnl : (r'.take c.toNat).length = c.toNat := by rw [List.length_take]; omega
        refine ⟨?_, by omega⟩
        unfold packE
        simp only
        rw [hpk, hnl]
        have hbyte : byteI (c.toNat : Int) = c := by unfold byteI; simp
        rw [hbyte]
        simp only [List.cons_append, List.append_assoc, List.cons.injEq, true_and]
        rw [List.take_append_drop, List.take_append_drop]
      · cases h
theorem parK_sound {more : Nat} : ∀ {n : Nat} {r t : List UInt8} {X : Lib}, parK more n r = some (X, t) → r = packBodyK X ++ t ∧ X.length = n
  | 0, r, t, X, h => by
    simp only [parK, Option.some.injEq, Prod.mk.injEq] at h
    obtain ⟨rfl, rfl⟩ := h
    exact ⟨by simp [packBodyK], rfl⟩
  | n + 1, r, t, X, h => by
    simp only [parK] at h
    split at h
    · cases h
    · rename_i k t' hk
      obtain ⟨p, hp, e⟩ := Option.map_eq_some_iff.1 h
      obtain ⟨Y, u⟩ := p
      simp only [Prod.mk.injEq] at e
      obtain ⟨rfl, rfl⟩ := e
      obtain ⟨h1, h2⟩ := parK_sound hp
      have h3 := (oneP_sound hk).1
      refine ⟨?_, by simp [h2]⟩
      rw [h3, h1]
      simp [packBodyK]
open Classical in
/-- The library with a packed form. -/
noncomputable def unpackK (s : List UInt8) : Lib × Int := if h : ∃ X, keptOk X = true ∧ packK X = s then (Classical.choose h, 0) else ([], 8)
theorem packK_len {X : Lib} : (packK X).length = 4 + (packBodyK X).length := by unfold packK; rw [ended_len]; simp; omega
theorem KeptOk.pk {X : Lib} (ok : KeptOk X) : ∀ e ∈ X, OkP e.2 ∧ e.1.length ≤ 12 := by
  intro e he
  obtain ⟨i, hi, rfl⟩ := List.getElem_of_mem he
  exact ok.getOk hi
theorem packK_parts {X : Lib} : packK X = [76, byteI X.length] ++ (packBodyK X ++ [byteI (checksum ([76, byteI X.length] ++ packBodyK X) / 256), byteI (checksum ([76, byteI X.length] ++ packBodyK X) % 256)]) := by
  unfold packK ended; simp
theorem bn_packK {X : Lib} (hl : X.length ≤ 40) : bn (packK X) 0 = 76 ∧ bn (packK X) 1 = X.length := by
  rw [packK_parts]
  refine ⟨rfl, ?_⟩
  have := byteI_toNat (x := (X.length : Int)) (by omega)
  show (byteI (X.length : Int)).toNat = X.length
  omega
theorem packK_drop {X : Lib} : (packK X).drop 2 = packBodyK X ++ [byteI (checksum ([76, byteI X.length] ++ packBodyK X) / 256), byteI (checksum ([76, byteI X.length] ++ packBodyK X) % 256)] := by
  rw [packK_parts]; rfl
theorem packK_mid {X : Lib} : ((packK X).take ((packK X).length - 2)).drop 2 = packBodyK X := by
  rw [packK_len]
  have e : packK X = ([76, byteI X.length] ++ packBodyK X) ++ [byteI (checksum ([76, byteI X.length] ++ packBodyK X) / 256), byteI (checksum ([76, byteI X.length] ++ packBodyK X) % 256)] := rfl
  rw [e, List.take_left' (by simp; omega)]
  rfl
/-- The program reads a library back. -/
theorem parK_impl {X : Lib} (ok : KeptOk X) : ∃ t, parK 2 (bn (packK X) 1) ((packK X).drop 2) = some (X, t) := by
  rw [(bn_packK ok.len).2, packK_drop]
  exact ⟨_, parK_pack X _ ok.pk (by simp)⟩
theorem parK_spec {X : Lib} (ok : KeptOk X) : parK 0 (bn (packK X) 1) (((packK X).take ((packK X).length - 2)).drop 2) = some (X, []) := by
  rw [(bn_packK ok.len).2, packK_mid]
  have := parK_pack (more := 0) X [] ok.pk (by simp)
  rw [List.append_nil] at this
  exact this
theorem packK_inj {X Y : Lib} (a : KeptOk X) (b : KeptOk Y) (e : packK X = packK Y) : X = Y := by
  have h1 := parK_spec a
  have h2 := parK_spec b
  rw [e, h2] at h1
  injection h1 with h1
  injection h1 with h1
  exact h1.symm
theorem unpackK_yes {X : Lib} (ok : keptOk X = true) : unpackK (packK X) = (X, 0) := by
  have h : ∃ Y, keptOk Y = true ∧ packK Y = packK X := ⟨X, ok, rfl⟩
  unfold unpackK
  rw [dif_pos h]
  obtain ⟨q1, q2⟩ := Classical.choose_spec h
  rw [packK_inj (keptOk_iff.1 q1) (keptOk_iff.1 ok) q2]
theorem unpackK_no {s : List UInt8} (h : ∀ X, keptOk X = true → packK X ≠ s) : unpackK s = ([], 8) := by
  unfold unpackK
  rw [dif_neg]
  rintro ⟨X, a, b⟩
  exact h X a b
/-- What the reference checks. -/
theorem spec_yes {s : List UInt8} {X : Lib} (h4 : 4 ≤ s.length) (h0 : bn s 0 = 76) (hs : sumOk s = true) (hp : parK 0 (bn s 1) ((s.take (s.length - 2)).drop 2) = some (X, [])) (ok : keptOk X = true) : packK X = s := by
  obtain ⟨h1, h2⟩ := parK_sound hp
  rw [List.append_nil] at h1
  have he := (sum_ended (s := s) (by omega)).2 hs
  have hh : s.take (s.length - 2) = [76, byteI X.length] ++ packBodyK X := by
    obtain ⟨a, b, r, e⟩ : ∃ a b r, s.take (s.length - 2) = a :: b :: r := by
      have hl : (s.take (s.length - 2)).length = s.length - 2 := by rw [List.length_take]; omega
      match q : s.take (s.length - 2), hl with
      | a :: b :: r, _ => exact ⟨a, b, r, rfl⟩
      | [a], hl => simp at hl; omega
      | [], hl => simp at hl; omega
    have g0 : bn s 0 = a.toNat := by
      have : s = s.take (s.length - 2) ++ s.drop (s.length - 2) := (List.take_append_drop _ _).symm
      rw [this, e]; rfl
    have g1 : bn s 1 = b.toNat := by
      have : s = s.take (s.length - 2) ++ s.drop (s.length - 2) := (List.take_append_drop _ _).symm
      rw [this, e]; rfl
    rw [e] at h1 ⊢
    simp only [List.drop_succ_cons, List.drop_zero] at h1
    rw [h1, h2, g1]
    have ea : a = 76 := UInt8.toNat_inj.1 (by rw [← g0, h0]; rfl)
    have eb : byteI (b.toNat : Int) = b := by unfold byteI; simp
    rw [ea, eb]; rfl
  unfold packK
  rw [← hh, he]
theorem unpackK_siz (s : List UInt8) : siz shKepts (unpackK s).1 ≤ 16777216 := by
  by_cases h : ∃ X, keptOk X = true ∧ packK X = s
  · obtain ⟨X, a, rfl⟩ := h
    rw [unpackK_yes a]
    have ok := keptOk_iff.1 a
    have h1 := ok.pk
    have h2 := ok.len
    have key : ∀ Y : Lib, (∀ e ∈ Y, OkP e.2 ∧ e.1.length ≤ 12) → Y.length + sizL Y ≤ 200 * Y.length := by
      intro Y
      induction Y with
      | nil => intro _; simp [sizL]
      | cons y Y ih =>
        intro hy
        have i1 := ih fun z hz => hy z (by simp [hz])
        obtain ⟨a1, a2⟩ := hy y (by simp)
        have a3 := a1.siz
        have h3 : siz shKept y = y.1.length + y.2.2.2.length := siz_kept _ _ _ _
        have h4 : sizL (y :: Y) = siz shKept y + sizL Y := by simp [sizL]
        rw [h4, h3]
        simp only [List.length_cons]; omega
    have := key X h1
    rw [siz_kepts]; simp only; omega
  · rw [unpackK_no fun X a b => h ⟨X, a, b⟩, siz_kepts]; simp [sizL]
end Am

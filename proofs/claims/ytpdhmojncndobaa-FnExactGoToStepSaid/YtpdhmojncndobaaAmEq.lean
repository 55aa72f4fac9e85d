/- '==' on structs whose fields are numbers. -/
import Derived.Test.YtpdhmojncndobaaAmLink
import Derived.Laws.StructEq
set_option linter.unusedVariables false
set_option linter.unusedSimpArgs false
namespace Am
open Go

def flatFields (P : Program) : List Field → Nat → Bool
  | [], _ => true
  | f :: r, i => f.name != "_" && (f.offset == i && ((match P.underlying f.type with | some (.int _) => true | _ => false) && flatFields P r (i + 1)))
def flatEq (P : Program) (t : TypeId) : Bool := match P.underlying t with
  | some (.struct fs) => flatFields P fs.toList 0 && (!P.stoodInHeld t && !P.eqGuardType P.depth t)
  | _ => false

section
variable {P : Program}
theorem toList_data (s : ByteArray) : s.toList = s.data.toList := ByteArray.toList_eq s

theorem eqFields_flat (d : Nat) (xs ys : Array Value) (w : World) : ∀ (fs : List Field) (i : Nat) (r : Bool), flatFields P fs i = true → eqCells (xs.toList.drop i) (ys.toList.drop i) = some r → xs.size = i + fs.length →
    (Op.eqFields (d + 1) xs ys fs).run P w = .ok r w
  | [], i, r, _, he, hs => by
    have e1 : xs.toList.drop i = [] := List.drop_eq_nil_of_le (by simp at hs ⊢; omega)
    rw [e1] at he
    cases hy : ys.toList.drop i with
    | nil => rw [hy] at he; simp [eqCells] at he; subst he; simp [Op.eqFields]
    | cons y l => rw [hy] at he; simp [eqCells] at he
  | f :: fs, i, r, hf, he, hs => by
    simp only [flatFields, Bool.and_eq_true, bne_iff_ne, ne_eq, beq_iff_eq] at hf
    obtain ⟨hn, ho, hk, hr⟩ := hf
    have hi : i < xs.toList.length := by simp at hs ⊢; omega
    rw [List.drop_eq_getElem_cons hi] at he
    cases hy : ys.toList.drop i with
    | nil => rw [hy] at he; cases hv : xs.toList[i] <;> rw [hv] at he <;> simp [eqCells] at he
    | cons y l =>
      have hil : i < ys.toList.length := by
        by_cases h : i < ys.toList.length
        · exact h
        · rw [List.drop_eq_nil_of_le (by omega)] at hy; cases hy
      rw [List.drop_eq_getElem_cons hil] at hy
      injection hy with hy1 hy2
      rw [← hy1] at *
      subst hy2
      have hx? : xs[f.offset]? = some (xs.toList[i]) := by rw [ho]; simp at hi; simp [hi]
      have hy? : ys[f.offset]? = some (ys.toList[i]) := by rw [ho]; simp at hil; simp [hil]
      rw [List.drop_eq_getElem_cons hil] at he
      unfold Op.eqFields
      rw [if_pos hn]
      cases hu : P.underlying f.type with
      | none => simp [hu] at hk
      | some k =>
        cases k with
        | int kd =>
          unfold eqCells at he
          split at he
          · rename_i hA hB; simp at hA
          · rename_i kk a x jj b' y' hA hB
            injection hA with hA1 hA2
            injection hB with hB1 hB2
            subst hA2; subst hB2
            split at he
            · rename_i hkj
              subst hkj
              cases hq : eqCells (xs.toList.drop (i + 1)) (ys.toList.drop (i + 1)) with
              | none => simp [hq] at he
              | some r' =>
                simp only [hq, Option.map_some, Option.some.injEq] at he
                have ih := eqFields_flat d xs ys w fs (i + 1) r' hr hq (by simp at hs; omega)
                have pa : (part f.type xs f.offset).run P w = .ok xs.toList[i] w := by simp [part, isAgg, run_underlying hu, hx?]
                have pb : (part f.type ys f.offset).run P w = .ok ys.toList[i] w := by simp [part, isAgg, run_underlying hu, hy?]
                have pe : (Op.equalIn (d + 1) f.type xs.toList[i] ys.toList[i]).run P w = .ok (a == b') w := by
                  rw [hA1, hB1]; exact run_equalIn_int w d f.type kk kd a b' hu
                simp only [Sem.run_bind, pa, pb, pe, Result.andThen_ok]
                by_cases hab : a = b'
                · subst hab
                  simp only [beq_self_eq_true, Bool.not_true, Bool.false_eq_true, if_false]
                  rw [ih, ← he]; simp
                · have : (a == b') = false := by simp [hab]
                  rw [this]
                  simp [← he, hab]
            · simp at he
          · simp at he
        | _ => simp [hu] at hk
theorem eqOk_flat {A : Seat} (h : A.eqT.all (flatEq A.P) = true) (hs : ∀ t fs, A.P.underlying t = some (.struct fs) → ∀ n, sizeT A t = some n → flatFields A.P fs.toList 0 = true → A.eqT.contains t = true → n = fs.size) : EqOk A := by
  intro t ht n hn xs ys r he hx
  have hf := List.all_eq_true.1 h t (by simpa using ht)
  unfold flatEq at hf
  split at hf
  · rename_i fs hu
    simp only [Bool.and_eq_true, Bool.not_eq_true'] at hf
    obtain ⟨h1, h2, h3⟩ := hf
    have hfo : A.P.fieldsOf t = fs := by simp [Program.fieldsOf, hu]
    refine ⟨fun o x y w => run_eqGuard_agg w o t x y xs ys h3, fun w => ?_⟩
    have e1 := run_equalIn_struct w 9999 t xs ys (by rw [hfo]; exact hu) h2
    unfold Op.equal Op.maxDepth
    rw [e1, hfo]
    exact eqFields_flat 9998 xs ys w fs.toList 0 r h1 (by simpa using he) (by have := hs t fs hu n hn h1 ht; simp; omega)
  · cases hf
def flatSz (A : Seat) (t : TypeId) : Bool := match A.P.underlying t with
  | some (.struct fs) => sizeT A t == some fs.size
  | _ => true
theorem eqOk_of {A : Seat} (h : A.eqT.all (flatEq A.P) = true) (h2 : A.eqT.all (flatSz A) = true) : EqOk A :=
  eqOk_flat h fun t fs hu n hn _ ht => by
    have := List.all_eq_true.1 h2 t (by simpa using ht)
    unfold flatSz at this
    rw [hu, hn] at this
    simpa using this
end
end Am

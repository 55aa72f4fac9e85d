/-
  THE STATEMENT 'Rows.FnExactCurvesAlongSaid': the law answers true, whatever its arguments. No conditions.
-/
import Derived.Test.YtnklgbafjppgoaaRows
import Derived.Test.YtnklgbafjppgoaaAmArgs
import Derived.Test.YtnklgbafjppgoaaAmSeat
import Derived.Test.YtnklgbafjppgoaaAmL209
import Derived.WalkKit
import Derived.ProofKit
import Derived.OpenShut
import Derived.ShutString
namespace Go.Proofs.Ytnklgbafjppgoaa.fnExactCurvesAlong
open Go.ChangeShapes Go.WideShapes Go.ChangeAt Go.RowKit
set_option linter.unusedVariables false

theorem own : ownKnob Try.prog.godebug = none := by kernel_rfl

set_option maxRecDepth 100000 in
theorem lifted (os : Os) (started : os.Started) (H : Type) (enc : TypeId × Value → H) :
    ReturnsInHanded {} Try.checked os 3 .any (Rows.fnExactCurvesAlongSpec.pre6 enc Try.prog Try.f3 Rows.fnExactCurvesAlongRow.domain false) (Rows.fnExactCurvesAlongSpec.post enc Try.prog Try.f3 false true false false) := by
  refine returnsInHanded_of_change (C := Try.checked) own started (by kernel_rfl) Try.func3
    (ChangeSpec.witness6 (enc := enc) (C := Try.checked) false ⟨#[], #[.agg #[.int .i64 0, .int .i64 0, .slice none 0 0, .slice none 0 0, .slice none 0 0]], []⟩ 8 (by kernel_rfl) (by kernel_rfl) (by kernel_rfl) (by kernel_rfl)) ?_
  intro W base args ds gs before hval hW hcnd _
  have hW' := hW
  obtain ⟨p, q, hA, hV, rfl, hfz, hnd⟩ := hW
  obtain ⟨rfl, rfl⟩ := trodVars_none hV
  obtain ⟨d0, rfl⟩ := Am.trod_list1 hA (by kernel_rfl : Try.f3.params.size = 1)
  refine (Am.law_any (A := Am.seatA) (Γ := Am.Gam) (base := base) (k := 9) (Ds := [Am.shJournal]) (g := 3) (f := 209) Am.seat_mix Am.seat_eq (fun _ => Am.seat_link) (by kernel_rfl) Am.law209 (by kernel_rfl) (fun j t v h h' => hval j t v (by simpa using h) (by simpa using h')) hA).mono fun e W' ⟨he, hg⟩ => ?_
  subst he
  exact ⟨_, rfl, Am.post_of_below (pa := _) (pv := []) hW' (fun _ _ _ => trodAll_cons_mk (shut_bool (t := 4) (by kernel_rfl) _) trodAll_mk0)
    (fun sp hs => Am.trodAll_stays (by kernel_rfl) (Am.readable_of (by kernel_rfl)) hA (fun p hp => Am.below_same hg (hW'.lt p (by simpa using hp))) (fun p hp => hs p (by simpa using hp))) (fun _ _ => rfl) rfl
    hg (ok_one (t := 4) (by kernel_rfl) rfl (okWide_bool_mk (t := 4) (by kernel_rfl) _))⟩

theorem over : Rows.fnExactCurvesAlongRow.holds Try.pinned (OpenSpec.ofChange Rows.fnExactCurvesAlongSpec) :=
  OpenClaim.holds_of_wide 3 Try.f3 rfl rfl rfl rfl rfl rfl rfl ⟨rfl, rfl, rfl, rfl, rfl⟩ rfl rfl rfl rfl rfl (by kernel_rfl) Try.func3 (by kernel_rfl)
    (of_decide_eq_true (by kernel_rfl)) (by unfold Func.isWrapper; first | (rw [if_pos (by decide +kernel)]; kernel_rfl) | (rw [if_neg (by decide +kernel)]; exact ⟨rfl, rfl⟩))
    (fun os started H enc _ => lifted os started H enc)

theorem proved : Rows.FnExactCurvesAlongSaid :=
  over
#print axioms proved
end Go.Proofs.Ytnklgbafjppgoaa.fnExactCurvesAlong

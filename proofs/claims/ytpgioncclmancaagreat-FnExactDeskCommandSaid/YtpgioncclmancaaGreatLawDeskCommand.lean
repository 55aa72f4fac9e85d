/-
  THE STATEMENT 'Rows.FnExactDeskCommandSaid': the law answers true, whatever its arguments. No conditions.
-/
import Derived.Test.YtpgioncclmancaaGreatRows
import Derived.Test.YtpgioncclmancaaGreatPLink
import Derived.Test.YtpgioncclmancaaGreatPSeat
import Derived.Test.YtpgioncclmancaaGreatPL210
import Derived.WalkKit
import Derived.ProofKit
import Derived.OpenShut
import Derived.ShutString
namespace Go.Proofs.YtpgioncclmancaaGreat.fnExactDeskCommand
open Go.ChangeShapes Go.WideShapes Go.ChangeAt Go.RowKit
set_option linter.unusedVariables false

theorem own : ownKnob Tryz.prog.godebug = none := by kernel_rfl

set_option maxRecDepth 100000 in
theorem lifted (os : Os) (started : os.Started) (H : Type) (enc : TypeId × Value → H) :
    ReturnsInHanded {} Tryz.checked os 5 .any (Rows.fnExactDeskCommandSpec.pre6 enc Tryz.prog Tryz.f5 Rows.fnExactDeskCommandRow.domain false) (Rows.fnExactDeskCommandSpec.post enc Tryz.prog Tryz.f5 false true false false) := by
  refine returnsInHanded_of_change (C := Tryz.checked) own started (by kernel_rfl) Tryz.func5
    (ChangeSpec.witness6 (enc := enc) (C := Tryz.checked) false ⟨#[], #[.agg #[.int .i64 0, .int .i64 0, .slice none 0 0, .slice none 0 0, .slice none 0 0], .string ByteArray.empty], []⟩ 8 (by kernel_rfl) (by kernel_rfl) (by kernel_rfl) (by kernel_rfl)) ?_
  intro W base args ds gs before ES hW aEm _
  have hW' := hW
  obtain ⟨p, q, hA, hV, rfl, EG, hnd⟩ := hW
  obtain ⟨rfl, rfl⟩ := trodVars_none hV
  obtain ⟨d0, d1, rfl⟩ := Am.aed hA (by kernel_rfl : Tryz.f5.params.size = 2)
  refine (Am.Yx (A := Am.Af) (Γ := Am.aE) (base := base) (k := 9) (Ds := [Am.ba, .str]) (g := 5) (f := 210) Am.Wn Am.Y0 (fun _ => Am.Sl) (by kernel_rfl) Am.ar0 (by kernel_rfl) (fun j t v h h' => ES j t v (by simpa using h) (by simpa using h')) hA).mono fun e W' ⟨he, hg⟩ => ?_
  subst he
  exact ⟨_, rfl, Am.IQ (pa := _) (pv := []) hW' (fun _ _ _ => trodAll_cons_mk (shut_bool (t := 4) (by kernel_rfl) _) trodAll_mk0)
    (fun sp hs => Am.IV (by kernel_rfl) (Am.L7 (by kernel_rfl)) hA (fun p hp => Am.NH hg (hW'.lt p (by simpa using hp))) (fun p hp => hs p (by simpa using hp))) (fun _ _ => rfl) rfl
    hg (ok_one (t := 4) (by kernel_rfl) rfl (okWide_bool_mk (t := 4) (by kernel_rfl) _))⟩

theorem over : Rows.fnExactDeskCommandRow.holds Tryz.pinned (OpenSpec.ofChange Rows.fnExactDeskCommandSpec) :=
  OpenClaim.holds_of_wide 5 Tryz.f5 rfl rfl rfl rfl rfl rfl rfl ⟨rfl, rfl, rfl, rfl, rfl⟩ rfl rfl rfl rfl rfl (by kernel_rfl) Tryz.func5 (by kernel_rfl)
    (of_decide_eq_true (by kernel_rfl)) (by unfold Func.isWrapper; first | (rw [if_pos (by decide +kernel)]; kernel_rfl) | (rw [if_neg (by decide +kernel)]; exact ⟨rfl, rfl⟩))
    (fun os started H enc _ => lifted os started H enc)

theorem proved : Rows.FnExactDeskCommandSaid :=
  over
#print axioms proved
end Go.Proofs.YtpgioncclmancaaGreat.fnExactDeskCommand

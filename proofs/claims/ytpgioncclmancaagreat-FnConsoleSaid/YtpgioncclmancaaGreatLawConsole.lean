/-
  THE STATEMENT 'Rows.FnConsoleSaid': the law answers true, whatever its arguments. No conditions.
-/
import Derived.Test.YtpgioncclmancaaGreatRows
import Derived.Test.YtpgioncclmancaaGreatAmArgs
import Derived.Test.YtpgioncclmancaaGreatAmSeat
import Derived.Test.YtpgioncclmancaaGreatAmL203
import Derived.WalkKit
import Derived.ProofKit
import Derived.OpenShut
import Derived.ShutString
namespace Go.Proofs.YtpgioncclmancaaGreat.fnConsole
open Go.ChangeShapes Go.WideShapes Go.ChangeAt Go.RowKit
set_option linter.unusedVariables false

theorem own : ownKnob Tryz.prog.godebug = none := by kernel_rfl

set_option maxRecDepth 100000 in
theorem lifted (os : Os) (started : os.Started) (H : Type) (enc : TypeId × Value → H) :
    ReturnsInHanded {} Tryz.checked os 3 .any (Rows.fnConsoleSpec.pre6 enc Tryz.prog Tryz.f3 Rows.fnConsoleRow.domain false) (Rows.fnConsoleSpec.post enc Tryz.prog Tryz.f3 false true false false) := by
  refine returnsInHanded_of_change (C := Tryz.checked) own started (by kernel_rfl) Tryz.func3
    (ChangeSpec.witness6 (enc := enc) (C := Tryz.checked) false ⟨#[], #[.slice none 0 0], []⟩ 8 (by kernel_rfl) (by kernel_rfl) (by kernel_rfl) (by kernel_rfl)) ?_
  intro W base args ds gs before hval hW hcnd _
  have hW' := hW
  obtain ⟨p, q, hA, hV, rfl, hfz, hnd⟩ := hW
  obtain ⟨rfl, rfl⟩ := trodVars_none hV
  obtain ⟨d0, rfl⟩ := Am.trod_list1 hA (by kernel_rfl : Tryz.f3.params.size = 1)
  refine (Am.law_any (A := Am.seatA) (Γ := Am.Gam) (base := base) (k := 9) (Ds := [Am.shBytes]) (g := 3) (f := 203) Am.seat_mix Am.seat_eq (fun _ => Am.seat_link) (by kernel_rfl) Am.law203 (by kernel_rfl) (fun j t v h h' => hval j t v (by simpa using h) (by simpa using h')) hA).mono fun e W' ⟨he, hg⟩ => ?_
  subst he
  exact ⟨_, rfl, Am.post_of_below (pa := _) (pv := []) hW' (fun _ _ _ => trodAll_cons_mk (shut_bool (t := 4) (by kernel_rfl) _) trodAll_mk0)
    (fun sp hs => Am.trodAll_stays (by kernel_rfl) (Am.readable_of (by kernel_rfl)) hA (fun p hp => Am.below_same hg (hW'.lt p (by simpa using hp))) (fun p hp => hs p (by simpa using hp))) (fun _ _ => rfl) rfl
    hg (ok_one (t := 4) (by kernel_rfl) rfl (okWide_bool_mk (t := 4) (by kernel_rfl) _))⟩

theorem over : Rows.fnConsoleRow.holds Tryz.pinned (OpenSpec.ofChange Rows.fnConsoleSpec) :=
  OpenClaim.holds_of_wide 3 Tryz.f3 rfl rfl rfl rfl rfl rfl rfl ⟨rfl, rfl, rfl, rfl, rfl⟩ rfl rfl rfl rfl rfl (by kernel_rfl) Tryz.func3 (by kernel_rfl)
    (of_decide_eq_true (by kernel_rfl)) (by unfold Func.isWrapper; first | (rw [if_pos (by decide +kernel)]; kernel_rfl) | (rw [if_neg (by decide +kernel)]; exact ⟨rfl, rfl⟩))
    (fun os started H enc _ => lifted os started H enc)

theorem proved : Rows.FnConsoleSaid :=
  over
#print axioms proved
end Go.Proofs.YtpgioncclmancaaGreat.fnConsole

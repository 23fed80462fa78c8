/- FnKeys returns true for every input, on the conditions that the row itself states, and on no other (part 'Keys') -/
import Derived.Test.YtbkgalecdbmkaaaLawb
import Derived.Test.YtbkgalecdbmkaaaSet
import Derived.Test.YtbkgalecdbmkaaaEvLaw
import Derived.Test.YtbkgalecdbmkaaaRows
import Derived.ProofKit
import Derived.OpenShut
import Derived.JoinedOf
import Derived.JoinedAt

namespace Go.Proofs.Ytbkgalecdbmkaaa
open Go Go.Ev Go.ChangeShapes Go.WideShapes Go.ChangeAt Go.RowKit
set_option linter.unusedVariables false


theorem own : ownKnob Try.prog.godebug = none := by kernel_rfl
theorem cells22 : Try.prog.cellsOf 5 = 1 := by kernel_rfl

set_option maxRecDepth 100000 in
theorem lifted (os : Os) (started : os.Started) (H : Type) (enc : TypeId × Value → H) :
    ReturnsInHanded {} Try.checked os 4 .any (Rows.fnKeysSpec.pre6 enc Try.prog Try.f4 Rows.fnKeysRow.domain false) (Rows.fnKeysSpec.post enc Try.prog Try.f4 false true false false) := by
  refine returnsInHanded_of_change (C := Try.checked) own started (by kernel_rfl) Try.func4
    (ChangeSpec.witness6 (enc := enc) (C := Try.checked) false ⟨#[], #[.slice none 0 0], []⟩ 8 (by kernel_rfl) (by kernel_rfl) (by kernel_rfl) (by kernel_rfl)) ?_
  intro W base args ds gs before hval hW _ _
  exact contract_bytes (E := 5) Try.params4 rfl Try.underlying22 Try.underlying5 cells22 Try.underlying4 rfl (fun _ _ => rfl)
    (fun W a len cap zs h1 h2 h3 h4 => law_calls (show FnOk Try.prog (lawSig 4) laws_FnKeys from lim_ok setup 4) Try.func4 (by kernel_rfl) (cd := (match Try.f4.body with | some b => b | none => .skip)) (by kernel_rfl) h1 h2 h4 (keys_law zs h3)) hval hW

theorem x_holds : Rows.FnKeysSaid :=
  OpenClaim.holds_of_wide 4 Try.f4 rfl rfl rfl rfl rfl rfl rfl ⟨rfl, rfl, rfl, rfl, rfl⟩ rfl rfl rfl rfl rfl (by kernel_rfl) Try.func4 (by kernel_rfl)
    (of_decide_eq_true (by kernel_rfl)) (by unfold Func.isWrapper; first | (rw [if_pos (by decide +kernel)]; kernel_rfl) | (rw [if_neg (by decide +kernel)]; exact ⟨rfl, rfl⟩))
    (fun os started H enc _ => lifted os started H enc)
end Go.Proofs.Ytbkgalecdbmkaaa

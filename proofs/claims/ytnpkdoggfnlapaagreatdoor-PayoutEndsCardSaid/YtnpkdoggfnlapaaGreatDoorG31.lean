/- Parts Mn. -/
import Derived.Test.YtnpkdoggfnlapaaGreatDoorG30
set_option linter.unusedSimpArgs false
set_option linter.unusedVariables false
namespace Go.Proofs.YtnpkdoggfnlapaaGreatDoor
set_option maxRecDepth 100000
open Go.Sx Go.RowKit Go.ChangeShapes Go.WideShapes Go.ChangeAt
set_option maxHeartbeats 0 in
theorem yO:joinedFacts Tryz.prog 11 Tryz.f11 Rows.payoutEndsSpec Rows.payoutEndsRow=true:=by
 unfold joinedFacts
 simp only [Bool.and_eq_true]
 repeat' apply And.intro
 all_goals as_aux_lemma=>kernel_rfl
end Go.Proofs.YtnpkdoggfnlapaaGreatDoor

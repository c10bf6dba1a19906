/- Parts Ck. -/
import Derived.Test.YtnpkdoggfnlapaaGreatDoorG26
set_option linter.unusedSimpArgs false
set_option linter.unusedVariables false
namespace Go.Proofs.YtnpkdoggfnlapaaGreatDoor
set_option maxRecDepth 100000
open Go.Sx Go.RowKit Go.ChangeShapes Go.WideShapes Go.ChangeAt
set_option maxHeartbeats 0 in
theorem payoutKeeps_joined : joinedFacts Tryz.prog 8 Tryz.f8 Rows.payoutKeepsSpec Rows.payoutKeepsRow = true := by
  unfold joinedFacts
  simp only [Bool.and_eq_true]
  repeat' apply And.intro
  all_goals as_aux_lemma => kernel_rfl
end Go.Proofs.YtnpkdoggfnlapaaGreatDoor

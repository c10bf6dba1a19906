/- Proved: whatever the input, drawbridgelaw15.PayoutOnce returns true, and the input reads as it did; condition: the variable hash.steps holds what the program's text lays, and the card ties that to the text. -/
import Derived.Test.YtnpkdoggfnlapaaGreatDoorG31
import Derived.Test.YtnpkdoggfnlapaaGreatDoorTie
import Derived.Test.YtnpkdoggfnlapaaGreatDoorCards
set_option linter.unusedSimpArgs false
set_option linter.unusedVariables false
namespace Go.Proofs.YtnpkdoggfnlapaaGreatDoor
set_option maxRecDepth 100000
open Go.Sx Go.RowKit Go.ChangeShapes Go.WideShapes Go.ChangeAt
theorem payoutOnce_over : Rows.PayoutOnceSaid :=
  OpenClaim.holds_of_wide 9 Tryz.f9 rfl rfl rfl rfl rfl rfl rfl ⟨rfl, rfl, rfl, rfl, rfl⟩ rfl rfl rfl rfl rfl (by kernel_rfl) Tryz.func9 payoutOnce_joined
    (of_decide_eq_true (by as_aux_lemma => kernel_rfl)) (by unfold Func.isWrapper; first | (rw [if_pos (by decide +kernel)]; kernel_rfl) | (rw [if_neg (by decide +kernel)]; exact ⟨rfl, rfl⟩))
    (fun os started H enc _ => payoutOnce_lifted os started H enc)
theorem each_ {P : TypeId → Prop} {a b : TypeId} (ha : P a) (hb : P b) : ∀ (j : Nat) t, (#[a, b] : Array TypeId)[j]? = some t → P t := by
  intro j t ht
  match j, ht with
  | 0, ht => simp at ht; subst ht; exact ha
  | 1, ht => simp at ht; subst ht; exact hb
  | j + 2, ht => simp at ht
theorem payoutOnce_proved : Rows.PayoutOnceCardSaid :=
  Claim7.holds_tied_plain_at .later [] [.data] true (true, "6b02c825a31eb1d64ce8c0d48304d645abff5b6c9cb370d5267b4e4c1e322499") false
    payoutOnce_over (fun _ h => by cases h) (by kernel_rfl) (fun _ h => by cases h) payoutOnce_row_tie rfl ⟨rfl, rfl⟩ (by kernel_rfl) rfl
    (fun f fn hf hfn => by
      obtain rfl : f = 9 := Option.some.inj ((show Tryz.prog.funcNamed "drawbridge/drawbridgelaw15.PayoutOnce" = some 9 by kernel_rfl).symm.trans hf) |>.symm
      obtain rfl : fn = Tryz.f9 := (Option.some.inj (Tryz.func9.symm.trans hfn)).symm
      refine ⟨by kernel_rfl, ?_⟩
      rw [Tryz.params9]
      exact each_ (show Tryz.prog.wantsStandIn 5 = false by kernel_rfl) (show Tryz.prog.wantsStandIn 5 = false by kernel_rfl))
    (by kernel_rfl)
end Go.Proofs.YtnpkdoggfnlapaaGreatDoor

/- Proved: whatever the input, drawbridgelaw15.PayoutEnds returns true, and the input reads as it did; condition: the variable hash.steps holds what the program's text lays, and the card ties that to the text. -/
import Derived.Test.YtnpkdoggfnlapaaGreatDoorG31
import Derived.Test.YtnpkdoggfnlapaaGreatDoorTie
import Derived.Test.YtnpkdoggfnlapaaGreatDoorCards
set_option linter.unusedSimpArgs false
set_option linter.unusedVariables false
namespace Go.Proofs.YtnpkdoggfnlapaaGreatDoor
set_option maxRecDepth 100000
open Go.Sx Go.RowKit Go.ChangeShapes Go.WideShapes Go.ChangeAt
theorem Bd:Rows.PayoutEndsSaid :=
 OpenClaim.holds_of_wide 11 Tryz.f11 rfl rfl rfl rfl rfl rfl rfl ⟨rfl,rfl,rfl,rfl,rfl⟩ rfl rfl rfl rfl rfl (by kernel_rfl) Tryz.func11 yO
  (of_decide_eq_true (by as_aux_lemma=>kernel_rfl)) (by unfold Func.isWrapper;first |(rw [if_pos (by decide +kernel)];kernel_rfl) |(rw [if_neg (by decide +kernel)];exact ⟨rfl,rfl⟩))
  (fun os started H enc _=>yP os started H enc)
theorem XY {P:TypeId→Prop} {a b c:TypeId} (ha:P a) (hb:P b) (hc:P c):∀ (j:Nat) t,(#[a,b,c]:Array TypeId)[j]? = some t→P t:=by
 intro j t ht
 match j,ht with
 | 0,ht=>simp at ht;subst ht;exact ha
 | 1,ht=>simp at ht;subst ht;exact hb
 | 2,ht=>simp at ht;subst ht;exact hc
 | j + 3,ht=>simp at ht
theorem payoutEnds_proved:Rows.PayoutEndsCardSaid :=
 Claim7.holds_tied_plain_at .later [] [.data] true (true, "6b02c825a31eb1d64ce8c0d48304d645abff5b6c9cb370d5267b4e4c1e322499") false
  Bd (fun _ h=>by cases h) (by kernel_rfl) (fun _ h=>by cases h) payoutEnds_row_tie rfl ⟨rfl,rfl⟩ (by kernel_rfl) rfl
  (fun f fn hf hfn=>by
   obtain rfl:f=11:=Option.some.inj ((show Tryz.prog.funcNamed "drawbridge/drawbridgelaw15.PayoutEnds" = some 11 by kernel_rfl).symm.trans hf) |>.symm
   obtain rfl:fn=Tryz.f11:=(Option.some.inj (Tryz.func11.symm.trans hfn)).symm
   refine ⟨by kernel_rfl,?_⟩
   rw [Tryz.params11]
   exact XY (show Tryz.prog.wantsStandIn 66=false by kernel_rfl) (show Tryz.prog.wantsStandIn 91=false by kernel_rfl) (show Tryz.prog.wantsStandIn 104=false by kernel_rfl))
  (by kernel_rfl)
end Go.Proofs.YtnpkdoggfnlapaaGreatDoor

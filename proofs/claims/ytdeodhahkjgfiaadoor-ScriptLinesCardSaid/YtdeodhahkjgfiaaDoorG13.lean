/- Proved: whatever the input, drawbridgelaw26.ScriptLines returns true, and the input reads as it did; condition: the listed variables hold what the program's text lays (one of Go's own tables is pinned), and the card ties that to the text. -/
import Derived.Test.YtdeodhahkjgfiaaDoorG12
import Derived.Test.YtdeodhahkjgfiaaDoorTie
import Derived.Test.YtdeodhahkjgfiaaDoorCards
set_option linter.unusedSimpArgs false
set_option linter.unusedVariables false
namespace Go.Proofs.YtdeodhahkjgfiaaDoor
set_option maxRecDepth 100000
open Go.Sx Go.RowKit Go.ChangeShapes Go.WideShapes Go.ChangeAt
theorem scriptLines_over : Rows.ScriptLinesSaid :=
  OpenClaim.holds_of_wide 3 Tryd.f3 rfl rfl rfl rfl rfl rfl rfl ⟨rfl, rfl, rfl, rfl, rfl⟩ rfl rfl rfl rfl rfl (by kernel_rfl) Tryd.func3 scriptLines_joined
    (of_decide_eq_true (by as_aux_lemma => kernel_rfl)) (by unfold Func.isWrapper; first | (rw [if_pos (by decide +kernel)]; kernel_rfl) | (rw [if_neg (by decide +kernel)]; exact ⟨rfl, rfl⟩))
    (fun os started H enc _ => scriptLines_lifted os started H enc)
theorem each_ {P : TypeId → Prop} {a b c : TypeId} (ha : P a) (hb : P b) (hc : P c) : ∀ (j : Nat) t, (#[a, b, c] : Array TypeId)[j]? = some t → P t := by
  intro j t ht
  match j, ht with
  | 0, ht => simp at ht; subst ht; exact ha
  | 1, ht => simp at ht; subst ht; exact hb
  | 2, ht => simp at ht; subst ht; exact hc
  | j + 3, ht => simp at ht
theorem scriptLines_proved : Rows.ScriptLinesCardSaid :=
  Claim7.holds_tied_plain_at .later [] [.data, .data, .data, .data, .sentinel, .sentinel, .pinned] true (true, "c1df02d75df68a328c31f37f67eacac2c9a821c3991d5e0a896059e2d7dcad9a") true
    scriptLines_over (fun _ h => by cases h) (by kernel_rfl) (fun _ h => by cases h) scriptLines_row_tie rfl ⟨rfl, rfl⟩ (by kernel_rfl) rfl
    (fun f fn hf hfn => by
      obtain rfl : f = 3 := Option.some.inj ((show Tryd.prog.funcNamed "drawbridge/drawbridgelaw26.ScriptLines" = some 3 by kernel_rfl).symm.trans hf) |>.symm
      obtain rfl : fn = Tryd.f3 := (Option.some.inj (Tryd.func3.symm.trans hfn)).symm
      refine ⟨by kernel_rfl, ?_⟩
      rw [Tryd.params3]
      exact each_ (show Tryd.prog.wantsStandIn 22 = false by kernel_rfl) (show Tryd.prog.wantsStandIn 5 = false by kernel_rfl) (show Tryd.prog.wantsStandIn 5 = false by kernel_rfl))
    (by kernel_rfl)
end Go.Proofs.YtdeodhahkjgfiaaDoor

/- Parts Cg. -/
import Derived.Test.YtnpkdoggfnlapaaGreatDoorG21
import Derived.Test.YtnpkdoggfnlapaaGreatDoorG29
import Derived.Test.YtnpkdoggfnlapaaGreatDoorTie
import Derived.Test.YtnpkdoggfnlapaaGreatDoorCards
set_option linter.unusedSimpArgs false
set_option linter.unusedVariables false
namespace Go.Proofs.YtnpkdoggfnlapaaGreatDoor
set_option maxRecDepth 100000
open Go.Sx Go.RowKit Go.ChangeShapes Go.WideShapes Go.ChangeAt
set_option maxRecDepth 100000 in
theorem payoutOnce_lifted (os : Os) (started : os.Started) (H : Type) (enc : TypeId × Value → H) :
    ReturnsInHanded {} Tryz.checked os 9 .any (fun w args => (Rows.payoutOnceSpec.pre enc Tryz.prog Tryz.f9 [] false w args ∧ laidMetH Tryz.prog [("drawbridge/hash.steps", Rows.laid_drawbridge_hash_steps)] w) ∧ sizedMet enc Tryz.prog Tryz.f9 (OpenSpec.ofChange Rows.payoutOnceSpec) false w args)
      (Rows.payoutOnceSpec.post enc Tryz.prog Tryz.f9 false true false false) := by
  refine returnsInHanded_of_change_and (C := Tryz.checked) (X := fun w _ => laidMetH Tryz.prog [("drawbridge/hash.steps", Rows.laid_drawbridge_hash_steps)] w) (fun _ _ _ hh h => h.of_heap hh) own started (by kernel_rfl) Tryz.func9
    (ChangeSpec.witness_shaped (enc := enc) (C := Tryz.checked) (os := os) (X := fun w _ => laidMetH Tryz.prog [("drawbridge/hash.steps", Rows.laid_drawbridge_hash_steps)] w) false (World.doorLaid Tryz.prog 14 os) #[.int .u8 0, .int .u8 0] 8 rfl (World.shaped_of_RefB (by kernel_rfl) (by kernel_rfl)) (by kernel_rfl) (by kernel_rfl) (by kernel_rfl) (door_met os _)) ?_
  intro W base args ds gs before hval0 hW _ _ hL _
  have hval : ∀ (j : Nat) t v, Tryz.f9.params[j]? = some t → args[j]? = some v → Value.okWide Tryz.prog W .any base t v := hval0
  have hW' := hW
  obtain ⟨p, q, hA0, hV, rfl, hfz, hnd⟩ := hW
  have hA : DataW.TrodAll enc Tryz.prog W 0 (fun _ => true) true Tryz.f9.params.toList args.toList ds p := hA0
  rw [Tryz.params9] at hA hval
  obtain ⟨v0, vs0, d0, ds0, p0, q0, hargs, rfl, rfl, h0, r0⟩ := trodAll_cons hA
  obtain ⟨v1, vs1, d1, ds1, p1, q1, rfl, rfl, rfl, h1, r1⟩ := trodAll_cons r0
  obtain ⟨rfl, rfl, rfl⟩ := trodAll_nil r1
  obtain rfl : args = #[v0, v1] := by cases args; simp_all
  obtain ⟨rfl, rfl⟩ := trodVars_none hV
  obtain ⟨x, rfl⟩ := open_u8 h0 (hval 0 5 v0 rfl rfl)
  obtain ⟨y, rfl⟩ := open_u8 h1 (hval 1 5 v1 rfl rfl)
  clear hA0 hval0
  refine ((payoutOnce_walk x y).calls (vs := [u8 x, u8 y]) ⟨came_raw, came_raw, trivial⟩ (steps_came hL)).mono fun e W' ⟨v, β, he, hv, hb⟩ => ?_
  subst he
  simp only [XV.rel, CV.rel, SV.rel] at hv
  subst hv
  exact ⟨_, rfl, post_true laid hW' rfl (by kernel_rfl) hb rfl rfl (fun _ _ => trodAll_cons_mk (shut_bool Tryz.underlying4 _) trodAll_mk0)⟩
end Go.Proofs.YtnpkdoggfnlapaaGreatDoor

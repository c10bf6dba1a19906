/- Proved: whatever the input, drawbridgelaw11.UtxoSums returns true, and the input reads as it did; no conditions. -/
import Derived.Test.YtfdmlpdhngmbiaaUf
import Derived.Test.YtfdmlpdhngmbiaaVi
namespace Go.Proofs.Ytfdmlpdhngmbiaa
open Go.Sx Go.RowKit Go.ChangeShapes Go.WideShapes Go.ChangeAt

set_option maxRecDepth 100000 in
theorem sums_calls {W : World} {v0 : Value} (l : List Deed) (h0 : RowIn W v0 22 l.length (deedsF l)) :
    Calls Try.prog 5 #[v0] W fun e W' => e = .returned (.bool true) ∧ Below W.heap.size W W' := by
  obtain ⟨L0, r0, q0⟩ := h0
  let β : Nat → Sx.Loc := fun c => match c with | 0 => L0 | _ => default
  have hc := sums_spec l (M := [(0, .ro 22 l.length (deedsF l))]) (d := 1) (fun _ _ h => h) (Nat.le_refl 1) β (fun _ => none) W [v0] (fun k h => absurd rfl h) (fun k h => by cases h) ⟨v0, [], rfl, r0 β 0 rfl, rfl⟩ (fun c hc ch hch => by
    simp only [List.mem_range] at hc
    match c, hc with
    | 0, _ =>
      simp only [Mem.get, nbeq, decide_true, cond_true, Option.some.injEq] at hch
      subst hch
      exact rowIn_holds q0 rfl (fun _ => rfl))
  refine hc.mono ?_
  rintro e W' ⟨v, β', ow', rfl, E, hv, _⟩
  simp only [XV.rel, CV.rel, SV.rel] at hv
  subst hv
  exact ⟨rfl, E.os, E.tape, E.output, E.size, fun k hk => (E.keep k hk (fun c hc => by cases hc)).1⟩

set_option maxRecDepth 100000 in
theorem sums_lifted (os : Os) (started : os.Started) (H : Type) (enc : TypeId × Value → H) :
    ReturnsInHanded {} Try.checked os 5 .any (Rows.utxoSumsSpec.pre6 enc Try.prog Try.f5 Rows.utxoSumsRow.domain false) (Rows.utxoSumsSpec.post enc Try.prog Try.f5 false true false false) := by
  refine returnsInHanded_of_change (C := Try.checked) own started (by kernel_rfl) Try.func5
    (ChangeSpec.witness6 (enc := enc) (C := Try.checked) false ⟨#[], #[.slice none 0 0], []⟩ 8 (by kernel_rfl) (by kernel_rfl) (by kernel_rfl) (by kernel_rfl)) ?_
  intro W base args ds gs before hval0 hW hcnd _
  have hval : ∀ (j : Nat) t v, Try.f5.params[j]? = some t → args[j]? = some v → Value.okWide Try.prog W .any base t v := hval0
  have hW' := hW
  obtain ⟨p, q, hA0, hV, rfl, hfz, hnd⟩ := hW
  have hA : DataW.TrodAll enc Try.prog W 0 (fun _ => true) true Try.f5.params.toList args.toList ds p := hA0
  rw [Try.params5] at hA hval
  obtain ⟨v0, vs0, d0, ds0, p0, q0, hargs, rfl, rfl, h0, r0⟩ := trodAll_cons hA
  obtain ⟨rfl, rfl, rfl⟩ := trodAll_nil r0
  obtain rfl : args = #[v0] := by cases args; simp_all
  obtain ⟨rfl, rfl⟩ := trodVars_none hV
  obtain ⟨l, _, k0⟩ := open_row Try.T_ok (t := 22) (e := 42) rfl rfl rfl (f := 8) (ks := deedKinds) rfl h0 (hval 0 22 v0 rfl rfl) Deed.cells deed_dec default
  clear hA0 hval0
  refine (sums_calls l k0).mono fun e W' ⟨he, hb⟩ => ?_
  subst he
  exact ⟨_, rfl, post_true laid hW' rfl (by kernel_rfl) hb rfl rfl (fun _ _ => trodAll_cons_mk (shut_bool Try.underlying4 _) trodAll_mk0)⟩

theorem sums_over : Rows.utxoSumsRow.holds Try.pinned (OpenSpec.ofChange Rows.utxoSumsSpec) :=
  OpenClaim.holds_of_wide 5 Try.f5 rfl rfl rfl rfl rfl rfl rfl ⟨rfl, rfl, rfl, rfl, rfl⟩ rfl rfl rfl rfl rfl (by kernel_rfl) Try.func5 (by kernel_rfl)
    (of_decide_eq_true (by kernel_rfl)) (by unfold Func.isWrapper; first | (rw [if_pos (by decide +kernel)]; kernel_rfl) | (rw [if_neg (by decide +kernel)]; exact ⟨rfl, rfl⟩))
    (fun os started H enc _ => sums_lifted os started H enc)

theorem utxoSums_proved : Rows.UtxoSumsSaid := sums_over
end Go.Proofs.Ytfdmlpdhngmbiaa

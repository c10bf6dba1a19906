/- Proved: whatever the input, drawbridgelaw11.UtxoBack returns true, and the input reads as it did; no conditions. -/
import Derived.Test.YtfdmlpdhngmbiaaUf
import Derived.Test.YtfdmlpdhngmbiaaVn
namespace Go.Proofs.Ytfdmlpdhngmbiaa
open Go.Sx Go.RowKit Go.ChangeShapes Go.WideShapes Go.ChangeAt

set_option maxRecDepth 100000 in
theorem uback_calls {W : World} {v0 v1 : Value} (l more : List Deed) (h0 : RowIn W v0 22 l.length (deedsF l)) (h1 : RowIn W v1 22 more.length (deedsF more)) :
    Calls Try.prog 6 #[v0, v1] W fun e W' => e = .returned (.bool true) ∧ Below W.heap.size W W' := by
  obtain ⟨L0, r0, q0⟩ := h0
  obtain ⟨L1, r1, q1⟩ := h1
  let β : Nat → Sx.Loc := fun c => match c with | 0 => L0 | 1 => L1 | _ => default
  have hc := uback_spec l more (M := backM l more) (d := 2) (fun _ _ h => h) (Nat.le_refl 2) β (fun _ => none) W [v0, v1] (fun k h => absurd rfl h) (fun k h => by cases h) ⟨v0, [v1], rfl, r0 β 0 rfl, v1, [], rfl, r1 β 1 rfl, rfl⟩ (fun c hc ch hch => by
    simp only [List.mem_range] at hc
    match c, hc with
    | 0, _ =>
      simp only [backM, Mem.get, nbeq, decide_true, cond_true, Option.some.injEq] at hch
      subst hch
      exact rowIn_holds q0 rfl (fun _ => rfl)
    | 1, _ =>
      have : ((backM l more).get 1) = some (.ro 22 more.length (deedsF more)) := rfl
      rw [this] at hch
      cases hch
      exact rowIn_holds q1 rfl (fun _ => rfl))
  refine hc.mono ?_
  rintro e W' ⟨v, β', ow', rfl, E, hv, _⟩
  simp only [XV.rel, CV.rel, SV.rel] at hv
  subst hv
  exact ⟨rfl, E.os, E.tape, E.output, E.size, fun k hk => (E.keep k hk (fun c hc => by cases hc)).1⟩

set_option maxRecDepth 100000 in
theorem uback_lifted (os : Os) (started : os.Started) (H : Type) (enc : TypeId × Value → H) :
    ReturnsInHanded {} Try.checked os 6 .any (Rows.utxoBackSpec.pre6 enc Try.prog Try.f6 Rows.utxoBackRow.domain false) (Rows.utxoBackSpec.post enc Try.prog Try.f6 false true false false) := by
  refine returnsInHanded_of_change (C := Try.checked) own started (by kernel_rfl) Try.func6
    (ChangeSpec.witness6 (enc := enc) (C := Try.checked) false ⟨#[], #[.slice none 0 0, .slice none 0 0], []⟩ 8 (by kernel_rfl) (by kernel_rfl) (by kernel_rfl) (by kernel_rfl)) ?_
  intro W base args ds gs before hval0 hW hcnd _
  have hval : ∀ (j : Nat) t v, Try.f6.params[j]? = some t → args[j]? = some v → Value.okWide Try.prog W .any base t v := hval0
  have hW' := hW
  obtain ⟨p, q, hA0, hV, rfl, hfz, hnd⟩ := hW
  have hA : DataW.TrodAll enc Try.prog W 0 (fun _ => true) true Try.f6.params.toList args.toList ds p := hA0
  rw [Try.params6] at hA hval
  obtain ⟨v0, vs0, d0, ds0, p0, q0, hargs, rfl, rfl, h0, r0⟩ := trodAll_cons hA
  obtain ⟨v1, vs1, d1, ds1, p1, q1, rfl, rfl, rfl, h1, r1⟩ := trodAll_cons r0
  obtain ⟨rfl, rfl, rfl⟩ := trodAll_nil r1
  obtain rfl : args = #[v0, v1] := by cases args; simp_all
  obtain ⟨rfl, rfl⟩ := trodVars_none hV
  obtain ⟨l, _, k0⟩ := open_row Try.T_ok (t := 22) (e := 42) rfl rfl rfl (f := 8) (ks := deedKinds) rfl h0 (hval 0 22 v0 rfl rfl) Deed.cells deed_dec default
  obtain ⟨more, _, k1⟩ := open_row Try.T_ok (t := 22) (e := 42) rfl rfl rfl (f := 8) (ks := deedKinds) rfl h1 (hval 1 22 v1 rfl rfl) Deed.cells deed_dec default
  clear hA0 hval0
  refine (uback_calls l more k0 k1).mono fun e W' ⟨he, hb⟩ => ?_
  subst he
  exact ⟨_, rfl, post_true laid hW' rfl (by kernel_rfl) hb rfl rfl (fun _ _ => trodAll_cons_mk (shut_bool Try.underlying4 _) trodAll_mk0)⟩

theorem uback_over : Rows.utxoBackRow.holds Try.pinned (OpenSpec.ofChange Rows.utxoBackSpec) :=
  OpenClaim.holds_of_wide 6 Try.f6 rfl rfl rfl rfl rfl rfl rfl ⟨rfl, rfl, rfl, rfl, rfl⟩ rfl rfl rfl rfl rfl (by kernel_rfl) Try.func6 (by kernel_rfl)
    (of_decide_eq_true (by kernel_rfl)) (by unfold Func.isWrapper; first | (rw [if_pos (by decide +kernel)]; kernel_rfl) | (rw [if_neg (by decide +kernel)]; exact ⟨rfl, rfl⟩))
    (fun os started H enc _ => uback_lifted os started H enc)

theorem utxoBack_proved : Rows.UtxoBackSaid := uback_over
end Go.Proofs.Ytfdmlpdhngmbiaa

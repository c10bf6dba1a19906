/- Proved: whatever the input, drawbridgelaw11.UtxoNests returns true, and the input reads as it did; no conditions. -/
import Derived.Test.YtfdmlpdhngmbiaaUe
import Derived.Test.YtfdmlpdhngmbiaaSxV
namespace Go.Proofs.Ytfdmlpdhngmbiaa
open Go.Sx Go.RowKit Go.ChangeShapes Go.WideShapes Go.ChangeAt

theorem own : ownKnob Try.prog.godebug = none := by kernel_rfl

theorem fits_i64 {v : Value} (h : (Kd.int .i64).fits v) : ∃ y : Int64, v = i64 y := by
  obtain ⟨n, rfl, hw⟩ := h
  have e1 : IntKind.i64.min = -9223372036854775808 := rfl
  have e2 : IntKind.i64.max = 9223372036854775807 := rfl
  simp [Lit.wf, e1, e2] at hw
  refine ⟨Int64.ofInt n, ?_⟩
  simp only [i64, Value.int.injEq, true_and]
  exact (Int64.toInt_ofInt_of_le (by omega) (by omega)).symm
theorem fits_u8 {v : Value} (h : (Kd.int .u8).fits v) : ∃ y : UInt8, v = u8 y := by
  obtain ⟨n, rfl, hw⟩ := h
  have e1 : IntKind.u8.min = 0 := rfl
  have e2 : IntKind.u8.max = 255 := rfl
  simp [Lit.wf, e1, e2] at hw
  refine ⟨UInt8.ofNat n.toNat, ?_⟩
  simp only [u8, Value.int.injEq, true_and]
  have : (UInt8.ofNat n.toNat).toNat = n.toNat := UInt8.toNat_ofNat_of_lt' (by simp [UInt8.size]; omega)
  omega

def deedKinds : List Kd := [.int .i64, .int .i64, .int .u8, .int .u8, .int .u8, .int .u8, .int .u8, .int .u8, .int .u8, .int .u8, .int .i64, .int .u8, .int .u8, .int .u8, .int .u8, .int .u8, .int .u8, .int .u8, .int .u8, .int .i64, .int .i64, .bool]
theorem deed_dec (cs : List Value) (h : Fits deedKinds cs) : ∃ x : Deed, cs = x.cells := by
  obtain ⟨_, _, rfl, a0, _, _, rfl, a1, _, _, rfl, a2, _, _, rfl, a3, _, _, rfl, a4, _, _, rfl, a5, _, _, rfl, a6, _, _, rfl, a7, _, _, rfl, a8, _, _, rfl, a9, _, _, rfl, a10,
    _, _, rfl, a11, _, _, rfl, a12, _, _, rfl, a13, _, _, rfl, a14, _, _, rfl, a15, _, _, rfl, a16, _, _, rfl, a17, _, _, rfl, a18, _, _, rfl, a19, _, _, rfl, a20, _, _, rfl, a21, rfl⟩ := h
  obtain ⟨b0, rfl⟩ := fits_i64 a0
  obtain ⟨b1, rfl⟩ := fits_i64 a1
  obtain ⟨b2, rfl⟩ := fits_u8 a2
  obtain ⟨b3, rfl⟩ := fits_u8 a3
  obtain ⟨b4, rfl⟩ := fits_u8 a4
  obtain ⟨b5, rfl⟩ := fits_u8 a5
  obtain ⟨b6, rfl⟩ := fits_u8 a6
  obtain ⟨b7, rfl⟩ := fits_u8 a7
  obtain ⟨b8, rfl⟩ := fits_u8 a8
  obtain ⟨b9, rfl⟩ := fits_u8 a9
  obtain ⟨b10, rfl⟩ := fits_i64 a10
  obtain ⟨b11, rfl⟩ := fits_u8 a11
  obtain ⟨b12, rfl⟩ := fits_u8 a12
  obtain ⟨b13, rfl⟩ := fits_u8 a13
  obtain ⟨b14, rfl⟩ := fits_u8 a14
  obtain ⟨b15, rfl⟩ := fits_u8 a15
  obtain ⟨b16, rfl⟩ := fits_u8 a16
  obtain ⟨b17, rfl⟩ := fits_u8 a17
  obtain ⟨b18, rfl⟩ := fits_u8 a18
  obtain ⟨b19, rfl⟩ := fits_i64 a19
  obtain ⟨b20, rfl⟩ := fits_i64 a20
  obtain ⟨b21, rfl⟩ := a21
  exact ⟨⟨b0, b1, ⟨⟨b2, b3, b4, b5, b6, b7, b8, b9⟩, b10⟩, ⟨⟨b11, b12, b13, b14, b15, b16, b17, b18⟩, b19, b20, b21⟩⟩, rfl⟩
theorem byte_dec (cs : List Value) (h : Fits [.int .u8] cs) : ∃ x : UInt8, cs = [u8 x] := by
  obtain ⟨_, _, rfl, a0, rfl⟩ := h
  obtain ⟨b0, rfl⟩ := fits_u8 a0
  exact ⟨b0, rfl⟩

set_option maxRecDepth 100000 in
theorem nests_calls {W : World} {v0 v1 : Value} (l : List Deed) (cuts : List UInt8) (h0 : RowIn W v0 22 l.length (deedsF l)) (h1 : RowIn W v1 1 cuts.length (bytesF cuts)) :
    Calls Try.prog 3 #[v0, v1] W fun e W' => e = .returned (.bool true) ∧ Below W.heap.size W W' := by
  obtain ⟨L0, r0, q0⟩ := h0
  obtain ⟨L1, r1, q1⟩ := h1
  let β : Nat → Sx.Loc := fun c => match c with | 0 => L0 | 1 => L1 | _ => default
  have hc := nests_spec l cuts (M := nestsM l cuts) (d := 2) (fun _ _ h => h) (Nat.le_refl 2) β (fun _ => none) W [v0, v1] (fun k h => absurd rfl h) (fun k h => by cases h) ⟨v0, [v1], rfl, r0 β 0 rfl, v1, [], rfl, r1 β 1 rfl, rfl⟩ (fun c hc ch hch => by
    simp only [List.mem_range] at hc
    match c, hc with
    | 0, _ =>
      simp only [nestsM, Mem.get, nbeq, decide_true, cond_true, Option.some.injEq] at hch
      subst hch
      exact rowIn_holds q0 rfl (fun _ => rfl)
    | 1, _ =>
      have : ((nestsM l cuts).get 1) = some (.ro 1 cuts.length (bytesF cuts)) := rfl
      rw [this] at hch
      cases hch
      exact rowIn_holds q1 rfl (fun _ => rfl))
  refine hc.mono ?_
  rintro e W' ⟨v, β', ow', rfl, E, hv, _⟩
  simp only [XV.rel, CV.rel, SV.rel] at hv
  subst hv
  exact ⟨rfl, E.os, E.tape, E.output, E.size, fun k hk => (E.keep k hk (fun c hc => by cases hc)).1⟩

set_option maxRecDepth 100000 in
theorem lifted (os : Os) (started : os.Started) (H : Type) (enc : TypeId × Value → H) :
    ReturnsInHanded {} Try.checked os 3 .any (Rows.utxoNestsSpec.pre6 enc Try.prog Try.f3 Rows.utxoNestsRow.domain false) (Rows.utxoNestsSpec.post enc Try.prog Try.f3 false true false false) := by
  refine returnsInHanded_of_change (C := Try.checked) own started (by kernel_rfl) Try.func3
    (ChangeSpec.witness6 (enc := enc) (C := Try.checked) false ⟨#[], #[.slice none 0 0, .slice none 0 0], []⟩ 8 (by kernel_rfl) (by kernel_rfl) (by kernel_rfl) (by kernel_rfl)) ?_
  intro W base args ds gs before hval0 hW hcnd _
  have hval : ∀ (j : Nat) t v, Try.f3.params[j]? = some t → args[j]? = some v → Value.okWide Try.prog W .any base t v := hval0
  have hW' := hW
  obtain ⟨p, q, hA0, hV, rfl, hfz, hnd⟩ := hW
  have hA : DataW.TrodAll enc Try.prog W 0 (fun _ => true) true Try.f3.params.toList args.toList ds p := hA0
  rw [Try.params3] at hA hval
  obtain ⟨v0, vs0, d0, ds0, p0, q0, hargs, rfl, rfl, h0, r0⟩ := trodAll_cons hA
  obtain ⟨v1, vs1, d1, ds1, p1, q1, rfl, rfl, rfl, h1, r1⟩ := trodAll_cons r0
  obtain ⟨rfl, rfl, rfl⟩ := trodAll_nil r1
  obtain rfl : args = #[v0, v1] := by cases args; simp_all
  obtain ⟨rfl, rfl⟩ := trodVars_none hV
  obtain ⟨l, _, k0⟩ := open_row Try.T_ok (t := 22) (e := 42) rfl rfl rfl (f := 8) (ks := deedKinds) rfl h0 (hval 0 22 v0 rfl rfl) Deed.cells deed_dec default
  obtain ⟨cuts, _, k1⟩ := open_row Try.T_ok (t := 23) (e := 5) rfl rfl rfl (f := 8) (ks := [.int .u8]) rfl h1 (hval 1 23 v1 rfl rfl) (fun x => [u8 x]) byte_dec 0
  clear hA0 hval0
  refine (nests_calls l cuts k0 k1).mono fun e W' ⟨he, hb⟩ => ?_
  subst he
  exact ⟨_, rfl, post_true laid hW' rfl (by kernel_rfl) hb rfl rfl (fun _ _ => trodAll_cons_mk (shut_bool Try.underlying4 _) trodAll_mk0)⟩

theorem over : Rows.utxoNestsRow.holds Try.pinned (OpenSpec.ofChange Rows.utxoNestsSpec) :=
  OpenClaim.holds_of_wide 3 Try.f3 rfl rfl rfl rfl rfl rfl rfl ⟨rfl, rfl, rfl, rfl, rfl⟩ rfl rfl rfl rfl rfl (by kernel_rfl) Try.func3 (by kernel_rfl)
    (of_decide_eq_true (by kernel_rfl)) (by unfold Func.isWrapper; first | (rw [if_pos (by decide +kernel)]; kernel_rfl) | (rw [if_neg (by decide +kernel)]; exact ⟨rfl, rfl⟩))
    (fun os started H enc _ => lifted os started H enc)

theorem utxoNests_proved : Rows.UtxoNestsSaid := over
end Go.Proofs.Ytfdmlpdhngmbiaa

/- Proved: whatever the input, drawbridgelaw12.CheckPays returns true, and the input reads as it did; condition: the variable hash.steps holds what the program's text lays, and the card ties that to the text. -/
import Derived.Test.YtmoohekgheoliaaGreatDoorG27
import Derived.Test.YtmoohekgheoliaaGreatDoorG11
import Derived.Test.YtmoohekgheoliaaGreatDoorG26
import Derived.LaidMore
import Derived.LaidHandle
import Derived.MakeChecks
import Derived.Stop.Joined
import Derived.Test.YtmoohekgheoliaaGreatDoorTie
import Derived.Test.YtmoohekgheoliaaGreatDoorCards
set_option linter.unusedSimpArgs false
set_option linter.unusedVariables false
namespace Go.Proofs.YtmoohekgheoliaaGreatDoor
set_option maxRecDepth 100000
open Go.Sx Go.RowKit Go.ChangeShapes Go.WideShapes Go.ChangeAt
theorem own : ownKnob Tryz.prog.godebug = none := by kernel_rfl
theorem fits_i64 {v : Value} (h : (Kd.int .i64).fits v) : ∃ y : Int64, v = i64 y := by
  obtain ⟨n, rfl, hw⟩ := h
  have e1 : IntKind.i64.min = -9223372036854775808 := rfl
  have e2 : IntKind.i64.max = 9223372036854775807 := rfl
  simp [Lit.wf, e1, e2] at hw
  refine ⟨Int64.ofInt n, ?_⟩
  simp only [i64, Value.int.injEq, true_and]
  exact (Int64.toInt_ofInt_of_le (by omega) (by omega)).symm
theorem fits_u8 {v : Value} (h : (Kd.int .u8).fits v) : ∃ y : UInt8, v = u8 y := by
  obtain ⟨n, rfl, hw⟩ := h
  have e1 : IntKind.u8.min = 0 := rfl
  have e2 : IntKind.u8.max = 255 := rfl
  simp [Lit.wf, e1, e2] at hw
  refine ⟨UInt8.ofNat n.toNat, ?_⟩
  simp only [u8, Value.int.injEq, true_and]
  have : (UInt8.ofNat n.toNat).toNat = n.toNat := UInt8.toNat_ofNat_of_lt' (by simp [UInt8.size]; omega)
  omega
theorem byte_dec (cs : List Value) (h : Fits [.int .u8] cs) : ∃ x : UInt8, cs = [u8 x] := by
  obtain ⟨_, _, rfl, a0, rfl⟩ := h
  obtain ⟨b0, rfl⟩ := fits_u8 a0
  exact ⟨b0, rfl⟩
def lcKinds : List Kd := [.int .i64, .int .i64, .int .i64, .bool]
theorem lcoin_dec (cs : List Value) (h : Fits lcKinds cs) : ∃ x : LCoin, cs = x.cells := by
  obtain ⟨_, _, rfl, a0, _, _, rfl, a1, _, _, rfl, a2, _, _, rfl, a3, rfl⟩ := h
  obtain ⟨b0, rfl⟩ := fits_i64 a0
  obtain ⟨b1, rfl⟩ := fits_i64 a1
  obtain ⟨b2, rfl⟩ := fits_i64 a2
  obtain ⟨b3, rfl⟩ := a3
  exact ⟨⟨b0, b1, b2, b3⟩, rfl⟩
def fwdKinds : List Kd := [.int .i64, .int .i64, .int .u8, .int .u8, .int .u8, .int .u8, .int .u8, .int .u8, .int .u8, .int .u8, .int .i64]
theorem fwd_dec (cs : List Value) (h : Fits fwdKinds cs) : ∃ x : FwdM, cs = x.cells := by
  obtain ⟨_, _, rfl, a0, _, _, rfl, a1, _, _, rfl, a2, _, _, rfl, a3, _, _, rfl, a4, _, _, rfl, a5, _, _, rfl, a6, _, _, rfl, a7, _, _, rfl, a8, _, _, rfl, a9, _, _, rfl, a10, rfl⟩ := h
  obtain ⟨b0, rfl⟩ := fits_i64 a0
  obtain ⟨b1, rfl⟩ := fits_i64 a1
  obtain ⟨b2, rfl⟩ := fits_u8 a2
  obtain ⟨b3, rfl⟩ := fits_u8 a3
  obtain ⟨b4, rfl⟩ := fits_u8 a4
  obtain ⟨b5, rfl⟩ := fits_u8 a5
  obtain ⟨b6, rfl⟩ := fits_u8 a6
  obtain ⟨b7, rfl⟩ := fits_u8 a7
  obtain ⟨b8, rfl⟩ := fits_u8 a8
  obtain ⟨b9, rfl⟩ := fits_u8 a9
  obtain ⟨b10, rfl⟩ := fits_i64 a10
  exact ⟨⟨b0, b1, ⟨b2, b3, b4, b5, b6, b7, b8, b9⟩, b10⟩, rfl⟩
section
variable {H : Type} {enc : TypeId × Value → H} {W : World}
theorem open_coins {v : Value} {d : DataW H} {p : List MemPlace} (h : DataW.Trod enc Tryz.prog W 0 (fun _ => true) true 22 v d p) (hv : Value.okWide Tryz.prog W .any 0 22 v) : ∃ l : List LCoin, l.length ≤ maxLen ∧ RowIn W v 4 l.length (coinsF l) :=
  Go.Sx.open_row Tryz.T_ok (t := 22) (e := 79) rfl rfl rfl (f := 8) (ks := lcKinds) rfl h hv LCoin.cells lcoin_dec default
theorem plan_types : Tryz.prog.cellTypes Tryz.prog.depth 26 = some [23, 22, 24, 5] := by kernel_rfl
set_option maxRecDepth 100000 in
theorem open_plan {v : Value} {d : DataW H} {p : List MemPlace} (h : DataW.Trod enc Tryz.prog W 0 (fun _ => true) true 26 v d p) (hv : Value.okWide Tryz.prog W .any 0 26 v) :
    ∃ q : PlanM, q.ins.length ≤ maxLen ∧ q.outs.length ≤ maxLen ∧ q.fwds.length ≤ maxLen ∧ Came W v (.box q.ac) := by
  have hv' := hv
  obtain ⟨v0, v1, v2, v3, y0, y1, y2, y3, n, rfl, _, _, h0, h1, h2, h3⟩ := Joins.open_agg4 Tryz.underlying26 (by kernel_rfl) (by kernel_rfl) hv h
  obtain ⟨l0, b0, k0⟩ := open_rowC Tryz.T_ok (t := 23) (e := 5) rfl rfl rfl (f := 8) (ks := [.int .u8]) rfl h0 (ok_cell Tryz.underlying26 plan_types hv' (i := 0) rfl rfl) (fun x => [u8 x]) byte_dec 0
  obtain ⟨l1, b1, k1⟩ := open_rowC Tryz.T_ok (t := 22) (e := 79) rfl rfl rfl (f := 8) (ks := lcKinds) rfl h1 (ok_cell Tryz.underlying26 plan_types hv' (i := 1) rfl rfl) LCoin.cells lcoin_dec default
  obtain ⟨l2, b2, k2⟩ := open_rowC Tryz.T_ok (t := 24) (e := 56) rfl rfl rfl (f := 8) (ks := fwdKinds) rfl h2 (ok_cell Tryz.underlying26 plan_types hv' (i := 2) rfl rfl) FwdM.cells fwd_dec default
  obtain ⟨x, hx⟩ := byte_dec _ (trod_fits Tryz.T_ok 8 5 [.int .u8] rfl n _ _ h3)
  cases hx
  exact ⟨⟨l0, l1, l2, x⟩, b0, b1, b2, came_box ⟨k0, k1, k2, rfl, trivial⟩⟩
end
theorem cell_lt {w : World} {a : Addr} {v : Value} (h : w.cell? a = some v) : a.block < w.heap.size := by
  by_cases hb : a.block < w.heap.size
  · exact hb
  · have e : w.heap[a.block]? = none := Array.getElem?_eq_none (by omega)
    simp [World.cell?, e] at h
theorem stepsG : Tryz.prog.globalNamed "drawbridge/hash.steps" = some 0 := by kernel_rfl
theorem stepsT : (Tryz.prog.globals[0]?).map (·.type) = some 170 := by kernel_rfl
set_option maxRecDepth 100000 in
theorem steps_came {W : World} (h : laidMetH Tryz.prog [("drawbridge/hash.steps", Rows.laid_drawbridge_hash_steps)] W) : CameX W [stepsP] := by
  rw [MakeChecks.laidMetH_plain _ _ _ (by kernel_rfl)] at h
  have hT : Lib.TabIs Tryz.prog W "drawbridge/hash.steps" .u32 stepL := Lib.tabIs_of_head (zs := stepL) (k := .u32) stepsG stepsT Tryz.underlying170 Tryz.underlying168 (by kernel_rfl) (by kernel_rfl) h
  refine ⟨came_ext ?_ fun i hi => ⟨rfl, fun j v hj => ?_⟩, trivial⟩
  · exact cell_lt (hT.cell stepsG 0 (by decide))
  · have hc := hT.cell stepsG i (by show i < 64; exact hi)
    cases j with
    | zero =>
      have hv : v = .int .u32 (stepL.getD i 0) := by simpa [wordsF, stepW, u32] using hj.symm
      rw [hv]
      show W.cell? ⟨0, i * 1 + 0, none⟩ = _
      rw [Nat.mul_one, Nat.add_zero]
      exact hc
    | succ j => simp [wordsF] at hj
theorem door_met (os : Os) (args : Array Value) : laidMetH Tryz.prog [("drawbridge/hash.steps", Rows.laid_drawbridge_hash_steps)] ((World.doorLaid Tryz.prog 14 os).forCall (fun _ _ => 0) ⟨#[], args, []⟩).memory :=
  laidMetH_of_parts3 (fuel := 8) (laidMet_of_run' 8 (by kernel_rfl) (by kernel_rfl)) (by kernel_rfl) (by kernel_rfl)
end Go.Proofs.YtmoohekgheoliaaGreatDoor
namespace Go.Proofs.YtmoohekgheoliaaGreatDoor
set_option maxRecDepth 100000
open Go.Sx Go.RowKit Go.ChangeShapes Go.WideShapes Go.ChangeAt
theorem open_i64 {H : Type} {enc : TypeId × Value → H} {W : World} {v : Value} {d : DataW H} {p : List MemPlace} (h : DataW.Trod enc Tryz.prog W 0 (fun _ => true) true 3 v d p) (hv : Value.okWide Tryz.prog W .any 0 3 v) : ∃ x : Int64, v = i64 x := by
  obtain ⟨n, rfl, _, hw⟩ := open_int Tryz.underlying3 hv h
  exact fits_i64 ⟨n, rfl, hw.2⟩
set_option maxRecDepth 100000 in
theorem checkPays_lifted (os : Os) (started : os.Started) (H : Type) (enc : TypeId × Value → H) :
    ReturnsInHanded {} Tryz.checked os 5 .any (fun w args => (Rows.checkPaysSpec.pre enc Tryz.prog Tryz.f5 [] false w args ∧ laidMetH Tryz.prog [("drawbridge/hash.steps", Rows.laid_drawbridge_hash_steps)] w) ∧ sizedMet enc Tryz.prog Tryz.f5 (OpenSpec.ofChange Rows.checkPaysSpec) false w args)
      (Rows.checkPaysSpec.post enc Tryz.prog Tryz.f5 false true false false) := by
  refine returnsInHanded_of_change_and (C := Tryz.checked) (X := fun w _ => laidMetH Tryz.prog [("drawbridge/hash.steps", Rows.laid_drawbridge_hash_steps)] w) (fun _ _ _ hh h => h.of_heap hh) own started (by kernel_rfl) Tryz.func5
    (ChangeSpec.witness_shaped (enc := enc) (C := Tryz.checked) (os := os) (X := fun w _ => laidMetH Tryz.prog [("drawbridge/hash.steps", Rows.laid_drawbridge_hash_steps)] w) false (World.doorLaid Tryz.prog 14 os) #[.slice none 0 0, .agg #[.slice none 0 0, .slice none 0 0, .slice none 0 0, .int .u8 0], .int .i64 0] 8 rfl (World.shaped_of_RefB (by kernel_rfl) (by kernel_rfl)) (by kernel_rfl) (by kernel_rfl) (by kernel_rfl) (door_met os _)) ?_
  intro W base args ds gs before hval0 hW _ _ hL _
  have hval : ∀ (j : Nat) t v, Tryz.f5.params[j]? = some t → args[j]? = some v → Value.okWide Tryz.prog W .any base t v := hval0
  have hW' := hW
  obtain ⟨p, q, hA0, hV, rfl, hfz, hnd⟩ := hW
  have hA : DataW.TrodAll enc Tryz.prog W 0 (fun _ => true) true Tryz.f5.params.toList args.toList ds p := hA0
  rw [Tryz.params5] at hA hval
  obtain ⟨v0, vs0, d0, ds0, p0, q0, hargs, rfl, rfl, h0, r0⟩ := trodAll_cons hA
  obtain ⟨v1, vs1, d1, ds1, p1, q1, rfl, rfl, rfl, h1, r1⟩ := trodAll_cons r0
  obtain ⟨v2, vs2, d2, ds2, p2, q2, rfl, rfl, rfl, h2, r2⟩ := trodAll_cons r1
  obtain ⟨rfl, rfl, rfl⟩ := trodAll_nil r2
  obtain rfl : args = #[v0, v1, v2] := by cases args; simp_all
  obtain ⟨rfl, rfl⟩ := trodVars_none hV
  obtain ⟨l, hl, k0⟩ := open_coins h0 (hval 0 22 v0 rfl rfl)
  obtain ⟨pl, b0, b1, b2, k1⟩ := open_plan h1 (hval 1 26 v1 rfl rfl)
  obtain ⟨x, rfl⟩ := open_i64 h2 (hval 2 3 v2 rfl rfl)
  clear hA0 hval0
  refine ((pays_walk awake_can @same_spec l pl x hl b0 b1 b2).calls (vs := [v0, v1, i64 x]) ⟨came_row k0, k1, came_raw, trivial⟩ (steps_came hL)).mono fun e W' ⟨v, β, he, hv, hb⟩ => ?_
  subst he
  simp only [XV.rel, CV.rel, SV.rel] at hv
  subst hv
  exact ⟨_, rfl, post_true laid hW' rfl (by kernel_rfl) hb rfl rfl (fun _ _ => trodAll_cons_mk (shut_bool Tryz.underlying4 _) trodAll_mk0)⟩
theorem checkPays_over : Rows.CheckPaysSaid :=
  OpenClaim.holds_of_wide 5 Tryz.f5 rfl rfl rfl rfl rfl rfl rfl ⟨rfl, rfl, rfl, rfl, rfl⟩ rfl rfl rfl rfl rfl (by kernel_rfl) Tryz.func5 (by kernel_rfl)
    (of_decide_eq_true (by kernel_rfl)) (by unfold Func.isWrapper; first | (rw [if_pos (by decide +kernel)]; kernel_rfl) | (rw [if_neg (by decide +kernel)]; exact ⟨rfl, rfl⟩))
    (fun os started H enc _ => checkPays_lifted os started H enc)
theorem three {P : TypeId → Prop} {a b c : TypeId} (ha : P a) (hb : P b) (hc : P c) : ∀ (j : Nat) t, (#[a, b, c] : Array TypeId)[j]? = some t → P t := by
  intro j t ht
  match j, ht with
  | 0, ht => simp at ht; subst ht; exact ha
  | 1, ht => simp at ht; subst ht; exact hb
  | 2, ht => simp at ht; subst ht; exact hc
  | j + 3, ht => simp at ht
theorem checkPays_proved : Rows.CheckPaysCardSaid :=
  Claim7.holds_tied_plain_at .later [] [.data] true (true, "d0fd2f02d7a607ea26ec6214018ecf03122ec7b8e3c6eeea03932de8c3b9d735") false
    checkPays_over (fun _ h => by cases h) (by kernel_rfl) (fun _ h => by cases h) checkPays_row_tie rfl ⟨rfl, rfl⟩ (by kernel_rfl) rfl
    (fun f fn hf hfn => by
      obtain rfl : f = 5 := Option.some.inj ((show Tryz.prog.funcNamed "drawbridge/drawbridgelaw12.CheckPays" = some 5 by kernel_rfl).symm.trans hf) |>.symm
      obtain rfl : fn = Tryz.f5 := (Option.some.inj (Tryz.func5.symm.trans hfn)).symm
      refine ⟨by kernel_rfl, ?_⟩
      rw [Tryz.params5]
      exact three (show Tryz.prog.wantsStandIn 22 = false by kernel_rfl) (show Tryz.prog.wantsStandIn 26 = false by kernel_rfl) (show Tryz.prog.wantsStandIn 3 = false by kernel_rfl))
    (by kernel_rfl)
end Go.Proofs.YtmoohekgheoliaaGreatDoor

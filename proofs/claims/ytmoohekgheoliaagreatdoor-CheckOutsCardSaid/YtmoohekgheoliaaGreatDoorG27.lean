/- Proved: whatever the input, drawbridgelaw12.CheckOuts returns true, and the input reads as it did; condition: the variable hash.steps holds what the program's text lays, and the card ties that to the text. -/
import Derived.Test.YtmoohekgheoliaaGreatDoorG26
import Derived.Test.YtmoohekgheoliaaGreatDoorG11
import Derived.Test.YtmoohekgheoliaaGreatDoorG25
import Derived.LaidMore
import Derived.LaidHandle
import Derived.MakeChecks
import Derived.Stop.Joined
import Derived.Test.YtmoohekgheoliaaGreatDoorTie
import Derived.Test.YtmoohekgheoliaaGreatDoorCards
set_option linter.unusedSimpArgs false
set_option linter.unusedVariables false
namespace Go.Proofs.YtmoohekgheoliaaGreatDoor
set_option maxRecDepth 100000
open Go.Sx Go.RowKit Go.ChangeShapes Go.WideShapes Go.ChangeAt
theorem own : ownKnob Tryz.prog.godebug = none := by kernel_rfl
theorem fits_i64 {v : Value} (h : (Kd.int .i64).fits v) : ∃ y : Int64, v = i64 y := by
  obtain ⟨n, rfl, hw⟩ := h
  have e1 : IntKind.i64.min = -9223372036854775808 := rfl
  have e2 : IntKind.i64.max = 9223372036854775807 := rfl
  simp [Lit.wf, e1, e2] at hw
  refine ⟨Int64.ofInt n, ?_⟩
  simp only [i64, Value.int.injEq, true_and]
  exact (Int64.toInt_ofInt_of_le (by omega) (by omega)).symm
theorem fits_u8 {v : Value} (h : (Kd.int .u8).fits v) : ∃ y : UInt8, v = u8 y := by
  obtain ⟨n, rfl, hw⟩ := h
  have e1 : IntKind.u8.min = 0 := rfl
  have e2 : IntKind.u8.max = 255 := rfl
  simp [Lit.wf, e1, e2] at hw
  refine ⟨UInt8.ofNat n.toNat, ?_⟩
  simp only [u8, Value.int.injEq, true_and]
  have : (UInt8.ofNat n.toNat).toNat = n.toNat := UInt8.toNat_ofNat_of_lt' (by simp [UInt8.size]; omega)
  omega
def lcKinds : List Kd := [.int .i64, .int .i64, .int .i64, .bool]
theorem lcoin_dec (cs : List Value) (h : Fits lcKinds cs) : ∃ x : LCoin, cs = x.cells := by
  obtain ⟨_, _, rfl, a0, _, _, rfl, a1, _, _, rfl, a2, _, _, rfl, a3, rfl⟩ := h
  obtain ⟨b0, rfl⟩ := fits_i64 a0
  obtain ⟨b1, rfl⟩ := fits_i64 a1
  obtain ⟨b2, rfl⟩ := fits_i64 a2
  obtain ⟨b3, rfl⟩ := a3
  exact ⟨⟨b0, b1, b2, b3⟩, rfl⟩
section
variable {H : Type} {enc : TypeId × Value → H} {W : World}
theorem open_coins {v : Value} {d : DataW H} {p : List MemPlace} (h : DataW.Trod enc Tryz.prog W 0 (fun _ => true) true 22 v d p) (hv : Value.okWide Tryz.prog W .any 0 22 v) : ∃ l : List LCoin, l.length ≤ maxLen ∧ RowIn W v 4 l.length (coinsF l) :=
  Go.Sx.open_row Tryz.T_ok (t := 22) (e := 79) rfl rfl rfl (f := 8) (ks := lcKinds) rfl h hv LCoin.cells lcoin_dec default
end
theorem cell_lt {w : World} {a : Addr} {v : Value} (h : w.cell? a = some v) : a.block < w.heap.size := by
  by_cases hb : a.block < w.heap.size
  · exact hb
  · have e : w.heap[a.block]? = none := Array.getElem?_eq_none (by omega)
    simp [World.cell?, e] at h
theorem stepsG : Tryz.prog.globalNamed "drawbridge/hash.steps" = some 0 := by kernel_rfl
theorem stepsT : (Tryz.prog.globals[0]?).map (·.type) = some 170 := by kernel_rfl
set_option maxRecDepth 100000 in
theorem steps_came {W : World} (h : laidMetH Tryz.prog [("drawbridge/hash.steps", Rows.laid_drawbridge_hash_steps)] W) : CameX W [stepsP] := by
  rw [MakeChecks.laidMetH_plain _ _ _ (by kernel_rfl)] at h
  have hT : Lib.TabIs Tryz.prog W "drawbridge/hash.steps" .u32 stepL := Lib.tabIs_of_head (zs := stepL) (k := .u32) stepsG stepsT Tryz.underlying170 Tryz.underlying168 (by kernel_rfl) (by kernel_rfl) h
  refine ⟨came_ext ?_ fun i hi => ⟨rfl, fun j v hj => ?_⟩, trivial⟩
  · exact cell_lt (hT.cell stepsG 0 (by decide))
  · have hc := hT.cell stepsG i (by show i < 64; exact hi)
    cases j with
    | zero =>
      have hv : v = .int .u32 (stepL.getD i 0) := by simpa [wordsF, stepW, u32] using hj.symm
      rw [hv]
      show W.cell? ⟨0, i * 1 + 0, none⟩ = _
      rw [Nat.mul_one, Nat.add_zero]
      exact hc
    | succ j => simp [wordsF] at hj
theorem door_met (os : Os) (args : Array Value) : laidMetH Tryz.prog [("drawbridge/hash.steps", Rows.laid_drawbridge_hash_steps)] ((World.doorLaid Tryz.prog 14 os).forCall (fun _ _ => 0) ⟨#[], args, []⟩).memory :=
  laidMetH_of_parts3 (fuel := 8) (laidMet_of_run' 8 (by kernel_rfl) (by kernel_rfl)) (by kernel_rfl) (by kernel_rfl)
end Go.Proofs.YtmoohekgheoliaaGreatDoor
namespace Go.Proofs.YtmoohekgheoliaaGreatDoor
set_option maxRecDepth 100000
open Go.Sx Go.RowKit Go.ChangeShapes Go.WideShapes Go.ChangeAt
theorem open_two {H : Type} {enc : TypeId × Value → H} {W : World} {v : Value} {d : DataW H} {p : List MemPlace} (h : DataW.Trod enc Tryz.prog W 0 (fun _ => true) true 85 v d p) (hv : Value.okWide Tryz.prog W .any 0 85 v) : ∃ (x y : UInt8) (arr : Array Value), v = .agg arr ∧ arr.toList = [u8 x, u8 y] := by
  simp only [Value.okWide, Tryz.underlying85] at hv
  obtain ⟨arr, rfl, _, _⟩ := hv
  obtain ⟨fuel, hf⟩ := h
  obtain ⟨_, _, e0, a0, _, _, e1, a1, e2⟩ := trod_fits Tryz.T_ok 8 85 [.int .u8, .int .u8] rfl fuel _ _ hf
  obtain ⟨x, hx⟩ := fits_u8 a0
  obtain ⟨y, hy⟩ := fits_u8 a1
  refine ⟨x, y, arr, rfl, ?_⟩
  have e : (Value.agg arr).cells.toList = arr.toList := rfl
  rw [← e, e0, e1, e2, hx, hy]
theorem came_agg2 {W : World} {arr : Array Value} {x y : UInt8} (h : arr.toList = [u8 x, u8 y]) : Came W (.agg arr) (.plain (.agg [.raw (u8 x), .raw (u8 y)])) :=
  ⟨[default], rfl, fun i β0 _ => ⟨⟨arr, rfl, _, _, h, rfl, _, _, rfl, rfl, rfl⟩, fun c ch h => by cases h⟩⟩
set_option maxRecDepth 100000 in
theorem checkOuts_lifted (os : Os) (started : os.Started) (H : Type) (enc : TypeId × Value → H) :
    ReturnsInHanded {} Tryz.checked os 6 .any (fun w args => (Rows.checkOutsSpec.pre enc Tryz.prog Tryz.f6 [] false w args ∧ laidMetH Tryz.prog [("drawbridge/hash.steps", Rows.laid_drawbridge_hash_steps)] w) ∧ sizedMet enc Tryz.prog Tryz.f6 (OpenSpec.ofChange Rows.checkOutsSpec) false w args)
      (Rows.checkOutsSpec.post enc Tryz.prog Tryz.f6 false true false false) := by
  refine returnsInHanded_of_change_and (C := Tryz.checked) (X := fun w _ => laidMetH Tryz.prog [("drawbridge/hash.steps", Rows.laid_drawbridge_hash_steps)] w) (fun _ _ _ hh h => h.of_heap hh) own started (by kernel_rfl) Tryz.func6
    (ChangeSpec.witness_shaped (enc := enc) (C := Tryz.checked) (os := os) (X := fun w _ => laidMetH Tryz.prog [("drawbridge/hash.steps", Rows.laid_drawbridge_hash_steps)] w) false (World.doorLaid Tryz.prog 14 os) #[.slice none 0 0, .slice none 0 0, .agg #[.int .u8 0, .int .u8 0]] 8 rfl (World.shaped_of_RefB (by kernel_rfl) (by kernel_rfl)) (by kernel_rfl) (by kernel_rfl) (by kernel_rfl) (door_met os _)) ?_
  intro W base args ds gs before hval0 hW _ _ hL _
  have hval : ∀ (j : Nat) t v, Tryz.f6.params[j]? = some t → args[j]? = some v → Value.okWide Tryz.prog W .any base t v := hval0
  have hW' := hW
  obtain ⟨p, q, hA0, hV, rfl, hfz, hnd⟩ := hW
  have hA : DataW.TrodAll enc Tryz.prog W 0 (fun _ => true) true Tryz.f6.params.toList args.toList ds p := hA0
  rw [Tryz.params6] at hA hval
  obtain ⟨v0, vs0, d0, ds0, p0, q0, hargs, rfl, rfl, h0, r0⟩ := trodAll_cons hA
  obtain ⟨v1, vs1, d1, ds1, p1, q1, rfl, rfl, rfl, h1, r1⟩ := trodAll_cons r0
  obtain ⟨v2, vs2, d2, ds2, p2, q2, rfl, rfl, rfl, h2, r2⟩ := trodAll_cons r1
  obtain ⟨rfl, rfl, rfl⟩ := trodAll_nil r2
  obtain rfl : args = #[v0, v1, v2] := by cases args; simp_all
  obtain ⟨rfl, rfl⟩ := trodVars_none hV
  obtain ⟨l, hl, k0⟩ := open_coins h0 (hval 0 22 v0 rfl rfl)
  obtain ⟨outs, hl1, k1⟩ := open_coins h1 (hval 1 22 v1 rfl rfl)
  obtain ⟨x, y, arr, rfl, hxy⟩ := open_two h2 (hval 2 85 v2 rfl rfl)
  clear hA0 hval0
  refine ((outs_walk awake_can @same_spec l outs x y hl hl1).calls (vs := [v0, v1, .agg arr]) ⟨came_row k0, came_row k1, came_agg2 hxy, trivial⟩ (steps_came hL)).mono fun e W' ⟨v, β, he, hv, hb⟩ => ?_
  subst he
  simp only [XV.rel, CV.rel, SV.rel] at hv
  subst hv
  exact ⟨_, rfl, post_true laid hW' rfl (by kernel_rfl) hb rfl rfl (fun _ _ => trodAll_cons_mk (shut_bool Tryz.underlying4 _) trodAll_mk0)⟩
theorem checkOuts_over : Rows.CheckOutsSaid :=
  OpenClaim.holds_of_wide 6 Tryz.f6 rfl rfl rfl rfl rfl rfl rfl ⟨rfl, rfl, rfl, rfl, rfl⟩ rfl rfl rfl rfl rfl (by kernel_rfl) Tryz.func6 (by kernel_rfl)
    (of_decide_eq_true (by kernel_rfl)) (by unfold Func.isWrapper; first | (rw [if_pos (by decide +kernel)]; kernel_rfl) | (rw [if_neg (by decide +kernel)]; exact ⟨rfl, rfl⟩))
    (fun os started H enc _ => checkOuts_lifted os started H enc)
theorem three {P : TypeId → Prop} {a b c : TypeId} (ha : P a) (hb : P b) (hc : P c) : ∀ (j : Nat) t, (#[a, b, c] : Array TypeId)[j]? = some t → P t := by
  intro j t ht
  match j, ht with
  | 0, ht => simp at ht; subst ht; exact ha
  | 1, ht => simp at ht; subst ht; exact hb
  | 2, ht => simp at ht; subst ht; exact hc
  | j + 3, ht => simp at ht
theorem checkOuts_proved : Rows.CheckOutsCardSaid :=
  Claim7.holds_tied_plain_at .later [] [.data] true (true, "d0fd2f02d7a607ea26ec6214018ecf03122ec7b8e3c6eeea03932de8c3b9d735") false
    checkOuts_over (fun _ h => by cases h) (by kernel_rfl) (fun _ h => by cases h) checkOuts_row_tie rfl ⟨rfl, rfl⟩ (by kernel_rfl) rfl
    (fun f fn hf hfn => by
      obtain rfl : f = 6 := Option.some.inj ((show Tryz.prog.funcNamed "drawbridge/drawbridgelaw12.CheckOuts" = some 6 by kernel_rfl).symm.trans hf) |>.symm
      obtain rfl : fn = Tryz.f6 := (Option.some.inj (Tryz.func6.symm.trans hfn)).symm
      refine ⟨by kernel_rfl, ?_⟩
      rw [Tryz.params6]
      exact three (show Tryz.prog.wantsStandIn 22 = false by kernel_rfl) (show Tryz.prog.wantsStandIn 22 = false by kernel_rfl) (show Tryz.prog.wantsStandIn 85 = false by kernel_rfl))
    (by kernel_rfl)
end Go.Proofs.YtmoohekgheoliaaGreatDoor

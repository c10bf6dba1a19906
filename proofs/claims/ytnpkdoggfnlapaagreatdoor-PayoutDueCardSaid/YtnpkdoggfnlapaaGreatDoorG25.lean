/- Parts Bv Zn Bw. -/
import Derived.Test.YtnpkdoggfnlapaaGreatDoorG24
import Derived.Test.YtnpkdoggfnlapaaGreatDoorG12
import Derived.LaidMore
import Derived.LaidHandle
import Derived.MakeChecks
import Derived.Stop.Joined
set_option linter.unusedSimpArgs false
set_option linter.unusedVariables false
namespace Go.Proofs.YtnpkdoggfnlapaaGreatDoor
set_option maxRecDepth 100000
open Go.Sx
def dueS (a b c : Int64) (ce : Bool) : SideM := { side0 with par := ⟨b.toInt, c.toInt, 0, []⟩, made := a.toInt, ceased := ce }
theorem i64_lt (a : Int64) : -9223372036854775808 ≤ a.toInt ∧ a.toInt < 9223372036854775808 := ⟨a.le_toInt, a.toInt_lt⟩
theorem due_yes {x : SideM} {h e : Int} (hh : -9223372036854775808 ≤ h ∧ h < 9223372036854775808) (hd : dueX x h = (e, true)) : x.ceased = false ∧ 0 ≤ e ∧ e ≤ 400 ∧ wr (endsX x e + x.par.win) = h ∧ 1 ≤ x.par.len := by
  unfold dueX at hd
  by_cases h1 : x.ceased = true
  · rw [if_pos h1] at hd; cases hd
  rw [if_neg h1] at hd
  obtain ⟨⟨e1, ok⟩, hp⟩ : ∃ p, epochX x (wr (h - x.par.win)) = p := ⟨_, rfl⟩
  rw [hp] at hd
  dsimp only at hd
  by_cases h2 : (!ok || (decide (400 < e1) || endsX x e1 != wr (h - x.par.win))) = true
  · rw [if_pos h2] at hd; cases hd
  rw [if_neg h2] at hd
  obtain rfl : e1 = e := congrArg Prod.fst hd
  simp only [Bool.or_eq_true, Bool.not_eq_true', decide_eq_true_eq, bne_iff_ne, ne_eq, not_or, Bool.not_eq_false, Decidable.not_not] at h2
  obtain ⟨h2, h3, h4⟩ := h2
  subst h2
  unfold epochX at hp
  by_cases h5 : (!timedB x || decide (wr (h - x.par.win) ≤ x.made)) = true
  · rw [if_pos h5] at hp; cases hp
  rw [if_neg h5] at hp
  simp only [Bool.or_eq_true, Bool.not_eq_true', decide_eq_true_eq, not_or, Bool.not_eq_false] at h5
  obtain ⟨h5, h6⟩ := h5
  obtain ⟨t1, t2, t3⟩ := timed_iff.1 h5
  have hw := IntKind.wrap_i64 (h - x.par.win)
  have hr : -9223372036854775808 ≤ wr (h - x.par.win) ∧ wr (h - x.par.win) < 9223372036854775808 := by rw [wr, hw]; omega
  have he : e1 = wr ((wr (wr (wr (h - x.par.win) - x.made) - 1)).tdiv x.par.len) := (congrArg Prod.fst hp).symm
  obtain ⟨g, hg⟩ : ∃ g, wr (h - x.par.win) = g := ⟨_, rfl⟩
  rw [hg] at hr h6 he h4
  rw [show wr (g - x.made) = g - x.made from wrap_id (by omega), show wr (g - x.made - 1) = g - x.made - 1 from wrap_id (by omega)] at he
  have hnn : 0 ≤ (g - x.made - 1).tdiv x.par.len := Int.tdiv_nonneg (by omega) (by omega)
  have hle : (g - x.made - 1).tdiv x.par.len ≤ g - x.made - 1 := Int.tdiv_le_self _ (by omega)
  rw [show wr ((g - x.made - 1).tdiv x.par.len) = (g - x.made - 1).tdiv x.par.len from wrap_id (by omega)] at he
  refine ⟨by simpa using h1, by omega, by omega, ?_, t1.1⟩
  rw [h4, ← hg, wr, wr, IntKind.wrap_i64, IntKind.wrap_i64]
  omega
theorem due_no {x : SideM} {h : Int} (hd : (dueX x h).2 = false) (h1 : x.ceased = false) (h2 : 0 ≤ x.made ∧ x.made ≤ 400) (h3 : 1 ≤ x.par.len ∧ x.par.len ≤ 64) (h4 : 0 ≤ x.par.win ∧ x.par.win ≤ 64) (h5 : 0 ≤ h ∧ h ≤ 30000) {k : Nat} (hk : k ≤ 400) : wr (endsX x (k : Int) + x.par.win) ≠ h := by
  intro hc
  have ht : timedB x = true := timed_iff.2 ⟨h3, h4, h2⟩
  have hwi : withinB (k : Int) 0 400 = true := by rw [withinB, decide_eq_true (show (0 : Int) ≤ (k : Int) by omega), decide_eq_true (show (k : Int) ≤ 400 by omega)]; rfl
  have hm1 : 0 ≤ ((k : Int) + 1) * x.par.len := Int.mul_nonneg (by omega) (by omega)
  have hm2 : ((k : Int) + 1) * x.par.len ≤ 401 * 64 := Int.mul_le_mul (by omega) h3.2 (by omega) (by omega)
  have he : endsX x (k : Int) = x.made + ((k : Int) + 1) * x.par.len := by
    rw [endsX, ht, hwi, if_neg (by decide), show wr ((k : Int) + 1) = (k : Int) + 1 from wrap_id (by omega), show wr (((k : Int) + 1) * x.par.len) = ((k : Int) + 1) * x.par.len from wrap_id (by omega)]
    exact wrap_id (by omega)
  rw [he, show wr (x.made + ((k : Int) + 1) * x.par.len + x.par.win) = x.made + ((k : Int) + 1) * x.par.len + x.par.win from wrap_id (by omega)] at hc
  have hg : wr (h - x.par.win) = x.made + ((k : Int) + 1) * x.par.len := by rw [← hc]; rw [show x.made + ((k : Int) + 1) * x.par.len + x.par.win - x.par.win = x.made + ((k : Int) + 1) * x.par.len by omega]; exact wrap_id (by omega)
  have hl1 : x.par.len ≤ ((k : Int) + 1) * x.par.len := by
    have := Int.mul_le_mul_of_nonneg_right (show (1 : Int) ≤ (k : Int) + 1 by omega) (show 0 ≤ x.par.len by omega)
    rw [Int.one_mul] at this
    exact this
  have hep : epochX x (wr (h - x.par.win)) = ((k : Int), true) := by
    rw [hg, epochX, ht, if_neg (by rw [Bool.not_true, Bool.false_or, decide_eq_true_eq]; omega)]
    rw [show wr (x.made + ((k : Int) + 1) * x.par.len - x.made) = ((k : Int) + 1) * x.par.len by rw [show x.made + ((k : Int) + 1) * x.par.len - x.made = ((k : Int) + 1) * x.par.len by omega]; exact wrap_id (by omega)]
    rw [show wr (((k : Int) + 1) * x.par.len - 1) = ((k : Int) + 1) * x.par.len - 1 from wrap_id (by omega)]
    have hdv : (((k : Int) + 1) * x.par.len - 1).tdiv x.par.len = (k : Int) := by
      rw [Int.tdiv_eq_ediv_of_nonneg (by omega), show ((k : Int) + 1) * x.par.len - 1 = (x.par.len - 1) + (k : Int) * x.par.len by rw [Int.add_mul]; omega, Int.add_mul_ediv_right _ _ (by omega), Int.ediv_eq_zero_of_lt (by omega) (by omega), Int.zero_add]
    rw [hdv, show wr (k : Int) = (k : Int) from wrap_id (by omega)]
  rw [dueX, h1, if_neg (by simp), hep] at hd
  dsimp only at hd
  rw [he, hg, decide_eq_false (show ¬ (400 : Int) < (k : Int) by omega), if_neg (by simp)] at hd
  cases hd
def pdSt (n0 n1 n2 n3 h : Int64) (ce : Bool) (k : Nat) : St :=
  ⟨[none, some (XV.int .i64 h.toInt), some (XV.bool ce), some (XV.sv (.ptr 4 0 0 0)), none, none, none, some (XV.sv (.ptr 5 0 0 0)), none, none, some (XV.int .i64 k)] ++ List.replicate 95 none,
   [(3, .ext stepsP), (4, .cells 86 [.raw (.int .i64 n0.toInt), .raw (.int .i64 n1.toInt), .raw (.int .i64 n2.toInt), .raw (.int .i64 n3.toInt)]), (5, .cells 68 (sideCells (dueS n0 n1 n2 ce) nilV nilV nilV nilV))], 6⟩
set_option maxHeartbeats 8000000 in
theorem payoutDue_walk (n0 n1 n2 n3 h : Int64) (ce : Bool) : Reads Tryz.prog 7 [.plain (.agg [.raw (.int .i64 n0.toInt), .raw (.int .i64 n1.toInt), .raw (.int .i64 n2.toInt), .raw (.int .i64 n3.toInt)]), .plain (.one (.raw (.int .i64 h.toInt))), .plain (.one (.raw (.bool ce)))] [stepsP] (XV.bool true) := by
  have l0 := i64_lt n0
  have l1 := i64_lt n1
  have l2 := i64_lt n2
  have lh := i64_lt h
  have kd := due_can (dueS n0 n1 n2 ce) h.toInt
  have hno := @due_no (dueS n0 n1 n2 ce) h.toInt
  have hyes := @due_yes (dueS n0 n1 n2 ce) h.toInt
  obtain ⟨⟨e, ok⟩, hp⟩ : ∃ p, dueX (dueS n0 n1 n2 ce) h.toInt = p := ⟨_, rfl⟩
  rw [hp] at kd hno
  dsimp only at kd hno
  refine Reads.of Tryz.T_ok Tryz.func7 rfl _ _ _ rfl rfl (fun C hC => ?_)
  (replace hC : C.n0 = 4 := hC; change Tri _ _ _ ⟨_, _, 4⟩ _)
  (refine Tri.cut 4 Tryz.mixed Tryz.T_ok ?_; refine xZ ?_)
  (apply wP; exact (call_op rfl (entersB_of Tryz.func26 (by kernel_rfl)) rfl (awake15.at [3] trivial ⟨lend_ext (c := 3) rfl rfl, trivial⟩)); refine xZ ?_)
  (apply wP; exact (call_op rfl (entersB_of Tryz.func27 (by kernel_rfl)) rfl (kd.at [] ⟨lend_side (x := dueS n0 n1 n2 ce) (lend_nil _ _) (lend_nil _ _) (lend_nil _ _) (lend_nil _ _), lend_plain rfl, trivial⟩ trivial)); refine xZ ?_)
  refine wD <| cutG <| Tri.seq ?_
  (refine Tri.cut 1 Tryz.mixed Tryz.T_ok ?_; refine xZ ?_)
  refine wD <| cutG <| Tri.cond (b := !ok) rfl (fun h1 => ?_) (fun h1 => ?_)
  · have hok : ok = false := by simpa using h1
    (refine Tri.cut 1 Tryz.mixed Tryz.T_ok ?_; refine xZ ?_)
    refine wC (fun h2 => ?_) (fun h2 => ?_)
    · (refine xG ?_)
      exact wD <| cutR <| cutR <| Ends.plain (.inr rfl) rfl rfl
    (refine xG ?_)
    refine wC (fun h3 => ?_) (fun h3 => ?_)
    · (refine xG ?_)
      exact wD <| cutR <| cutR <| Ends.plain (.inr rfl) rfl rfl
    (refine xG ?_)
    refine wC (fun h4 => ?_) (fun h4 => ?_)
    · (refine xG ?_)
      exact wD <| cutR <| cutR <| Ends.plain (.inr rfl) rfl rfl
    (refine xG ?_)
    refine wC (fun h5 => ?_) (fun h5 => ?_)
    · (refine xG ?_)
      exact wD <| cutR <| cutR <| Ends.plain (.inr rfl) rfl rfl
    (refine xG ?_)
    refine wC (fun h6 => ?_) (fun h6 => ?_)
    · (refine xG ?_)
      exact wD <| cutR <| cutR <| Ends.plain (.inr rfl) rfl rfl
    (refine xG ?_)
    refine wC (fun h7 => ?_) (fun h7 => ?_)
    · (refine xG ?_)
      exact wD <| cutR <| cutR <| Ends.plain (.inr rfl) rfl rfl
    (refine xG ?_)
    refine wC (fun h8 => ?_) (fun h8 => ?_)
    · (refine xG ?_)
      exact wD <| cutR <| cutR <| Ends.plain (.inr rfl) rfl rfl
    (refine xG ?_)
    refine wC (fun h9 => ?_) (fun h9 => ?_)
    · (refine xG ?_)
      exact wD <| cutR <| cutR <| Ends.plain (.inr rfl) rfl rfl
    (refine xG ?_)
    refine wC (fun h10 => ?_) (fun h10 => ?_)
    · (refine xG ?_)
      exact wD <| cutR <| cutR <| Ends.plain (.inr rfl) rfl rfl
    (refine xG ?_)
    simp only [decide_eq_false_iff_not] at h3 h4 h5 h6 h7 h8 h9 h10
    have hall : ∀ k : Nat, k ≤ 400 → wr (endsX (dueS n0 n1 n2 ce) (k : Int) + n2.toInt) ≠ h.toInt := fun k hk => hno hok h2 ⟨by show 0 ≤ n0.toInt; omega, by show n0.toInt ≤ 400; omega⟩ ⟨by show 1 ≤ n1.toInt; omega, by show n1.toInt ≤ 64; omega⟩ ⟨by show 0 ≤ n2.toInt; omega, by show n2.toInt ≤ 64; omega⟩ ⟨by omega, by omega⟩ hk
    refine wD <| cutG <| Tri.seq ?_
    (refine Tri.cut 1 Tryz.mixed Tryz.T_ok ?_; refine xZ ?_)
    refine wD <| cutG <| Tri.block ?_
    refine Tri.loop (α := { k : Nat // k ≤ 401 }) (fun k => pdSt n0 n1 n2 n3 h ce k.1) (fun k => 401 - k.1) ⟨0, Nat.zero_le _⟩ ?_ ?_
    · unfold pdSt
      ((try dsimp only); refine Ent.renC [0, 1, 2, 3, 4, 17] hC ?_ ?_ <;> repeat' (first | exact trivial | exact rfl | exact ⟨_, rfl, rfl, rfl, Nat.le_refl _, fun _ _ => rfl⟩ | exact ⟨_, rfl, rfl, rfl, fun _ _ => rfl⟩ | exact ⟨_, rfl, rfl, rfl⟩ | exact ⟨_, rfl, rfl⟩ | refine ⟨_, rfl, rfl, rfl, by omega, fun k hk => ?_⟩ | refine ⟨?_, ?_⟩ | fail))
    rintro ⟨k, hk⟩
    dsimp only
    unfold pdSt
    have ke := ends_can (dueS n0 n1 n2 ce) (k : Int)
    (refine Tri.cut 1 Tryz.mixed Tryz.T_ok ?_; refine xZ ?_)
    refine wC (fun k1 => ?_) (fun k1 => ?_)
    · (refine xG ?_)
      have k1' : k ≤ 400 := xW
      have hw : IntKind.i64.wrap ((k : Int) + 1) = ((k + 1 : Nat) : Int) := xW
      have hne := hall k k1'
      obtain ⟨E, hE⟩ : ∃ E, endsX (dueS n0 n1 n2 ce) (k : Int) = E := ⟨_, rfl⟩
      rw [hE] at ke hne
      refine wD <| cutG <| Tri.seq <| Tri.block <| Tri.of Tryz.mixed Tryz.T_ok ?_
      (refine xB ?_)
      (apply wP; exact (call_op rfl (entersB_of Tryz.func28 (by kernel_rfl)) rfl (ke.at [] ⟨lend_side (x := dueS n0 n1 n2 ce) (lend_nil _ _) (lend_nil _ _) (lend_nil _ _) (lend_nil _ _), lend_plain rfl, trivial⟩ trivial)); refine xZ ?_)
      refine wFd (beq_eq_false_iff_ne.2 hne) ?_
      (refine xG ?_)
      refine wD <| blockN <| cutG <| Tri.of Tryz.mixed Tryz.T_ok ?_
      (refine xB ?_)
      refine wD <| loopN ⟨⟨k + 1, by omega⟩, by dsimp only; omega, ?_⟩
      rw [hw]
      ((try dsimp only); refine Ent.renC [0, 1, 2, 3, 4, 5] hC ?_ ?_ <;> repeat' (first | exact trivial | exact rfl | exact ⟨_, rfl, rfl, rfl, Nat.le_refl _, fun _ _ => rfl⟩ | exact ⟨_, rfl, rfl, rfl, fun _ _ => rfl⟩ | exact ⟨_, rfl, rfl, rfl⟩ | exact ⟨_, rfl, rfl⟩ | refine ⟨_, rfl, rfl, rfl, by omega, fun k hk => ?_⟩ | refine ⟨?_, ?_⟩ | fail))
    · (refine xG ?_)
      refine wD <| cutE <| loopX <| blockX <| cutG <| Tri.of Tryz.mixed Tryz.T_ok ?_
      (refine xB ?_)
      exact wD <| cutR <| Ends.plain (.inr rfl) rfl rfl
  · have hok : ok = true := by simpa using h1
    subst hok
    obtain ⟨y1, y2, y3, y4, y5⟩ := hyes lh hp
    have y1' : ce = false := y1
    have ke := ends_can (dueS n0 n1 n2 ce) e
    change wr (endsX (dueS n0 n1 n2 ce) e + n2.toInt) = h.toInt at y4
    change 1 ≤ n1.toInt at y5
    obtain ⟨E, hE⟩ : ∃ E, endsX (dueS n0 n1 n2 ce) e = E := ⟨_, rfl⟩
    rw [hE] at ke y4
    refine Tri.skip <| cutG <| Tri.of Tryz.mixed Tryz.T_ok ?_
    (refine xB ?_)
    refine wTd (by rw [y1']; rfl) ?_
    (refine xG ?_)
    refine wTd (decide_eq_true y2) ?_
    (refine xG ?_)
    refine wTd (decide_eq_true y3) ?_
    (refine xG ?_)
    (apply wP; exact (call_op rfl (entersB_of Tryz.func28 (by kernel_rfl)) rfl (ke.at [] ⟨lend_side (x := dueS n0 n1 n2 ce) (lend_nil _ _) (lend_nil _ _) (lend_nil _ _) (lend_nil _ _), lend_plain rfl, trivial⟩ trivial)); refine xZ ?_)
    refine wTd (beq_iff_eq.2 y4) ?_
    (refine xG ?_)
    exact wD (Ends.plain (.inr rfl) rfl (congrArg (fun b : Bool => XV.bool b) (decide_eq_true y5)))
end Go.Proofs.YtnpkdoggfnlapaaGreatDoor
namespace Go.Proofs.YtnpkdoggfnlapaaGreatDoor
set_option maxRecDepth 100000
open Go.Sx Go.RowKit Go.ChangeShapes Go.WideShapes Go.ChangeAt
theorem own : ownKnob Tryz.prog.godebug = none := by kernel_rfl
theorem fits_i64 {v : Value} (h : (Kd.int .i64).fits v) : ∃ y : Int64, v = i64 y := by
  obtain ⟨n, rfl, hw⟩ := h
  have e1 : IntKind.i64.min = -9223372036854775808 := rfl
  have e2 : IntKind.i64.max = 9223372036854775807 := rfl
  simp [Lit.wf, e1, e2] at hw
  refine ⟨Int64.ofInt n, ?_⟩
  simp only [i64, Value.int.injEq, true_and]
  exact (Int64.toInt_ofInt_of_le (by omega) (by omega)).symm
section
variable {H : Type} {enc : TypeId × Value → H} {W : World}
end
theorem cell_lt {w : World} {a : Addr} {v : Value} (h : w.cell? a = some v) : a.block < w.heap.size := by
  by_cases hb : a.block < w.heap.size
  · exact hb
  · have e : w.heap[a.block]? = none := Array.getElem?_eq_none (by omega)
    simp [World.cell?, e] at h
theorem stepsG : Tryz.prog.globalNamed "drawbridge/hash.steps" = some 0 := by kernel_rfl
theorem stepsT : (Tryz.prog.globals[0]?).map (·.type) = some 227 := by kernel_rfl
set_option maxRecDepth 100000 in
theorem steps_came {W : World} (h : laidMetH Tryz.prog [("drawbridge/hash.steps", Rows.laid_drawbridge_hash_steps)] W) : CameX W [stepsP] := by
  rw [MakeChecks.laidMetH_plain _ _ _ (by kernel_rfl)] at h
  have hT : Lib.TabIs Tryz.prog W "drawbridge/hash.steps" .u32 stepL := Lib.tabIs_of_head (zs := stepL) (k := .u32) stepsG stepsT Tryz.underlying227 Tryz.underlying225 (by kernel_rfl) (by kernel_rfl) h
  refine ⟨came_ext ?_ fun i hi => ⟨rfl, fun j v hj => ?_⟩, trivial⟩
  · exact cell_lt (hT.cell stepsG 0 (by decide))
  · have hc := hT.cell stepsG i (by show i < 64; exact hi)
    cases j with
    | zero =>
      have hv : v = .int .u32 (stepL.getD i 0) := by simpa [wordsF, stepW, u32] using hj.symm
      rw [hv]
      show W.cell? ⟨0, i * 1 + 0, none⟩ = _
      rw [Nat.mul_one, Nat.add_zero]
      exact hc
    | succ j => simp [wordsF] at hj
theorem door_met (os : Os) (args : Array Value) : laidMetH Tryz.prog [("drawbridge/hash.steps", Rows.laid_drawbridge_hash_steps)] ((World.doorLaid Tryz.prog 14 os).forCall (fun _ _ => 0) ⟨#[], args, []⟩).memory :=
  laidMetH_of_parts3 (fuel := 8) (laidMet_of_run' 8 (by kernel_rfl) (by kernel_rfl)) (by kernel_rfl) (by kernel_rfl)
end Go.Proofs.YtnpkdoggfnlapaaGreatDoor
namespace Go.Proofs.YtnpkdoggfnlapaaGreatDoor
set_option maxRecDepth 100000
open Go.Sx Go.RowKit Go.ChangeShapes Go.WideShapes Go.ChangeAt
theorem open_i64 {H : Type} {enc : TypeId × Value → H} {W : World} {v : Value} {d : DataW H} {p : List MemPlace} (h : DataW.Trod enc Tryz.prog W 0 (fun _ => true) true 3 v d p) (hv : Value.okWide Tryz.prog W .any 0 3 v) : ∃ x : Int64, v = i64 x := by
  obtain ⟨n, rfl, _, hw⟩ := open_int Tryz.underlying3 hv h
  exact fits_i64 ⟨n, rfl, hw.2⟩
theorem open_quad {H : Type} {enc : TypeId × Value → H} {W : World} {v : Value} {d : DataW H} {p : List MemPlace} (h : DataW.Trod enc Tryz.prog W 0 (fun _ => true) true 86 v d p) (hv : Value.okWide Tryz.prog W .any 0 86 v) : ∃ (x y z t : Int64) (arr : Array Value), v = .agg arr ∧ arr.toList = [i64 x, i64 y, i64 z, i64 t] := by
  simp only [Value.okWide, Tryz.underlying86] at hv
  obtain ⟨arr, rfl, _, _⟩ := hv
  obtain ⟨fuel, hf⟩ := h
  obtain ⟨_, _, e0, a0, _, _, e1, a1, _, _, e2, a2, _, _, e3, a3, e4⟩ := trod_fits Tryz.T_ok 8 86 [.int .i64, .int .i64, .int .i64, .int .i64] rfl fuel _ _ hf
  obtain ⟨x, hx⟩ := fits_i64 a0
  obtain ⟨y, hy⟩ := fits_i64 a1
  obtain ⟨z, hz⟩ := fits_i64 a2
  obtain ⟨t, ht⟩ := fits_i64 a3
  refine ⟨x, y, z, t, arr, rfl, ?_⟩
  have e : (Value.agg arr).cells.toList = arr.toList := rfl
  rw [← e, e0, e1, e2, e3, e4, hx, hy, hz, ht]
theorem came_quad {W : World} {arr : Array Value} {x y z t : Int64} (h : arr.toList = [i64 x, i64 y, i64 z, i64 t]) : Sx.Came W (.agg arr) (.plain (.agg [.raw (.int .i64 x.toInt), .raw (.int .i64 y.toInt), .raw (.int .i64 z.toInt), .raw (.int .i64 t.toInt)])) :=
  ⟨[default], rfl, fun i β0 _ => ⟨⟨arr, rfl, _, _, h, rfl, _, _, rfl, rfl, _, _, rfl, rfl, _, _, rfl, rfl, rfl⟩, fun c ch h => by cases h⟩⟩
end Go.Proofs.YtnpkdoggfnlapaaGreatDoor

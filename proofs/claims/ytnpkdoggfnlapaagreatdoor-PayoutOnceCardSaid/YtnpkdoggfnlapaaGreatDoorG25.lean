/- Parts Bu Ka Kb Bx. -/
import Derived.Test.YtnpkdoggfnlapaaGreatDoorG24
import Derived.Test.YtnpkdoggfnlapaaGreatDoorG21
set_option linter.unusedSimpArgs false
set_option linter.unusedVariables false
namespace Go.Proofs.YtnpkdoggfnlapaaGreatDoor
set_option maxRecDepth 100000
open Go.Sx
theorem lend_plan14 {M : Mem} {rd : List Nat} {p : Plan14} {k s : SV} (h1 : Lends M rd (.one k) (.row 1 p.am.length (intsF p.ams))) (h2 : Lends M rd (.one s) (.row 1 p.who.length (rowB p.who))) : Lends M rd (.agg [.raw (.int .i64 p.side), .raw (.int .i64 p.ep), .raw (.int .i64 p.qual), k, s, .raw (u8 p.bend)]) (.box p.ac) :=
  lend_box ⟨rfl, rfl, rfl, h1, h2, rfl, trivial⟩
def aw15a (L : List SideM) : St :=
  ⟨[none, some (XV.sv (.ptr 1 0 0 0)), none, some (XV.sv (.ptr 2 0 0 0))] ++ List.replicate 79 none, [(0, .ext stepsP), (1, .abs (pReg L)), (2, .abs (usetP USet.empty))], 3⟩
def aw15b (L : List SideM) : St :=
  ⟨[none, some (XV.sv (.ptr 1 0 0 0)), none, some (XV.sv (.ptr 2 0 0 0)), some (XV.int .i64 0)] ++ List.replicate 78 none, [(0, .ext stepsP), (1, .abs (pReg L)), (2, .abs (usetP USet.empty))], 3⟩
def aw15c (L : List SideM) (S : USet) : St :=
  ⟨[none, some (XV.sv (.ptr 1 0 0 0)), none, some (XV.sv (.ptr 2 0 0 0)), some (XV.int .i64 0), some (XV.int .i64 0)] ++ List.replicate 77 none, [(0, .ext stepsP), (1, .abs (pReg L)), (2, .abs (usetP S))], 3⟩
theorem ints99 : ∀ i, i < 2 → intsF [9, 9] i = cutF [.int .i64 9, .int .i64 9] 1 (0 + i) := fun i hi => by
  rw [Nat.zero_add]
  match i, hi with
  | 0, _ => rfl
  | 1, _ => rfl
set_option maxHeartbeats 8000000 in
theorem awake15 : Reads Tryz.prog 26 [] [stepsP] (XV.bool true) := by
  obtain ⟨x1, x2, S', t1, t2, m1, m2, m3, m4, m5, m6, m7, z1, z2⟩ := awake15_law
  have g1 := goes_start (m := 9) (by decide) (by decide)
  have hmk := make14_can p0 (by decide) (by decide)
  have hsz : ∀ i, i < (fillL [9, 9] 2).length → ((fillL [9, 9] 2).getD i default).Sized := fun i hi => by
    have hs : (sideN 9).Sized := ⟨by rw [g1.1.par, mp_len]; decide, by rw [g1.2.2.2.2.2.1]; decide, by rw [g1.2.2.2.2.2.1]; decide, by rw [g1.2.2.2.2.2.2]; decide⟩
    match i, hi with
    | 0, _ => exact hs
    | 1, _ => exact hs
  have ktake := ctake_can (fillL [9, 9] 2) (make14 p0) 8 finH hsz (by decide) (by decide) (by decide)
  rw [t1] at ktake
  refine Reads.of Tryz.T_ok Tryz.func26 rfl _ _ _ rfl rfl (fun C hC => ?_)
  (replace hC : C.n0 = 1 := hC; change Tri _ _ _ ⟨_, _, 1⟩ _)
  (refine Tri.cut 3 Tryz.mixed Tryz.T_ok ?_; refine xZ ?_)
  (apply wP; exact (call_op rfl (entersB_of Tryz.func29 (by kernel_rfl)) rfl ((fill14_can [9, 9] (by decide)).at [2] ⟨lend_vecN (lo := 0) rfl rfl rfl (Nat.le_refl _) ints99, trivial⟩ trivial)); refine xZ ?_)
  (apply wP; exact (call_op rfl (entersB_of Tryz.func19 (by kernel_rfl)) rfl (new_spec)); refine xZ ?_)
  refine wD <| cutG <| Tri.ent (Ent.unpack (c := 3) (l := fill14Pack (fillL [9, 9] 2)) rfl) <| Tri.ent (S' := aw15a (fillL [9, 9] 2)) ?_ ?_
  · unfold aw15a
    ((try dsimp only); refine Ent.renC [0, 11, 9] hC ?_ ?_ <;> repeat' (first | exact trivial | exact rfl | exact ⟨_, rfl, rfl, rfl, Nat.le_refl _, fun _ _ => rfl⟩ | exact ⟨_, rfl, rfl, rfl, fun _ _ => rfl⟩ | exact ⟨_, rfl, rfl, rfl⟩ | exact ⟨_, rfl, rfl⟩ | refine ⟨_, rfl, rfl, rfl, by omega, fun k hk => ?_⟩ | refine ⟨?_, ?_⟩ | fail))
  unfold aw15a
  have hlen : (fillL [9, 9] 2).length = 2 := fillL_len _ _
  generalize fillL [9, 9] 2 = L0 at ktake hlen ⊢
  (refine Tri.cut 2 Tryz.mixed Tryz.T_ok ?_; refine xZ ?_)
  (apply wP; exact (call_op rfl (entersB_of Tryz.func32 (by kernel_rfl)) rfl (hmk.at [10, 11] ⟨lend_plan14 (p := p0) (lend_vecN (lo := 0) rfl rfl rfl (Nat.le_refl _) (fun i hi => by obtain rfl := Nat.lt_one_iff.1 hi; rfl)) (lend_vecN (lo := 0) rfl rfl rfl (Nat.le_refl _) (fun i hi => by match i, hi with | 0, _ => rfl | 1, _ => rfl)), trivial⟩ trivial)); refine xZ ?_)
  (apply wP; exact (call_op rfl (entersB_of Tryz.func33 (by kernel_rfl)) rfl (end14_can.at [] trivial trivial)); refine xZ ?_)
  (apply wP; exact (call_op rfl (entersB_of Tryz.func31 (by kernel_rfl)) rfl (ktake.at [13, 0] rfl rfl rfl ⟨lend_cert (c := make14 p0) (lend_ins (j := 0) rfl rfl rfl rfl (Nat.le_refl _) (fun _ _ => rfl)) (lend_ins (j := 1) rfl rfl rfl rfl (Nat.le_refl _) (fun _ _ => rfl)), lend_plain rfl, lend_plain rfl, trivial⟩ ⟨lend_ext (c := 0) rfl rfl, trivial⟩)); refine xZ ?_)
  dsimp only
  obtain ⟨y, hy⟩ : ∃ y, waitX (sideN 9) (make14 p0) = y := ⟨_, rfl⟩
  have zy : y.Sized := by
    rw [← hy]
    exact ⟨by show (sideN 9).par.keys.length ≤ _; rw [g1.1.par, mp_len]; decide, by show 1 ≤ 1000000; decide, by show 2 ≤ 1000000; decide, by show (sideN 9).used.length ≤ _; rw [g1.2.2.2.2.2.2]; decide⟩
  have oy : y.cert.outs.length ≤ 1000 := by rw [← hy]; show 1 ≤ 1000; decide
  have zs : (sideN 9).Sized ∧ (sideN 9).cert.outs.length ≤ 1000 := ⟨⟨by rw [g1.1.par, mp_len]; decide, by rw [g1.2.2.2.2.2.1]; decide, by rw [g1.2.2.2.2.2.1]; decide, by rw [g1.2.2.2.2.2.2]; decide⟩, by rw [g1.2.2.2.2.2.1]; decide⟩
  rw [hy] at t2 ⊢
  have kend := end_can [y, sideN 9] USet.empty (Int64.ofNat 9) (fun i hi => by match i, hi with | 0, _ => exact zy | 1, _ => exact zs.1) (fun i hi => by match i, hi with | 0, _ => exact oy | 1, _ => exact zs.2) (show 2 ≤ 100 by decide) (by decide)
  rw [t2] at kend
  have k0 := side_in [x1, x2] 0 (show 0 < 2 by decide) z1
  have k1 := side_in [x1, x2] 1 (show 1 < 2 by decide) z2
  rw [show [x1, x2].getD 0 default = x1 from rfl] at k0
  rw [show [x1, x2].getD 1 default = x2 from rfl] at k1
  generalize sideN 9 = x0 at kend ⊢
  refine wD <| cutG <| Tri.ent (S' := aw15b [y, x0]) ?_ ?_
  · unfold aw15b
    ((try dsimp only); refine Ent.renC [0, 1, 2] hC ?_ ?_ <;> repeat' (first | exact trivial | exact rfl | exact ⟨_, rfl, rfl, rfl, Nat.le_refl _, fun _ _ => rfl⟩ | exact ⟨_, rfl, rfl, rfl, fun _ _ => rfl⟩ | exact ⟨_, rfl, rfl, rfl⟩ | exact ⟨_, rfl, rfl⟩ | refine ⟨_, rfl, rfl, rfl, by omega, fun k hk => ?_⟩ | refine ⟨?_, ?_⟩ | fail))
  unfold aw15b
  (refine Tri.cut 1 Tryz.mixed Tryz.T_ok ?_; refine xZ ?_)
  (apply wP; exact (call_op rfl (entersB_of Tryz.func34 (by kernel_rfl)) rfl (kend.at2 [0] rfl rfl rfl rfl ⟨lend_plain rfl, trivial⟩ ⟨lend_ext (c := 0) rfl rfl, trivial⟩)); refine xZ ?_)
  refine wD <| cutG <| Tri.ent (S' := aw15c [x1, x2] S') ?_ ?_
  · unfold aw15c
    ((try dsimp only); refine Ent.renC [0, 1, 2] hC ?_ ?_ <;> repeat' (first | exact trivial | exact rfl | exact ⟨_, rfl, rfl, rfl, Nat.le_refl _, fun _ _ => rfl⟩ | exact ⟨_, rfl, rfl, rfl, fun _ _ => rfl⟩ | exact ⟨_, rfl, rfl, rfl⟩ | exact ⟨_, rfl, rfl⟩ | refine ⟨_, rfl, rfl, rfl, by omega, fun k hk => ?_⟩ | refine ⟨?_, ?_⟩ | fail))
  unfold aw15c
  refine Tri.of Tryz.mixed Tryz.T_ok ?_
  (refine xB ?_)
  (apply wP; exact (call_op rfl (entersB_of Tryz.func22 (by kernel_rfl)) rfl (k0.at1 [] rfl rfl rfl ⟨lend_plain rfl, trivial⟩ trivial)); refine xZ ?_)
  (apply wP; exact (call_op rfl (entersB_of Tryz.func22 (by kernel_rfl)) rfl (k1.at1 [] rfl rfl rfl ⟨lend_plain rfl, trivial⟩ trivial)); refine xZ ?_)
  refine wTd (by rw [m1]; rfl) ?_
  (refine xG ?_)
  refine wTd (by rw [m2]; rfl) ?_
  (refine xG ?_)
  refine wTd (by rw [m3]; rfl) ?_
  (refine xG ?_)
  refine wTd m4 ?_
  (refine xG ?_)
  refine wTd (by rw [m5]; rfl) ?_
  (refine xG ?_)
  (apply wP; exact (call_op rfl (entersB_of Tryz.func23 (by kernel_rfl)) rfl (total_spec S' (c0 := 2) rfl rfl)); refine xZ ?_)
  exact wD (Ends.plain (.inr rfl) rfl (by rw [m6]; rfl))
end Go.Proofs.YtnpkdoggfnlapaaGreatDoor
namespace Go.Proofs.YtnpkdoggfnlapaaGreatDoor
set_option maxRecDepth 100000
open Go.Sx
def OutM.v (c : OutM) : Value := .agg c.cells.toArray
theorem OutM.inj (a b : OutM) (h : a.v = b.v) : a = b := by
  have h : a.cells = b.cells := by
    have := congrArg (fun v => v.cells.toList) h
    simpa [OutM.v, Value.cells] using this
  obtain ⟨⟨_, _, _, _, _, _, _, _⟩, _⟩ := a
  obtain ⟨⟨_, _, _, _, _, _, _, _⟩, _⟩ := b
  simp only [OutM.cells, H8.cells, List.cons_append, List.nil_append, List.cons.injEq] at h
  obtain ⟨h0, h1, h2, h3, h4, h5, h6, h7, h8, _⟩ := h
  rw [u8_inj h0, u8_inj h1, u8_inj h2, u8_inj h3, u8_inj h4, u8_inj h5, u8_inj h6, u8_inj h7, i64_inj h8]
def outKinds : List Kd := hashKinds ++ [.int .i64]
theorem out_fits (h : OutM) : Fits outKinds h.cells :=
  ⟨_, _, rfl, fitU _, _, _, rfl, fitU _, _, _, rfl, fitU _, _, _, rfl, fitU _, _, _, rfl, fitU _, _, _, rfl, fitU _, _, _, rfl, fitU _, _, _, rfl, fitU _, _, _, rfl, fitI _, rfl⟩
theorem out_row : (59 : TypeId) < Tryz.prog.types.size := of_decide_eq_true (by kernel_rfl)
theorem out_deep : Tryz.prog.keyTypeAt 8 59 = true := by kernel_rfl
theorem out_keyT : Tryz.prog.keyType 59 = true := by kernel_rfl
theorem out_law : WideMaps.KeyLaw Tryz.prog 59 := deep_law_laid laid (m := 8) (by omega) out_row out_deep (by rw [Tryz.underlying59])
theorem out_cells : outKinds.length = Tryz.prog.cellsOf 59 := by kernel_rfl
theorem out_key (h : OutM) : ∃ l, keyOf Tryz.prog 59 h.v = some l := keyOf_fits Tryz.T_ok (f := 8) (ks := outKinds) rfl out_deep out_keyT types_many (by rw [Tryz.underlying59]) (out_fits h) out_cells
theorem out_noguard : Tryz.prog.eqGuardType Tryz.prog.depth 59 = false := by kernel_rfl
theorem outE : EqK Tryz.prog 59 OutM.v := EqK.of (m := 8) out_law (by omega) out_deep (by rw [Tryz.underlying59]) out_key OutM.inj out_noguard (fun a => ⟨_, rfl⟩)
set_option maxHeartbeats 2000000 in
theorem rpaid_can (s e : Int) (fin : H8) : Reads Tryz.prog 36 [.plain (.one (.raw (.int .i64 s))), .plain (.one (.raw (.int .i64 e))), .plain fin.x] [] (hashX (paidH s e fin)) := by
  rw [paidH]
  refine Reads.of Tryz.T_ok Tryz.func36 rfl _ _ _ rfl (aggs_ok _ _) (fun C hC => ?_)
  (replace hC : C.n0 = 3 := hC; change Tri _ _ _ ⟨_, _, 3⟩ _)
  refine Tri.of Tryz.mixed Tryz.T_ok ?_
  (refine xB ?_)
  (apply wP; exact (call_op rfl (entersB_of Tryz.func72 (by kernel_rfl)) rfl ((num_can s 1 (by decide)).at [] ⟨lend_plain rfl, lend_plain rfl, trivial⟩ trivial)); refine xZ ?_)
  (apply wP; exact (call_op rfl (entersB_of Tryz.func72 (by kernel_rfl)) rfl ((num_can e 4 (by decide)).at [] ⟨lend_plain rfl, lend_plain rfl, trivial⟩ trivial)); refine xZ ?_)
  (refine wP _ _ (cellsNew_op Tryz.T_ok rfl rfl rfl) ?_; refine xZ ?_)
  (apply wP; exact (call_op rfl (entersB_of Tryz.func45 (by kernel_rfl)) rfl ((digest_can 119 [numL s 1, numL e 4, fin.l] (short3 _ _ _ _ (by simp only [numL_length, H8.l_len]; omega))).at [10, 6, 8, 3] ⟨lend_plain rfl, lend_parts [numL s 1, numL e 4, fin.l] rfl rfl rfl ⟨lend_vec0 rfl rfl, lend_vec0 rfl rfl, lend_sla rfl rfl (fun _ _ => rfl) rfl, trivial⟩, trivial⟩ trivial)); refine xZ ?_)
  exact wD (Ends.plain (.inr rfl) rfl rfl)
theorem ptAt_cv {id : H8} {i : Nat} (hi : i < 1000000) : (ptAt id i).cv = .agg (id.cells.map .raw ++ [.raw (.int .i64 (i : Int))]) := by
  have h : i64 (ptAt id i).no = .int .i64 (i : Int) := congrArg _ (ptAt_no hi)
  show CV.agg [.raw (u8 id.b0), .raw (u8 id.b1), .raw (u8 id.b2), .raw (u8 id.b3), .raw (u8 id.b4), .raw (u8 id.b5), .raw (u8 id.b6), .raw (u8 id.b7), .raw (i64 (ptAt id i).no)] = _
  rw [h]; rfl
theorem get_at (S : USet) (id : H8) {i : Nat} (hi : i < 1000000) {k : Coin} (hk : mget S.coins (ptAt id i) = some k) {M : Mem} {c0 d : Nat} (hM : M.get c0 = some (.abs (usetP S))) (hd : Nat.beq d c0 = false) : CallSpec Tryz.prog 21 [.one (.ptr c0 0 0 0), .agg (id.cells.map .raw ++ [.raw (.int .i64 (i : Int))])] M d { v := .tup [k.cv, .one (.raw (.bool true))], upd := [(c0, .abs (usetP S))], wr := [c0] } [c0] := by
  have h := get_spec S (ptAt id i) hM hd
  have e1 : S.get (ptAt id i) = k := by rw [USet.get, hk]; rfl
  have e2 : S.has (ptAt id i) = true := by rw [USet.has, hk]; rfl
  rw [ptAt_cv hi, e1, e2] at h
  exact h
def pp (n : Nat) (am : List UInt8) : Plan14 := ⟨(n : Int), 0, 1, am.map fun a => Int64.ofNat (1 + a.toNat), [0, 1], 0⟩
def sumU : List UInt8 → Int
  | [] => 0
  | a :: l => 1 + (a.toNat : Int) + sumU l
theorem sumU_le : ∀ l : List UInt8, 0 ≤ sumU l ∧ sumU l ≤ 256 * (l.length : Int)
  | [] => ⟨Int.le_refl 0, by simp [sumU]⟩
  | a :: l => by
    have := sumU_le l
    have := a.toNat_lt
    rw [sumU, List.length_cons]; omega
theorem sumU_snoc : ∀ (l : List UInt8) (a : UInt8), sumU (l ++ [a]) = sumU l + 1 + (a.toNat : Int)
  | [], a => by simp [sumU]
  | b :: l, a => by rw [List.cons_append, sumU, sumU_snoc l a, sumU]; omega
theorem pp_len (n : Nat) (am : List UInt8) : (pp n am).am.length = am.length := List.length_map _
theorem pp_am (n : Nat) (am : List UInt8) {i : Nat} (hi : i < am.length) : ((pp n am).am.getD i 0).toInt = 1 + ((am.getD i 0).toNat : Int) := by
  show ((am.map fun a => Int64.ofNat (1 + a.toNat)).getD i 0).toInt = _
  rw [List.getD_eq_getElem?_getD, List.getElem?_map, List.getElem?_eq_getElem hi, List.getD_eq_getElem?_getD, List.getElem?_eq_getElem hi]
  show (Int64.ofNat (1 + am[i].toNat)).toInt = _
  have := am[i].toNat_lt
  rw [toInt_ofNat (by omega)]
  show ((1 + am[i].toNat : Nat) : Int) = 1 + (am[i].toNat : Int)
  omega
theorem pp_ok {n : Nat} (hn : n ≤ 7) {am : List UInt8} (ha : am.length ≤ 16) : PlanOK (pp n am) 0 1 :=
  ⟨rfl, rfl, rfl, rfl, by decide, by decide, ⟨Int.natCast_nonneg _, by show (n : Int) ≤ 7; omega⟩, ⟨Int.le_refl 0, show (0 : Int) ≤ 400 by decide⟩, ⟨show (0 : Int) ≤ 1 by decide, show (1 : Int) ≤ 2147483647 by decide⟩, by rw [pp_len]; exact ha, fun i hi => by
    rw [pp_len] at hi
    have := (am.getD i 0).toNat_lt
    rw [pp_am n am hi]; omega⟩
theorem sumO_snoc : ∀ (l : List OutM) (o : OutM), sumO (l ++ [o]) = sumO l + o.amt.toInt
  | [], o => by simp [sumO]
  | a :: l, o => by rw [List.cons_append, sumO, sumO_snoc l o, sumO]; omega
theorem pp_sum_at (n : Nat) (am : List UInt8) : ∀ i, i ≤ am.length → sumO (outs14 (pp n am) i) = sumU (am.take i)
  | 0, _ => rfl
  | i + 1, hi => by
    rw [outs14_succ, sumO_snoc, pp_sum_at n am i (by omega), List.take_add_one, List.getElem?_eq_getElem (by omega)]
    show _ = sumU (am.take i ++ [am[i]])
    rw [sumU_snoc]
    show _ + ((pp n am).am.getD i 0).toInt = _
    rw [pp_am n am (by omega), List.getD_eq_getElem?_getD, List.getElem?_eq_getElem (by omega)]
    show _ + (1 + (am[i].toNat : Int)) = _
    omega
theorem pp_sum (n : Nat) (am : List UInt8) : sumO (make14 (pp n am)).outs = sumU am := by
  show sumO (outs14 (pp n am) (pp n am).am.length) = _
  rw [pp_len, pp_sum_at n am _ (Nat.le_refl _), List.take_length]
theorem getD_mid {α : Type} [Inhabited α] (a b : List α) (x : α) : (a ++ x :: b).getD a.length default = x := by
  rw [List.getD_eq_getElem?_getD, List.getElem?_append_right (Nat.le_refl _), Nat.sub_self]; rfl
theorem set_mid {α : Type} (a b : List α) (x y : α) : (a ++ x :: b).set a.length y = a ++ y :: b := by
  rw [List.set_append, if_neg (Nat.lt_irrefl _), Nat.sub_self]; rfl
theorem end_row {h : Nat} (hh : h ≤ 1000) {y w x : SideM} {S S' : USet} (n : Nat) (hy : Goes y) (hp : y.pend = false) (hd : dueN h = true) (hw : endOne (Int64.ofNat h) n (List.replicate n (ceaseX y h) ++ [w]) S w = ((List.replicate n (ceaseX y h) ++ [x], S'), 0)) :
    endE (Int64.ofNat h) (List.replicate n y ++ [w]) S = ((List.replicate n (ceaseX y h) ++ [x], S'), 0) := by
  have hi : (Int64.ofNat h).toInt = (h : Int) := toInt_ofNat (by omega)
  have key : ∀ i, i ≤ n → endN (Int64.ofNat h) (List.replicate n y ++ [w]) S i = ((List.replicate i (ceaseX y h) ++ (List.replicate (n - i) y ++ [w]), S), 0) := by
    intro i
    induction i with
    | zero => intro _; rfl
    | succ i ih =>
      intro hin
      rw [endN_step (ih (by omega))]
      have e : List.replicate (n - i) y ++ [w] = y :: (List.replicate (n - (i + 1)) y ++ [w]) := by
        rw [show n - i = n - (i + 1) + 1 by omega, List.replicate_succ]; rfl
      have hl : (List.replicate i (ceaseX y h)).length = i := List.length_replicate
      rw [e]
      have hg : (List.replicate i (ceaseX y h) ++ y :: (List.replicate (n - (i + 1)) y ++ [w])).getD i default = y := by
        have := getD_mid (List.replicate i (ceaseX y h)) (List.replicate (n - (i + 1)) y ++ [w]) y
        rwa [hl] at this
      rw [hg, endOne_cease (by rw [hi]; exact (due_mp hy hh).1.trans hd) (.inl hp), hi]
      have hs : (List.replicate i (ceaseX y h) ++ y :: (List.replicate (n - (i + 1)) y ++ [w])).set i (ceaseX y h) = List.replicate (i + 1) (ceaseX y h) ++ (List.replicate (n - (i + 1)) y ++ [w]) := by
        have := set_mid (List.replicate i (ceaseX y h)) (List.replicate (n - (i + 1)) y ++ [w]) y (ceaseX y h)
        rw [hl] at this
        rw [this, List.replicate_succ', List.append_assoc]; rfl
      rw [hs]
  have hlen : (List.replicate n y ++ [w]).length = n + 1 := by rw [List.length_append, List.length_replicate]; rfl
  have hk := key n (Nat.le_refl _)
  rw [Nat.sub_self] at hk
  rw [endE, hlen, endN_step hk]
  have hl : (List.replicate n (ceaseX y h)).length = n := List.length_replicate
  have hg : (List.replicate n (ceaseX y h) ++ (List.replicate 0 y ++ [w])).getD n default = w := by
    have := getD_mid (List.replicate n (ceaseX y h)) [] w
    rwa [hl] at this
  rw [hg]
  exact hw
theorem end_none {h : Nat} (hh : h ≤ 1000) {L : List SideM} {S : USet} (hL : ∀ i, i < L.length → Goes (L.getD i default)) (hd : dueN h = false) : endE (Int64.ofNat h) L S = ((L, S), 0) := by
  have hi : (Int64.ofNat h).toInt = (h : Int) := toInt_ofNat (by omega)
  have key : ∀ i, i ≤ L.length → endN (Int64.ofNat h) L S i = ((L, S), 0) := by
    intro i
    induction i with
    | zero => intro _; rfl
    | succ i ih =>
      intro hin
      rw [endN_step (ih (by omega)), endOne_idle (by rw [hi]; exact (due_mp (hL i (by omega)) hh).1.trans hd)]
  exact key _ (Nat.le_refl _)
end Go.Proofs.YtnpkdoggfnlapaaGreatDoor
namespace Go.Proofs.YtnpkdoggfnlapaaGreatDoor
set_option maxRecDepth 100000
open Go.Sx
def yS : SideM := sideN 9000
def lpays (n : Nat) (w : SideM) : List SideM := List.replicate n yS ++ [w]
def lpaid (n : Nat) (x : SideM) : List SideM := List.replicate n (ceaseX yS 9) ++ [x]
theorem lpays_len (n : Nat) (w : SideM) : (lpays n w).length = n + 1 := by rw [lpays, List.length_append, List.length_replicate]; rfl
theorem lpaid_len (n : Nat) (w : SideM) : (lpaid n w).length = n + 1 := by rw [lpaid, List.length_append, List.length_replicate]; rfl
theorem row_at {α : Type} [Inhabited α] (n : Nat) (a w : α) {i : Nat} (hi : i < n + 1) : (List.replicate n a ++ [w]).getD i default = if i < n then a else w := by
  rw [List.getD_eq_getElem?_getD]
  by_cases h : i < n
  · rw [if_pos h, List.getElem?_append_left (by rw [List.length_replicate]; exact h), List.getElem?_replicate, if_pos h]; rfl
  · obtain rfl : i = n := by omega
    rw [if_neg h, List.getElem?_append_right (by rw [List.length_replicate]; exact Nat.le_refl _), List.length_replicate, Nat.sub_self]; rfl
theorem fill_pays (n : Nat) : fillL (List.replicate (n + 1) 9000) (n + 1) = lpays n yS := by
  have h : ∀ m, m ≤ n + 1 → fillL (List.replicate (n + 1) 9000) m = List.replicate m yS := by
    intro m
    induction m with
    | zero => intro _; rfl
    | succ m ih =>
      intro hm
      have := ih (by omega)
      rw [fillL] at this ⊢
      have hg : (List.replicate (n + 1) (9000 : Int)).getD m 0 = 9000 := by
        rw [List.getD_eq_getElem?_getD, List.getElem?_replicate, if_pos (by omega)]; rfl
      rw [List.range_succ, List.map_append, this, List.replicate_succ' (n := m), List.map_cons, List.map_nil, hg]
      rfl
  rw [h _ (Nat.le_refl _), List.replicate_succ', lpays]
theorem yS_facts : Goes yS ∧ yS.bal = 9000 ∧ yS.mat = 0 ∧ yS.fwd = 9000 ∧ yS.pend = false ∧ yS.cert = cert0 ∧ yS.used = [] := goes_start (by decide) (by decide)
theorem goes_sized {x : SideM} (h1 : x.par = mp) (h2 : x.cert.outs.length ≤ 1000) (h3 : x.cert.sigs.length ≤ 1000) (h4 : x.used = []) : x.Sized :=
  ⟨by rw [h1, mp_len]; decide, by omega, by omega, by rw [h4]; exact Nat.zero_le _⟩
structure PaysOK (n : Nat) (am : List UInt8) (w x : SideM) (S : USet) : Prop where
  take : takeC (lpays n yS) (make14 (pp n am)) 8 finH = (lpays n w, 0)
  end8 : endE (Int64.ofNat 8) (lpays n w) USet.empty = ((lpays n w, USet.empty), 0)
  end9 : endE (Int64.ofNat 9) (lpays n w) USet.empty = ((lpaid n x, S), 0)
  root : x.root = rootQ 1
  bal : x.bal = 9000 - sumU am
  pend : x.pend = false
  ceased : x.ceased = false
  coins : ∀ i, i < am.length → mget S.coins (ptAt (paidH (n : Int) 0 finH) i) = some (coinO (Int64.ofNat 9) (out14 (pp n am) i))
  len : S.coins.length = am.length
  steps : S.steps.length ≤ 16
  sized0 : ∀ i, i < (lpays n yS).length → ((lpays n yS).getD i default).Sized
  sized1 : ∀ i, i < (lpays n w).length → ((lpays n w).getD i default).Sized
  outs1 : ∀ i, i < (lpays n w).length → ((lpays n w).getD i default).cert.outs.length ≤ 1000
  sized2 : ∀ i, i < (lpaid n x).length → ((lpaid n x).getD i default).Sized
theorem pays_law {n : Nat} (hn : n ≤ 7) {am : List UInt8} (ha : am.length ≤ 16) : ∃ w x S, PaysOK n am w x S := by
  obtain ⟨y1, y2, y3, y4, y5, y6, y7⟩ := yS_facts
  have hp := pp_ok hn ha
  have hsum := pp_sum n am
  have hsl := sumU_le am
  have hol : (make14 (pp n am)).outs.length = am.length := by show (outs14 (pp n am) (pp n am).am.length).length = _; rw [outs14_len, pp_len]
  have hside : (pp n am).side.toNat = n := Int.toNat_natCast n
  have hfin : (make14 (pp n am)).fin = finH := plan_fin hp
  have hep : (make14 (pp n am)).ep = 0 := rfl
  have hroot : (make14 (pp n am)).root = rootQ 1 := rfl
  have hsl2 : (make14 (pp n am)).sigs.length = 2 := by rw [show (make14 (pp n am)).sigs.length = (pp n am).who.length from signL_len _ _ _]; rfl
  have hlast : (lpays n yS).getD n default = yS := by rw [lpays, row_at n yS yS (Nat.lt_succ_self n), if_neg (Nat.lt_irrefl n)]
  have htk := take_plan (L := lpays n yS) (h := 8) (x := yS) hp (by rw [hside, lpays_len]; omega) (by rw [hside]; exact hlast) y1 (show 3 + ((0 : Int) + 1) * 4 < 8 ∧ (8 : Int) ≤ 3 + ((0 : Int) + 1) * 4 + 2 by decide) (.inl y5) (by rw [hsum, y2]; omega) (by rw [hsum]; omega)
  rw [hside] at htk
  have hset : (lpays n yS).set n (waitX yS (make14 (pp n am))) = lpays n (waitX yS (make14 (pp n am))) := by
    have := set_mid (List.replicate n yS) [] yS (waitX yS (make14 (pp n am)))
    rw [List.length_replicate] at this
    exact this
  rw [hset] at htk
  obtain ⟨w, hw⟩ : ∃ w, waitX yS (make14 (pp n am)) = w := ⟨_, rfl⟩
  have w1 : Goes w := by rw [← hw]; exact ⟨y1.par, y1.made, y1.ceased⟩
  have w2 : w.pend = true := by rw [← hw]; rfl
  have w3 : w.cert = make14 (pp n am) := by rw [← hw]; rfl
  have w4 : w.bal = 9000 := by rw [← hw]; exact y2
  have w5 : w.mat = 0 := by rw [← hw]; exact y3
  have w6 : w.used = [] := by rw [← hw]; exact y7
  rw [hw] at htk
  have h9 : (Int64.ofNat 9).toInt = ((9 : Nat) : Int) := toInt_ofNat (by decide)
  have hgo : ∀ i, i < (lpays n w).length → Goes ((lpays n w).getD i default) := fun i hi => by
    rw [lpays_len] at hi
    rw [lpays, row_at n yS w hi]
    split
    · exact y1
    · exact w1
  have hcp : CanPay w := ⟨by rw [w3]; exact plan_amt hp, by rw [w3, hol]; exact ha, by rw [w3, hsum, w4]; omega⟩
  obtain ⟨S, hg, hS⟩ := pay_plain (i := (n : Int)) (h := Int64.ofNat 9) (S := USet.empty) hcp (Int.le_refl 0) (by rw [w3, hsum]; show 0 + sumU am ≤ _; omega) (fun _ _ => rfl)
  have hv := pay_vals hcp (by rw [w4]; decide) (by rw [w5]; decide)
  have d1 := due_mp w1 (h := 9) (by decide)
  have hone : endOne (Int64.ofNat 9) n (lpaid n w) USet.empty w = ((lpaid n (payX w), S), 0) := by
    rw [endOne_pay (by rw [h9]; exact d1.1) w2 (by rw [h9, d1.2 rfl, w3]; rfl) hg]
    have := set_mid (List.replicate n (ceaseX yS 9)) [] w (payX w)
    rw [List.length_replicate] at this
    rw [show (lpaid n w).set n (payX w) = lpaid n (payX w) from this]
  have z0 : yS.Sized := goes_sized y1.par (by rw [y6]; decide) (by rw [y6]; decide) y7
  have zw : w.Sized := goes_sized w1.par (by rw [w3, hol]; omega) (by rw [w3, hsl2]; decide) w6
  refine ⟨w, payX w, S, htk, end_none (by decide) hgo rfl, end_row (by decide) n y1 y5 rfl hone, ?_, ?_, ?_, ?_, fun i hi => ?_, ?_, ?_, fun i hi => ?_, fun i hi => ?_, fun i hi => ?_, fun i hi => ?_⟩
  · rw [hv]; show w.cert.root = _; rw [w3]; exact hroot
  · rw [hv]; show w.bal - sumO w.cert.outs = _; rw [w4, w3, hsum]
  · rw [hv]
  · rw [hv]; exact w1.ceased
  · have h1 := hS.new i (by rw [w3, hol]; exact hi)
    rw [w3, hfin, hep, Nat.zero_add] at h1
    rw [h1]
    congr 2
    show (outs14 (pp n am) (pp n am).am.length).getD i default = _
    rw [outs14, List.getD_eq_getElem?_getD, List.getElem?_map, List.getElem?_range (by rw [pp_len]; exact hi)]
    rfl
  · rw [hS.len, w3, hol]; exact Nat.zero_add _
  · rw [hS.steps, w3, hol]; show 0 + am.length ≤ 16; omega
  · rw [lpays_len] at hi
    rw [lpays, row_at n yS yS hi]; split <;> exact z0
  · rw [lpays_len] at hi
    rw [lpays, row_at n yS w hi]; split
    · exact z0
    · exact zw
  · rw [lpays_len] at hi
    rw [lpays, row_at n yS w hi]; split
    · rw [y6]; decide
    · rw [w3, hol]; omega
  · rw [lpaid_len] at hi
    rw [lpaid, row_at n (ceaseX yS 9) (payX w) hi]; split
    · exact ⟨z0.keys, z0.outs, z0.sigs, z0.used⟩
    · rw [hv]; exact ⟨zw.keys, Nat.zero_le _, Nat.zero_le _, zw.used⟩
end Go.Proofs.YtnpkdoggfnlapaaGreatDoor
namespace Go.Proofs.YtnpkdoggfnlapaaGreatDoor
set_option maxRecDepth 100000
open Go.Sx
def ppA (am : List UInt8) (n : Nat) (L : List SideM) : St :=
  ⟨[some (XV.sv (.slc 0 1 0 am.length)), none, none, none, none, some (XV.int .i64 ((n + 1 : Nat) : Int)), some (XV.sv (.ptr 3 0 0 0)), none, some (XV.sv (.ptr 4 0 0 0))] ++ List.replicate 177 none,
   [(0, .ro 1 am.length (rowB am)), (2, .ext stepsP), (3, .abs (pReg L)), (4, .abs (usetP USet.empty))], 5⟩
def ppB (am : List UInt8) (n : Nat) (L : List SideM) (i : Nat) : St :=
  ⟨[some (XV.sv (.slc 0 1 0 am.length)), none, none, none, none, some (XV.int .i64 ((n + 1 : Nat) : Int)), some (XV.sv (.ptr 3 0 0 0)), none, some (XV.sv (.ptr 4 0 0 0)), some (XV.sv (.ptr 5 0 0 0)), some (XV.int .i64 (sumU (am.take i))), some (XV.int .i64 i)] ++ List.replicate 174 none,
   [(0, .ro 1 am.length (rowB am)), (2, .ext stepsP), (3, .abs (pReg L)), (4, .abs (usetP USet.empty)), (5, .cells 95 [.raw (.int .i64 (n : Int)), .raw (.int .i64 0), .raw (.int .i64 1), .slc 6 1 0 i, .slc 7 1 0 2, .raw (.int .u8 0)]), (6, .vec 3 1 i (intsF (pp n am).ams)), (7, .vec 5 1 2 (cutF [.int .u8 0, .int .u8 1] 1))], 8⟩
def ppC (am : List UInt8) (n : Nat) (L : List SideM) (S : USet) (c : CertM) (i : Option XV) : St :=
  ⟨[none, none, none, none, none, some (XV.int .i64 ((n + 1 : Nat) : Int)), some (XV.sv (.ptr 3 0 0 0)), none, some (XV.sv (.ptr 4 0 0 0)), none, some (XV.int .i64 (sumU am)), none, some (XV.sv (.ptr 5 0 0 0)), i] ++ List.replicate 172 none,
   [(2, .ext stepsP), (3, .abs (pReg L)), (4, .abs (usetP S)), (5, .cells 43 (certCells c (.slc 6 9 0 am.length) (.slc 7 282 0 2))), (6, .vec 59 9 am.length (outsF c.outs)), (7, .vec 192 282 2 (sgdsF c.sigs))], 8⟩
def ppD (am : List UInt8) (n : Nat) (L : List SideM) (S : USet) (c : CertM) (i : Nat) : St :=
  ⟨[none, none, none, none, none, some (XV.int .i64 ((n + 1 : Nat) : Int)), some (XV.sv (.ptr 3 0 0 0)), none, some (XV.sv (.ptr 4 0 0 0)), none, some (XV.int .i64 (sumU am)), none, some (XV.sv (.ptr 5 0 0 0)), none, none, none, some (XV.int .i64 i)] ++ List.replicate 169 none,
   [(2, .ext stepsP), (3, .abs (pReg L)), (4, .abs (usetP S)), (5, .cells 43 (certCells c (.slc 6 9 0 am.length) (.slc 7 282 0 2))), (6, .vec 59 9 am.length (outsF c.outs)), (7, .vec 192 282 2 (sgdsF c.sigs))], 8⟩
theorem grow_at {F g : Nat → List Value} {k j : Nat} (hg : g 0 = F k) (hj : j < k + 1) : joinF F k g j = F j := by
  simp only [joinF, nblt]
  by_cases h : j < k
  · simp [h]
  · obtain rfl : j = k := by omega
    simp [hg]
theorem nines {n : Nat} (hn : n ≤ 2) : ∀ i, i < n + 1 → intsF (List.replicate (n + 1) 9000) i = cutF [.int .i64 9000, .int .i64 9000, .int .i64 9000] 1 (0 + i) := fun i hi => by
  have e : intsF (List.replicate (n + 1) 9000) i = [.int .i64 9000] := by
    rw [intsF, List.getD_eq_getElem?_getD, List.getElem?_replicate, if_pos hi]; rfl
  rw [e, Nat.zero_add]
  match i, (show i < 3 by omega) with
  | 0, _ => rfl
  | 1, _ => rfl
  | 2, _ => rfl
set_option maxHeartbeats 16000000 in
theorem payoutPays_walk (am : List UInt8) (sd : UInt8) (hl : am.length ≤ maxLen) : Reads Tryz.prog 10 [.row 1 am.length (rowB am), .plain (.one (.raw (u8 sd)))] [stepsP] (XV.bool true) := by
  refine Reads.of Tryz.T_ok Tryz.func10 rfl _ _ _ rfl rfl (fun C hC => ?_)
  (replace hC : C.n0 = 3 := hC; change Tri _ _ _ ⟨_, _, 3⟩ _)
  (refine Tri.cut 3 Tryz.mixed Tryz.T_ok ?_; refine xZ ?_)
  (apply wP; exact (call_op rfl (entersB_of Tryz.func26 (by kernel_rfl)) rfl (awake15.at [2] trivial ⟨lend_ext (c := 2) rfl rfl, trivial⟩)); refine xZ ?_)
  refine wC (fun h1 => ?_) (fun h1 => ?_)
  · (refine xG ?_)
    exact wD <| cutR <| Ends.plain (.inr rfl) rfl rfl
  have ha : am.length ≤ 16 := by simp only [decide_eq_false_iff_not] at h1; omega
  (refine xG ?_)
  refine wD <| cutG <| ?_
  obtain ⟨n, hn⟩ : ∃ n, sd.toNat % 3 = n := ⟨_, rfl⟩
  have hn2 : n ≤ 2 := by omega
  have hk : IntKind.i64.wrap (1 + Int.tmod (IntKind.i64.wrap ((sd.toNat : Nat) : Int)) 3) = ((n + 1 : Nat) : Int) := by
    have h3 := sd.toNat_lt
    have e1 : IntKind.i64.wrap ((sd.toNat : Nat) : Int) = ((sd.toNat : Nat) : Int) := wrap_id (by omega)
    have e2 : Int.tmod ((sd.toNat : Nat) : Int) 3 = ((sd.toNat % 3 : Nat) : Int) := rfl
    rw [e1, e2, hn, show (1 : Int) + (n : Int) = ((n + 1 : Nat) : Int) by omega]
    exact wrap_id (by omega)
  (refine Tri.cut 1 Tryz.mixed Tryz.T_ok ?_; refine xZ ?_)
  simp only [hk]
  refine wD <| cutG <| ?_
  (refine Tri.cut 2 Tryz.mixed Tryz.T_ok ?_; refine xZ ?_)
  have kf := fill14_can (List.replicate (n + 1) 9000) (by rw [List.length_replicate]; omega)
  rw [List.length_replicate, fill_pays] at kf
  refine wN ⟨by omega, by omega⟩ ?_
  (refine xG ?_)
  simp only [Int.toNat_natCast, Nat.sub_zero]
  (apply wP; exact (call_op rfl (entersB_of Tryz.func29 (by kernel_rfl)) rfl (kf.at [14] ⟨lend_vecN (lo := 0) rfl rfl rfl (by omega) (nines hn2), trivial⟩ trivial)); refine xZ ?_)
  (apply wP; exact (call_op rfl (entersB_of Tryz.func19 (by kernel_rfl)) rfl (new_spec)); refine xZ ?_)
  obtain ⟨w, x, S, hp⟩ := pays_law (show n ≤ 7 by omega) ha
  have htk := hp.take
  obtain ⟨L0, hL0⟩ : ∃ L, lpays n yS = L := ⟨_, rfl⟩
  have hlen0 : L0.length = n + 1 := by rw [← hL0, lpays_len]
  have hz0 := hp.sized0
  rw [hL0] at htk hz0 ⊢
  refine wD <| cutG <| Tri.ent (Ent.unpack (c := 17) (l := fill14Pack L0) rfl) <| Tri.ent (S' := ppA am n L0) ?_ ?_
  · unfold ppA
    ((try dsimp only); refine Ent.renC [0, 1, 2, 25, 23] hC ?_ ?_ <;> repeat' (first | exact trivial | exact rfl | exact ⟨_, rfl, rfl, rfl, Nat.le_refl _, fun _ _ => rfl⟩ | exact ⟨_, rfl, rfl, rfl, fun _ _ => rfl⟩ | exact ⟨_, rfl, rfl, rfl⟩ | exact ⟨_, rfl, rfl⟩ | refine ⟨_, rfl, rfl, rfl, by omega, fun k hk => ?_⟩ | refine ⟨?_, ?_⟩ | fail))
  unfold ppA
  have hk1 : IntKind.i64.wrap (((n + 1 : Nat) : Int) - 1) = (n : Int) := by rw [show ((n + 1 : Nat) : Int) - 1 = (n : Int) by omega]; exact wrap_id (by omega)
  (refine Tri.cut 3 Tryz.mixed Tryz.T_ok ?_; refine xZ ?_)
  simp only [hk1]
  refine wD <| cutG <| Tri.ent (Ent.nilc (c := 15) (e := 95) (cs := [.raw (.int .i64 (n : Int)), .raw (.int .i64 0), .raw (.int .i64 1), .raw (.slice none 0 0), .slc 13 1 0 2, .raw (.int .u8 0)]) (j := 3) rfl rfl 3 1) <| Tri.seq ?_
  (refine Tri.cut 1 Tryz.mixed Tryz.T_ok ?_; refine xZ ?_)
  refine wD <| cutG <| Tri.block ?_
  refine Tri.loop (α := { i : Nat // i ≤ am.length }) (fun i => ppB am n L0 i.1) (fun i => am.length - i.1) ⟨0, Nat.zero_le _⟩ ?_ ?_
  · unfold ppB
    ((try dsimp only); refine Ent.renC [0, 1, 2, 3, 4, 15, 18, 13] hC ?_ ?_ <;> repeat' (first | exact trivial | exact rfl | exact ⟨_, rfl, rfl, rfl, Nat.le_refl _, fun _ _ => rfl⟩ | exact ⟨_, rfl, rfl, rfl, fun _ _ => rfl⟩ | exact ⟨_, rfl, rfl, rfl⟩ | exact ⟨_, rfl, rfl⟩ | refine ⟨_, rfl, rfl, rfl, by omega, fun k hk => ?_⟩ | refine ⟨?_, ?_⟩ | fail))
    all_goals exact absurd ‹_ < 0› (Nat.not_lt_zero _)
  rintro ⟨i, hi⟩
  dsimp only
  unfold ppB
  (refine Tri.cut 1 Tryz.mixed Tryz.T_ok ?_; refine xZ ?_)
  refine wC (fun hh => ?_) (fun hh => ?_)
  · (refine xG ?_)
    have h' : i < am.length := xW
    have hw : IntKind.i64.wrap ((i : Int) + 1) = ((i + 1 : Nat) : Int) := xW
    have hu := (am.getD i 0).toNat_lt
    have hs1 : sumU (am.take (i + 1)) = sumU (am.take i) + 1 + ((am.getD i 0).toNat : Int) := by
      rw [List.take_add_one, List.getElem?_eq_getElem h', List.getD_eq_getElem?_getD, List.getElem?_eq_getElem h']
      exact sumU_snoc _ _
    have hsl := sumU_le (am.take i)
    rw [List.length_take] at hsl
    have e1 : IntKind.i64.wrap (((am.getD i 0).toNat : Nat) : Int) = (((am.getD i 0).toNat : Nat) : Int) := wrap_id (by omega)
    have e2 : IntKind.i64.wrap (1 + (((am.getD i 0).toNat : Nat) : Int)) = 1 + (((am.getD i 0).toNat : Nat) : Int) := wrap_id (by omega)
    have e3 : IntKind.i64.wrap (sumU (am.take i) + 1) = sumU (am.take i) + 1 := wrap_id (by omega)
    have e4 : IntKind.i64.wrap (sumU (am.take i) + 1 + (((am.getD i 0).toNat : Nat) : Int)) = sumU (am.take (i + 1)) := by rw [hs1]; exact wrap_id (by omega)
    have ham : [Value.int .i64 (1 + (((am.getD i 0).toNat : Nat) : Int))] = intsF (pp n am).ams i := by rw [intsF, ams_get, pp_am n am h']
    refine wD <| cutG <| Tri.seq <| Tri.block <| Tri.of Tryz.mixed Tryz.T_ok ?_
    (refine xB ?_)
    (repeat (refine wN ?_ ?_; exact xW; refine xG ?_))
    simp only [Nat.zero_add, Int.toNat_natCast, e1, e2]
    (refine wP _ _ (append_op Tryz.T_ok rfl rfl rfl rfl rfl [6, 20] (old_vec rfl rfl (Nat.le_refl _) rfl) (new_vec (lo := 0) rfl rfl (Nat.le_refl _) rfl) rfl cut1_one (by simp only [maxLen]; omega) (by dsimp only; omega)) ?_; refine xZ ?_)
    (repeat (refine wN ?_ ?_; exact xW; refine xG ?_))
    try simp only [Nat.zero_add, Int.toNat_natCast, e1, e2, e3, e4]
    refine wD <| blockN <| cutG <| Tri.of Tryz.mixed Tryz.T_ok ?_
    (refine xB ?_)
    refine wD <| loopN ⟨⟨i + 1, h'⟩, by dsimp only; omega, ?_⟩
    rw [hw]
    ((try dsimp only); refine Ent.renC [0, 1, 2, 3, 4, 5, 21, 7] hC ?_ ?_ <;> repeat' (first | exact trivial | exact rfl | exact ⟨_, rfl, rfl, rfl, Nat.le_refl _, fun _ _ => rfl⟩ | exact ⟨_, rfl, rfl, rfl, fun _ _ => rfl⟩ | exact ⟨_, rfl, rfl, rfl⟩ | exact ⟨_, rfl, rfl⟩ | refine ⟨_, rfl, rfl, rfl, by omega, fun k hk => ?_⟩ | refine ⟨?_, ?_⟩ | fail))
    exact grow_at ham hk
  · (refine xG ?_)
    have h' : i = am.length := xW
    subst h'
    rw [List.take_length]
    have hmk := make14_can (pp n am) (by rw [pp_len]; omega) (by show 2 ≤ 100; decide)
    rw [pp_len, show (pp n am).who.length = 2 from rfl] at hmk
    refine wD <| cutE <| loopX <| blockX <| cutG ?_
    (refine Tri.cut 1 Tryz.mixed Tryz.T_ok ?_; refine xZ ?_)
    have hout : outs14 (pp n am) am.length = (make14 (pp n am)).outs := by show _ = outs14 (pp n am) (pp n am).am.length; rw [pp_len]
    have hol : am.length = (make14 (pp n am)).outs.length := by rw [← hout, outs14_len]
    have hsl2 : 2 = (make14 (pp n am)).sigs.length := by rw [show (make14 (pp n am)).sigs.length = (pp n am).who.length from signL_len _ _ _]; rfl
    have hroot : (make14 (pp n am)).root = rootQ 1 := rfl
    have hat : ∀ i, i < am.length → (make14 (pp n am)).outs.getD i default = out14 (pp n am) i := fun i hi => by
      rw [← hout, outs14, List.getD_eq_getElem?_getD, List.getElem?_map, List.getElem?_range hi]; rfl
    rw [hout] at hmk
    have ktake := ctake_can L0 (make14 (pp n am)) 8 finH hz0 (by omega) (by omega) (by omega)
    rw [htk] at ktake
    obtain ⟨c, hc⟩ : ∃ c, make14 (pp n am) = c := ⟨_, rfl⟩
    rw [hc] at hmk ktake hol hsl2 hroot hat
    have kend8 := end_can (lpays n w) USet.empty (Int64.ofNat 8) hp.sized1 hp.outs1 (by rw [lpays_len]; omega) (by decide)
    rw [hp.end8] at kend8
    have kend9 := end_can (lpays n w) USet.empty (Int64.ofNat 9) hp.sized1 hp.outs1 (by rw [lpays_len]; omega) (by decide)
    rw [hp.end9] at kend9
    dsimp only at ktake kend8 kend9
    (apply wP; exact (call_op rfl (entersB_of Tryz.func32 (by kernel_rfl)) rfl (hmk.at [6, 7] ⟨lend_plan14 (p := pp n am) (lend_vecN (lo := 0) (pp_len n am).symm rfl rfl (by rw [pp_len]; omega) (fun i _ => by rw [Nat.zero_add])) (lend_vecN (lo := 0) rfl rfl rfl (Nat.le_refl _) (fun i hi => by match i, hi with | 0, _ => rfl | 1, _ => rfl)), trivial⟩ trivial)); refine xZ ?_)
    refine wD <| cutG <| Tri.ent (Ent.unpack (c := 13) (l := [.vec 59 9 am.length (outsF c.outs), .vec 192 282 2 (sgdsF c.sigs)]) rfl) <| Tri.ent (S' := ppC am n L0 USet.empty c none) ?_ ?_
    · unfold ppC
      ((try dsimp only); refine Ent.renC [0, 1, 2, 3, 4, 14, 16, 17] hC ?_ ?_ <;> repeat' (first | exact trivial | exact rfl | exact ⟨_, rfl, rfl, rfl, Nat.le_refl _, fun _ _ => rfl⟩ | exact ⟨_, rfl, rfl, rfl, fun _ _ => rfl⟩ | exact ⟨_, rfl, rfl, rfl⟩ | exact ⟨_, rfl, rfl⟩ | refine ⟨_, rfl, rfl, rfl, by omega, fun k hk => ?_⟩ | refine ⟨?_, ?_⟩ | fail))
    unfold ppC
    (refine Tri.cut 1 Tryz.mixed Tryz.T_ok ?_; refine xZ ?_)
    (apply wP; exact (call_op rfl (entersB_of Tryz.func33 (by kernel_rfl)) rfl (end14_can.at [] trivial trivial)); refine xZ ?_)
    (apply wP; exact (call_op rfl (entersB_of Tryz.func31 (by kernel_rfl)) rfl (ktake.at [6, 7, 2] rfl rfl rfl ⟨lend_cert (c := c) (lend_vecN (lo := 0) hol rfl rfl (by omega) (fun i _ => by rw [Nat.zero_add])) (lend_vecN (lo := 0) hsl2 rfl rfl (by omega) (fun i _ => by rw [Nat.zero_add])), lend_plain rfl, lend_plain rfl, trivial⟩ ⟨lend_ext (c := 2) rfl rfl, trivial⟩)); refine xZ ?_)
    (apply wP; exact (call_op rfl (entersB_of Tryz.func34 (by kernel_rfl)) rfl (kend8.at2 [2] rfl rfl rfl rfl ⟨lend_plain rfl, trivial⟩ ⟨lend_ext (c := 2) rfl rfl, trivial⟩)); refine xZ ?_)
    (apply wP; exact (call_op rfl (entersB_of Tryz.func25 (by kernel_rfl)) rfl (len_spec USet.empty rfl rfl)); refine xZ ?_)
    (apply wP; exact (call_op rfl (entersB_of Tryz.func34 (by kernel_rfl)) rfl (kend9.at2 [2] rfl rfl rfl rfl ⟨lend_plain rfl, trivial⟩ ⟨lend_ext (c := 2) rfl rfl, trivial⟩)); refine xZ ?_)
    have hlen2 := lpaid_len n x
    have hz2 := hp.sized2
    have hat2 : ∀ j, j < n → ((lpaid n x).getD j default).ceased = true := fun j hj => by rw [lpaid, row_at n _ x (by omega), if_pos hj]; rfl
    have hlast2 : (lpaid n x).getD n default = x := by rw [lpaid, row_at n _ x (Nat.lt_succ_self n), if_neg (Nat.lt_irrefl n)]
    have hcoins := hp.coins
    have hclen := hp.len
    have hx1 := hp.root
    have hx2 := hp.bal
    have hx3 := hp.pend
    have hx4 := hp.ceased
    obtain ⟨L2, hL2⟩ : ∃ L, lpaid n x = L := ⟨_, rfl⟩
    rw [hL2] at hlen2 hz2 hat2 hlast2 ⊢
    clear hL2 hp kf ktake kend8 kend9 hmk hout hc htk hL0 hz0
    refine wD <| cutG <| Tri.seq ?_
    (refine Tri.cut 1 Tryz.mixed Tryz.T_ok ?_; refine xZ ?_)
    refine wD <| cutG <| Tri.block ?_
    refine Tri.loop (α := { i : Nat // i ≤ am.length }) (fun i => ppC am n L2 S c (some (XV.int .i64 i.1))) (fun i => am.length - i.1) ⟨0, Nat.zero_le _⟩ ?_ ?_
    · unfold ppC
      ((try dsimp only); refine Ent.renC [0, 1, 2, 3, 4, 5, 6, 7] hC ?_ ?_ <;> repeat' (first | exact trivial | exact rfl | exact ⟨_, rfl, rfl, rfl, Nat.le_refl _, fun _ _ => rfl⟩ | exact ⟨_, rfl, rfl, rfl, fun _ _ => rfl⟩ | exact ⟨_, rfl, rfl, rfl⟩ | exact ⟨_, rfl, rfl⟩ | refine ⟨_, rfl, rfl, rfl, by omega, fun k hk => ?_⟩ | refine ⟨?_, ?_⟩ | fail))
    rintro ⟨i, hi⟩
    dsimp only
    unfold ppC
    (refine Tri.cut 1 Tryz.mixed Tryz.T_ok ?_; refine xZ ?_)
    refine wC (fun h2 => ?_) (fun h2 => ?_)
    · (refine xG ?_)
      have h2' : i < am.length := xW
      have hw : IntKind.i64.wrap ((i : Int) + 1) = ((i + 1 : Nat) : Int) := xW
      have kget := @get_at S (paidH (n : Int) 0 finH) i (by omega) _ (hcoins i h2')
      refine wD <| cutG <| Tri.seq <| Tri.block <| Tri.of Tryz.mixed Tryz.T_ok ?_
      (refine xB ?_)
      simp only [hk1]
      (apply wP; exact (call_op rfl (entersB_of Tryz.func33 (by kernel_rfl)) rfl (end14_can.at [] trivial trivial)); refine xZ ?_)
      (apply wP; exact (call_op rfl (entersB_of Tryz.func36 (by kernel_rfl)) rfl ((rpaid_can (n : Int) 0 finH).at [] ⟨lend_plain rfl, lend_plain rfl, lend_plain rfl, trivial⟩ trivial)); refine xZ ?_)
      (apply wP; exact (call_op rfl (entersB_of Tryz.func21 (by kernel_rfl)) rfl (kget rfl rfl)); refine xZ ?_)
      (repeat (refine wN ?_ ?_; exact xW; refine xG ?_))
      simp only [Nat.zero_add, Int.toNat_natCast]
      (refine wP _ _ (neq_op outE rfl (out14 (pp n am) i) (c.outs.getD i default) rfl rfl) ?_; refine xZ ?_)
      refine wFd (by rw [hat i h2']; simp) ?_
      (refine xG ?_)
      refine wFd (show ((Int64.ofNat 9).toInt != 9) = false by decide) ?_
      (refine xG ?_)
      refine wFd rfl ?_
      (refine xG ?_)
      refine wD <| blockN <| cutG <| Tri.of Tryz.mixed Tryz.T_ok ?_
      (refine xB ?_)
      refine wD <| loopN ⟨⟨i + 1, h2'⟩, by dsimp only; omega, ?_⟩
      rw [hw]
      ((try dsimp only); refine Ent.renC [0, 1, 2, 3, 4, 5, 6, 7] hC ?_ ?_ <;> repeat' (first | exact trivial | exact rfl | exact ⟨_, rfl, rfl, rfl, Nat.le_refl _, fun _ _ => rfl⟩ | exact ⟨_, rfl, rfl, rfl, fun _ _ => rfl⟩ | exact ⟨_, rfl, rfl, rfl⟩ | exact ⟨_, rfl, rfl⟩ | refine ⟨_, rfl, rfl, rfl, by omega, fun k hk => ?_⟩ | refine ⟨?_, ?_⟩ | fail))
    · (refine xG ?_)
      refine wD <| cutE <| loopX <| blockX <| cutG <| Tri.seq ?_
      (refine Tri.cut 1 Tryz.mixed Tryz.T_ok ?_; refine xZ ?_)
      refine wD <| cutG <| Tri.block ?_
      refine Tri.loop (α := { i : Nat // i ≤ n + 1 }) (fun i => ppD am n L2 S c i.1) (fun i => n + 1 - i.1) ⟨0, Nat.zero_le _⟩ ?_ ?_
      · unfold ppD
        ((try dsimp only); refine Ent.renC [0, 1, 2, 3, 4, 5, 6, 7] hC ?_ ?_ <;> repeat' (first | exact trivial | exact rfl | exact ⟨_, rfl, rfl, rfl, Nat.le_refl _, fun _ _ => rfl⟩ | exact ⟨_, rfl, rfl, rfl, fun _ _ => rfl⟩ | exact ⟨_, rfl, rfl, rfl⟩ | exact ⟨_, rfl, rfl⟩ | refine ⟨_, rfl, rfl, rfl, by omega, fun k hk => ?_⟩ | refine ⟨?_, ?_⟩ | fail))
      rintro ⟨j, hj⟩
      dsimp only
      unfold ppD
      (refine Tri.cut 1 Tryz.mixed Tryz.T_ok ?_; refine xZ ?_)
      refine wC (fun h3 => ?_) (fun h3 => ?_)
      · (refine xG ?_)
        have h3' : j < n + 1 := Int.ofNat_lt.1 (of_decide_eq_true h3)
        have hw : IntKind.i64.wrap ((j : Int) + 1) = ((j + 1 : Nat) : Int) := by
          rw [show (j : Int) + 1 = ((j + 1 : Nat) : Int) by omega]
          exact wrap_id (by omega)
        have kin := side_in L2 j (by omega) (hz2 j (by omega))
        refine wD <| cutG <| Tri.seq <| Tri.block <| Tri.of Tryz.mixed Tryz.T_ok ?_
        by_cases hin : j < n
        · obtain ⟨z, hz⟩ : ∃ z, L2.getD j default = z := ⟨_, rfl⟩
          have hzc := hat2 j hin
          rw [hz] at hzc
          rw [hz] at kin
          (refine xB ?_)
          (apply wP; exact (call_op rfl (entersB_of Tryz.func22 (by kernel_rfl)) rfl (kin.at1 [] rfl rfl rfl ⟨lend_plain rfl, trivial⟩ trivial)); refine xZ ?_)
          simp only [hk1]
          refine wFd (by rw [hzc, decide_eq_true (show (j : Int) < (n : Int) by omega)]; rfl) ?_
          (refine xG ?_)
          simp only [hk1]
          refine wFd (by rw [beq_eq_false_iff_ne]; omega) ?_
          (refine xG ?_)
          refine wD <| blockN <| cutG <| Tri.of Tryz.mixed Tryz.T_ok ?_
          (refine xB ?_)
          refine wD <| loopN ⟨⟨j + 1, h3'⟩, by dsimp only; omega, ?_⟩
          rw [hw]
          ((try dsimp only); refine Ent.renC [0, 1, 2, 3, 4, 5, 6, 7] hC ?_ ?_ <;> repeat' (first | exact trivial | exact rfl | exact ⟨_, rfl, rfl, rfl, Nat.le_refl _, fun _ _ => rfl⟩ | exact ⟨_, rfl, rfl, rfl, fun _ _ => rfl⟩ | exact ⟨_, rfl, rfl, rfl⟩ | exact ⟨_, rfl, rfl⟩ | refine ⟨_, rfl, rfl, rfl, by omega, fun k hk => ?_⟩ | refine ⟨?_, ?_⟩ | fail))
        · have hjn : j = n := by omega
          rw [show L2.getD j default = x by rw [hjn]; exact hlast2] at kin
          have hsl := sumU_le am
          have e9 : IntKind.i64.wrap (9000 - sumU am) = 9000 - sumU am := wrap_id (by omega)
          (refine xB ?_)
          (apply wP; exact (call_op rfl (entersB_of Tryz.func22 (by kernel_rfl)) rfl (kin.at1 [] rfl rfl rfl ⟨lend_plain rfl, trivial⟩ trivial)); refine xZ ?_)
          simp only [hk1]
          refine wFd (by rw [hx4, decide_eq_false (show ¬ (j : Int) < (n : Int) by omega)]; rfl) ?_
          (refine xG ?_)
          simp only [hk1]
          refine wTd (by rw [beq_iff_eq]; omega) ?_
          (refine xG ?_)
          (refine wP _ _ (neq_op hashE rfl x.root c.root rfl rfl) ?_; refine xZ ?_)
          refine wFd (by rw [hx1, hroot]; simp) ?_
          (refine xG ?_)
          simp only [e9]
          refine wFd (by rw [hx2]; simp) ?_
          (refine xG ?_)
          refine wFd hx3 ?_
          (refine xG ?_)
          refine wD <| blockN <| cutG <| Tri.of Tryz.mixed Tryz.T_ok ?_
          (refine xB ?_)
          refine wD <| loopN ⟨⟨j + 1, h3'⟩, by dsimp only; omega, ?_⟩
          rw [hw]
          ((try dsimp only); refine Ent.renC [0, 1, 2, 3, 4, 5, 6, 7] hC ?_ ?_ <;> repeat' (first | exact trivial | exact rfl | exact ⟨_, rfl, rfl, rfl, Nat.le_refl _, fun _ _ => rfl⟩ | exact ⟨_, rfl, rfl, rfl, fun _ _ => rfl⟩ | exact ⟨_, rfl, rfl, rfl⟩ | exact ⟨_, rfl, rfl⟩ | refine ⟨_, rfl, rfl, rfl, by omega, fun k hk => ?_⟩ | refine ⟨?_, ?_⟩ | fail))
      · (refine xG ?_)
        refine wD <| cutE <| loopX <| blockX <| cutG <| Tri.of Tryz.mixed Tryz.T_ok ?_
        (refine xB ?_)
        (apply wP; exact (call_op rfl (entersB_of Tryz.func25 (by kernel_rfl)) rfl (len_spec S rfl rfl)); refine xZ ?_)
        exact wD (Ends.plain (.inr rfl) rfl (congrArg (fun b : Bool => XV.bool b) (by rw [hclen, beq_iff_eq])))
end Go.Proofs.YtnpkdoggfnlapaaGreatDoor

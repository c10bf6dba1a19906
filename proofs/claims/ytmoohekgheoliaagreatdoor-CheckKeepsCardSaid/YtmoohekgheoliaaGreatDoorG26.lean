/- Parts We Hp Hq Hr. -/
import Derived.Test.YtmoohekgheoliaaGreatDoorG25
import Derived.Test.YtmoohekgheoliaaGreatDoorG17
set_option linter.unusedSimpArgs false
set_option linter.unusedVariables false
namespace Go.Proofs.YtmoohekgheoliaaGreatDoor
set_option maxRecDepth 100000
open Go.Sx
def keM0 (l : List LCoin) (p : PlanM) : Mem := [(0, .ro 4 l.length (coinsF l)), (1, .ro 1 p.ins.length (rowB p.ins)), (2, .ro 4 p.outs.length (coinsF p.outs)), (3, .ro 11 p.fwds.length (fwdsF p.fwds)), (5, .ext stepsP)]
def keSt1 (l : List LCoin) (p : PlanM) (h : UInt8) (F : FillM) : St :=
  ⟨[none, none, some (XV.val (u8 h)), none, some (XV.sv (.ptr 6 0 0 0)), none, none, some (XV.sv (.ptr 7 0 0 0)), some (XV.sv (.ptr 8 0 0 0)), some (XV.sv (.slc 9 4 0 F.I.length))] ++ List.replicate 167 none,
   keM0 l p ++ [(6, .cells 26 (boxC 1 p.ac)), (7, .abs (usetP F.S)), (8, .abs (rcP F.R)), (9, .vec 79 4 F.I.length (coinsF F.I))], 10⟩
noncomputable def keM2 (l : List LCoin) (p : PlanM) (F : FillM) (S : USet) : Mem :=
  keM0 l p ++ [(6, .abs (usetP S)), (7, .abs (rcP F.R)), (8, .cells 49 (mkCells (.slc 9 298 0 p.ins.length) (.slc 10 9 0 p.outs.length) (.slc 11 11 0 p.fwds.length))),
    (9, .vec 65 298 p.ins.length (insF (makeT p F.I).ins)), (10, .vec 67 9 p.outs.length (outsF (makeT p F.I).outs)), (11, .vec 56 11 p.fwds.length (fwdsF p.fwds))]
def overN (t : TxM) : Nat → Int
  | 0 => 0
  | i + 1 => IntKind.i64.wrap (overN t i + (t.fwds.getD i default).amt.toInt)
structure KeepsLaw (t : TxM) (S S' : USet) (H : Int64) (fee : Int) (nR : Nat) : Prop where
  outs : ∀ i, i < t.outs.length → S'.has (ptAt (payID t) i) = true ∧ S'.get (ptAt (payID t) i) = ⟨(t.outs.getD i default).to, (t.outs.getD i default).amt, H, false⟩
  ins : ∀ i, i < t.ins.length → S'.has (t.ins.getD i default).pt = false
  pos : 0 ≤ fee
  sum : S.total = IntKind.i64.wrap (IntKind.i64.wrap (S'.total + overN t t.fwds.length) + fee)
  len : (S'.coins.length : Int) = IntKind.i64.wrap (IntKind.i64.wrap ((nR : Int) - (t.ins.length : Int)) + (t.outs.length : Int))
noncomputable def keSt (l : List LCoin) (p : PlanM) (h : UInt8) (F : FillM) (S' : USet) (fee : Int) (s14 s15 s16 s18 s19 s22 : Option XV) (ex : Mem) (nx : Nat) : St :=
  ⟨[none, none, some (XV.val (u8 h)), none, none, none, none, some (XV.sv (.ptr 6 0 0 0)), some (XV.sv (.ptr 7 0 0 0)), none, some (XV.sv (.ptr 8 0 0 0)), some (XV.int .i64 F.S.total), some (XV.int .i64 fee), none, s14, s15, s16, none, s18, s19, none, none, s22] ++ List.replicate 154 none, keM2 l p F S' ++ ex, nx⟩
noncomputable def keSt2 (l : List LCoin) (p : PlanM) (h : UInt8) (F : FillM) : St :=
  ⟨[none, none, some (XV.val (u8 h)), none, none, none, none, some (XV.sv (.ptr 6 0 0 0)), some (XV.sv (.ptr 7 0 0 0)), none, some (XV.sv (.ptr 8 0 0 0))] ++ List.replicate 166 none, keM2 l p F F.S, 12⟩
set_option maxHeartbeats 8000000 in
theorem keeps_walk (haw : Reads Tryz.prog 9 [] [stepsP] (XV.bool true)) (l : List LCoin) (p : PlanM) (h : UInt8) (hl : l.length ≤ maxLen) (h1 : p.ins.length ≤ maxLen) (h2 : p.outs.length ≤ maxLen) (h3 : p.fwds.length ≤ maxLen)
    (hlaw : fewB p l.length = true → ∀ hm : mayPay (makeT p (fillN l l.length).I) claim0_wf = true, (doE (fillN l l.length).S (makeT p (fillN l l.length).I) (Int64.ofNat h.toNat)).2.2 = 0 → (∀ i, i < (makeT p (fillN l l.length).I).ins.length → ((makeT p (fillN l l.length).I).ins.getD i default).pt.tx ≠ payID (makeT p (fillN l l.length).I)) →
      KeepsLaw (makeT p (fillN l l.length).I) (fillN l l.length).S (doE (fillN l l.length).S (makeT p (fillN l l.length).I) (Int64.ofNat h.toNat)).1 (Int64.ofNat h.toNat) (doE (fillN l l.length).S (makeT p (fillN l l.length).I) (Int64.ofNat h.toNat)).2.1 (fillN l l.length).R.P.length) :
    Reads Tryz.prog 3 [.row 4 l.length (coinsF l), .box p.ac, .plain (.one (.raw (u8 h)))] [stepsP] (XV.bool true) := by
  refine Reads.of Tryz.T_ok Tryz.func3 rfl _ _ _ rfl rfl (fun C hC => ?_)
  (replace hC : C.n0 = 6 := hC; change Tri _ _ _ ⟨_, _, 6⟩ _)
  (refine Tri.cut 4 Tryz.mixed Tryz.T_ok ?_; ((conv => arg 5; whnf); repeat ((with_reducible first | refine xT ?_ | refine xF ?_ | refine xO ?_ | refine xN ?_ | refine xU ?_ | refine xV ?_); conv => arg 5; whnf)))
  (apply wP; exact (call_op rfl (entersB_of Tryz.func9 (by kernel_rfl)) rfl (haw.at [5] trivial ⟨lend_ext (c := 5) rfl rfl, trivial⟩)); ((conv => arg 5; whnf); repeat ((with_reducible first | refine xT ?_ | refine xF ?_ | refine xO ?_ | refine xN ?_ | refine xU ?_ | refine xV ?_); conv => arg 5; whnf)))
  (apply wP; exact (call_op rfl (entersB_of Tryz.func10 (by kernel_rfl)) rfl ((few_can p l h1 h2 h3 hl).at [0, 1, 2, 3] ⟨lend_box ⟨lend_ro0 rfl rfl, lend_ro0 rfl rfl, lend_ro0 rfl rfl, rfl, trivial⟩, lend_ro0 rfl rfl, trivial⟩ trivial)); ((conv => arg 5; whnf); repeat ((with_reducible first | refine xT ?_ | refine xF ?_ | refine xO ?_ | refine xN ?_ | refine xU ?_ | refine xV ?_); conv => arg 5; whnf)))
  refine wC (fun hfew => ?_) (fun hfew => ?_)
  · (refine wGo ?_; ((conv => arg 5; whnf); repeat ((with_reducible first | refine xT ?_ | refine xF ?_ | refine xO ?_ | refine xN ?_ | refine xU ?_ | refine xV ?_); conv => arg 5; whnf)))
    exact wD <| cutR <| Ends.plain (.inr rfl) rfl rfl
  have hfew' : fewB p l.length = true := by simpa using hfew
  have hlaw := hlaw hfew'
  rw [fewB, Bool.and_eq_true, Bool.and_eq_true, Bool.and_eq_true, decide_eq_true_eq, decide_eq_true_eq, decide_eq_true_eq, decide_eq_true_eq] at hfew'
  obtain ⟨⟨⟨f1, f2⟩, f3⟩, f4⟩ := hfew'
  (refine wGo ?_; ((conv => arg 5; whnf); repeat ((with_reducible first | refine xT ?_ | refine xF ?_ | refine xO ?_ | refine xN ?_ | refine xU ?_ | refine xV ?_); conv => arg 5; whnf)))
  obtain ⟨F, hF⟩ : ∃ F, fillN l l.length = F := ⟨_, rfl⟩
  have hlen := fillN_len l l.length
  have hfill := fill_can l (by omega)
  rw [hF] at hlen hfill hlaw
  obtain ⟨l1, l2, l3, l4⟩ := hlen
  (apply wP; exact (call_op rfl (entersB_of Tryz.func11 (by kernel_rfl)) rfl (hfill.at [0] ⟨lend_ro0 rfl rfl, trivial⟩ trivial)); ((conv => arg 5; whnf); repeat ((with_reducible first | refine xT ?_ | refine xF ?_ | refine xO ?_ | refine xN ?_ | refine xU ?_ | refine xV ?_); conv => arg 5; whnf)))
  refine wD <| cutG <| Tri.ent (Ent.unpack (c := 15) (l := fillPack F) rfl) <| Tri.ent (S' := keSt1 l p h F) ?_ ?_
  · unfold keSt1 keM0
    ((try dsimp only); refine Ent.renC [0, 1, 2, 3, 4, 5, 6, 23, 24, 25] hC ?_ ?_ <;> repeat' (first | exact trivial | exact rfl | exact ⟨_, rfl, rfl, rfl, Nat.le_refl _, fun _ _ => rfl⟩ | exact ⟨_, rfl, rfl, rfl, fun _ _ => rfl⟩ | exact ⟨_, rfl, rfl, rfl⟩ | exact ⟨_, rfl, rfl⟩ | refine ⟨_, rfl, rfl, rfl, by omega, fun k hk => ?_⟩ | refine ⟨?_, ?_⟩ | fail))
  unfold keSt1 keM0
  (refine Tri.cut 2 Tryz.mixed Tryz.T_ok ?_; ((conv => arg 5; whnf); repeat ((with_reducible first | refine xT ?_ | refine xF ?_ | refine xO ?_ | refine xN ?_ | refine xU ?_ | refine xV ?_); conv => arg 5; whnf)))
  (apply wP; exact (call_op rfl (entersB_of Tryz.func12 (by kernel_rfl)) rfl ((make_can p F.I (by omega) (by omega) (by omega) (by omega)).at [1, 2, 3, 9] ⟨lend_box ⟨lend_ro0 rfl rfl, lend_ro0 rfl rfl, lend_ro0 rfl rfl, rfl, trivial⟩, lend_vec0 rfl rfl, trivial⟩ trivial)); ((conv => arg 5; whnf); repeat ((with_reducible first | refine xT ?_ | refine xF ?_ | refine xO ?_ | refine xN ?_ | refine xU ?_ | refine xV ?_); conv => arg 5; whnf)))
  refine wD <| cutG <| Tri.ent (Ent.unpack (c := 14) (l := [.vec 65 298 p.ins.length (insF (mkIns p F.I p.ins.length)), .vec 67 9 p.outs.length (outsF (p.outs.map LCoin.out)), .vec 56 11 p.fwds.length (fwdsF p.fwds)]) rfl) <| Tri.ent (S' := keSt2 l p h F) ?_ ?_
  · unfold keSt2 keM2 keM0
    ((try dsimp only); refine Ent.renC [0, 1, 2, 3, 4, 5, 7, 8, 15, 17, 18, 19] hC ?_ ?_ <;> repeat' (first | exact trivial | exact rfl | exact ⟨_, rfl, rfl, rfl, Nat.le_refl _, fun _ _ => rfl⟩ | exact ⟨_, rfl, rfl, rfl, fun _ _ => rfl⟩ | exact ⟨_, rfl, rfl, rfl⟩ | exact ⟨_, rfl, rfl⟩ | refine ⟨_, rfl, rfl, rfl, by omega, fun k hk => ?_⟩ | refine ⟨?_, ?_⟩ | fail))
  unfold keSt2 keM2 keM0
  have hI : (makeT p F.I).ins.length = p.ins.length := mkIns_len p F.I _
  have hO : (makeT p F.I).outs.length = p.outs.length := List.length_map _
  have hsz : Sized (makeT p F.I) := makeT_sized (by omega) (by omega) (by omega)
  have eH : IntKind.i64.wrap ((h.toNat : Nat) : Int) = (Int64.ofNat h.toNat).toInt := by
    have := h.toNat_lt
    rw [← ofNat_toInt (by omega)]
    exact (by (try simp only [ww1, ww2, ww3, ww4, ww5, ww6, ww7] at *); omega)
  cases hm : mayPay (makeT p F.I) claim0_wf with
  | false =>
    have hdo := do_bad F.S (makeT p F.I) (Int64.ofNat h.toNat).toInt rfl hsz claim0_wf hm
    (refine Tri.cut 3 Tryz.mixed Tryz.T_ok ?_; ((conv => arg 5; whnf); repeat ((with_reducible first | refine xT ?_ | refine xF ?_ | refine xO ?_ | refine xN ?_ | refine xU ?_ | refine xV ?_); conv => arg 5; whnf)))
    (apply wP; exact (call_op rfl (entersB_of Tryz.func13 (by kernel_rfl)) rfl (total_spec F.S rfl rfl)); ((conv => arg 5; whnf); repeat ((with_reducible first | refine xT ?_ | refine xF ?_ | refine xO ?_ | refine xN ?_ | refine xU ?_ | refine xV ?_); conv => arg 5; whnf)))
    simp only [eH]
    (apply wP; exact (call_op rfl (entersB_of Tryz.func14 (by kernel_rfl)) rfl (hdo.at [9, 10, 11, 5] rfl rfl rfl ⟨lend_tx (t := makeT p F.I) (lend_vecN (lo := 0) hI.symm rfl rfl (by omega) (fun i _ => by rw [Nat.zero_add])) (lend_vecN (lo := 0) hO.symm rfl rfl (by omega) (fun i _ => by rw [Nat.zero_add])) (lend_vec0 rfl rfl) (lend_nil _ _) (lend_nil _ _) (lend_nil _ _), lend_plain rfl, trivial⟩ ⟨lend_ext (c := 5) rfl rfl, trivial⟩)); ((conv => arg 5; whnf); repeat ((with_reducible first | refine xT ?_ | refine xF ?_ | refine xO ?_ | refine xN ?_ | refine xU ?_ | refine xV ?_); conv => arg 5; whnf)))
    exact wD <| cutR <| Ends.plain (.inr rfl) rfl rfl
  | true =>
  have hdo := do_can F.S (makeT p F.I) (Int64.ofNat h.toNat) rfl hsz claim0_wf hm (by omega)
  have hlaw := hlaw hm
  obtain ⟨D, hD⟩ : ∃ D, doE F.S (makeT p F.I) (Int64.ofNat h.toNat) = D := ⟨_, rfl⟩
  rw [hD] at hdo hlaw
  (refine Tri.cut 3 Tryz.mixed Tryz.T_ok ?_; ((conv => arg 5; whnf); repeat ((with_reducible first | refine xT ?_ | refine xF ?_ | refine xO ?_ | refine xN ?_ | refine xU ?_ | refine xV ?_); conv => arg 5; whnf)))
  (apply wP; exact (call_op rfl (entersB_of Tryz.func13 (by kernel_rfl)) rfl (total_spec F.S rfl rfl)); ((conv => arg 5; whnf); repeat ((with_reducible first | refine xT ?_ | refine xF ?_ | refine xO ?_ | refine xN ?_ | refine xU ?_ | refine xV ?_); conv => arg 5; whnf)))
  simp only [eH]
  (apply wP; exact (call_op rfl (entersB_of Tryz.func14 (by kernel_rfl)) rfl (hdo.at [9, 10, 11, 5] rfl rfl rfl ⟨lend_tx (t := makeT p F.I) (lend_vecN (lo := 0) hI.symm rfl rfl (by omega) (fun i _ => by rw [Nat.zero_add])) (lend_vecN (lo := 0) hO.symm rfl rfl (by omega) (fun i _ => by rw [Nat.zero_add])) (lend_vec0 rfl rfl) (lend_nil _ _) (lend_nil _ _) (lend_nil _ _), lend_plain rfl, trivial⟩ ⟨lend_ext (c := 5) rfl rfl, trivial⟩)); ((conv => arg 5; whnf); repeat ((with_reducible first | refine xT ?_ | refine xF ?_ | refine xO ?_ | refine xN ?_ | refine xU ?_ | refine xV ?_); conv => arg 5; whnf)))
  refine wC (fun he => ?_) (fun he => ?_)
  · (refine wGo ?_; ((conv => arg 5; whnf); repeat ((with_reducible first | refine xT ?_ | refine xF ?_ | refine xO ?_ | refine xN ?_ | refine xU ?_ | refine xV ?_); conv => arg 5; whnf)))
    exact wD <| cutR <| Ends.plain (.inr rfl) rfl rfl
  have he' : D.2.2 = 0 := by simpa using he
  have hlaw := hlaw he'
  (refine wGo ?_; ((conv => arg 5; whnf); repeat ((with_reducible first | refine xT ?_ | refine xF ?_ | refine xO ?_ | refine xN ?_ | refine xU ?_ | refine xV ?_); conv => arg 5; whnf)))
  refine wD <| cutG ?_
  (refine Tri.cut 1 Tryz.mixed Tryz.T_ok ?_; ((conv => arg 5; whnf); repeat ((with_reducible first | refine xT ?_ | refine xF ?_ | refine xO ?_ | refine xN ?_ | refine xU ?_ | refine xV ?_); conv => arg 5; whnf)))
  refine wD <| cutG <| Tri.seq ?_
  (refine Tri.cut 1 Tryz.mixed Tryz.T_ok ?_; ((conv => arg 5; whnf); repeat ((with_reducible first | refine xT ?_ | refine xF ?_ | refine xO ?_ | refine xN ?_ | refine xU ?_ | refine xV ?_); conv => arg 5; whnf)))
  refine wD <| cutG <| Tri.block ?_
  refine Tri.loop (α := { i : Nat // i ≤ p.fwds.length }) (fun i => keSt l p h F D.1 D.2.1 (some (XV.int .i64 (overN (makeT p F.I) i.1))) (some (XV.int .i64 i.1)) none none none none [] 12) (fun i => p.fwds.length - i.1) ⟨0, Nat.zero_le _⟩ ?_ ?_
  · dsimp only
    unfold keSt keM2 keM0
    ((try dsimp only); refine Ent.renC [0, 1, 2, 3, 4, 5, 6, 7, 8, 9, 10, 11] hC ?_ ?_ <;> repeat' (first | exact trivial | exact rfl | exact ⟨_, rfl, rfl, rfl, Nat.le_refl _, fun _ _ => rfl⟩ | exact ⟨_, rfl, rfl, rfl, fun _ _ => rfl⟩ | exact ⟨_, rfl, rfl, rfl⟩ | exact ⟨_, rfl, rfl⟩ | refine ⟨_, rfl, rfl, rfl, by omega, fun k hk => ?_⟩ | refine ⟨?_, ?_⟩ | fail))
  rintro ⟨i, hi⟩
  dsimp only
  unfold keSt keM2 keM0
  (refine Tri.cut 1 Tryz.mixed Tryz.T_ok ?_; ((conv => arg 5; whnf); repeat ((with_reducible first | refine xT ?_ | refine xF ?_ | refine xO ?_ | refine xN ?_ | refine xU ?_ | refine xV ?_); conv => arg 5; whnf)))
  refine wC (fun hh => ?_) (fun hh => ?_)
  · (refine wGo ?_; ((conv => arg 5; whnf); repeat ((with_reducible first | refine xT ?_ | refine xF ?_ | refine xO ?_ | refine xN ?_ | refine xU ?_ | refine xV ?_); conv => arg 5; whnf)))
    have h' : i < p.fwds.length := (by (try simp only [ww1, ww2, ww3, ww4, ww5, ww6, ww7] at *); omega)
    have hw : IntKind.i64.wrap ((i : Int) + 1) = ((i + 1 : Nat) : Int) := (by (try simp only [ww1, ww2, ww3, ww4, ww5, ww6, ww7] at *); omega)
    refine wD <| cutG <| Tri.seq <| Tri.block <| Tri.of Tryz.mixed Tryz.T_ok ?_
    (refine wBegin ?_; ((conv => arg 5; whnf); repeat ((with_reducible first | refine xT ?_ | refine xF ?_ | refine xO ?_ | refine xN ?_ | refine xU ?_ | refine xV ?_); conv => arg 5; whnf)))
    (repeat (refine wN ?_ ?_; exact (by (try simp only [ww1, ww2, ww3, ww4, ww5, ww6, ww7] at *); omega); refine wGo ?_; ((conv => arg 5; whnf); repeat ((with_reducible first | refine xT ?_ | refine xF ?_ | refine xO ?_ | refine xN ?_ | refine xU ?_ | refine xV ?_); conv => arg 5; whnf))))
    simp only [Nat.zero_add, Int.toNat_natCast]
    refine wD <| blockN <| cutG <| Tri.of Tryz.mixed Tryz.T_ok ?_
    (refine wBegin ?_; ((conv => arg 5; whnf); repeat ((with_reducible first | refine xT ?_ | refine xF ?_ | refine xO ?_ | refine xN ?_ | refine xU ?_ | refine xV ?_); conv => arg 5; whnf)))
    refine wD <| loopN ⟨⟨i + 1, h'⟩, by dsimp only; omega, ?_⟩
    rw [hw]
    dsimp only
    ((try dsimp only); refine Ent.renC [0, 1, 2, 3, 4, 5, 6, 7, 8, 9, 10, 11] hC ?_ ?_ <;> repeat' (first | exact trivial | exact rfl | exact ⟨_, rfl, rfl, rfl, Nat.le_refl _, fun _ _ => rfl⟩ | exact ⟨_, rfl, rfl, rfl, fun _ _ => rfl⟩ | exact ⟨_, rfl, rfl, rfl⟩ | exact ⟨_, rfl, rfl⟩ | refine ⟨_, rfl, rfl, rfl, by omega, fun k hk => ?_⟩ | refine ⟨?_, ?_⟩ | fail))
  (refine wGo ?_; ((conv => arg 5; whnf); repeat ((with_reducible first | refine xT ?_ | refine xF ?_ | refine xO ?_ | refine xN ?_ | refine xU ?_ | refine xV ?_); conv => arg 5; whnf)))
  have h' : i = p.fwds.length := (by (try simp only [ww1, ww2, ww3, ww4, ww5, ww6, ww7] at *); omega)
  subst h'
  refine wD <| cutE <| loopX <| blockX <| cutG ?_
  (refine Tri.cut 1 Tryz.mixed Tryz.T_ok ?_; ((conv => arg 5; whnf); repeat ((with_reducible first | refine xT ?_ | refine xF ?_ | refine xO ?_ | refine xN ?_ | refine xU ?_ | refine xV ?_); conv => arg 5; whnf)))
  (apply wP; exact (call_op rfl (entersB_of Tryz.func15 (by kernel_rfl)) rfl ((rid_can (makeT p F.I) rfl hsz claim0_wf hm).at [9, 10, 11] ⟨lend_tx (t := makeT p F.I) (lend_vecN (lo := 0) hI.symm rfl rfl (by omega) (fun i _ => by rw [Nat.zero_add])) (lend_vecN (lo := 0) hO.symm rfl rfl (by omega) (fun i _ => by rw [Nat.zero_add])) (lend_vec0 rfl rfl) (lend_nil _ _) (lend_nil _ _) (lend_nil _ _), trivial⟩ trivial)); ((conv => arg 5; whnf); repeat ((with_reducible first | refine xT ?_ | refine xF ?_ | refine xO ?_ | refine xN ?_ | refine xU ?_ | refine xV ?_); conv => arg 5; whnf)))
  obtain ⟨id, hid⟩ : ∃ id, payID (makeT p F.I) = id := ⟨_, rfl⟩
  rw [hid] at hlaw
  rw [show dig 120 [payEnc (makeT p F.I)] = id from hid]
  refine wD <| cutG <| Tri.seq ?_
  (refine Tri.cut 1 Tryz.mixed Tryz.T_ok ?_; ((conv => arg 5; whnf); repeat ((with_reducible first | refine xT ?_ | refine xF ?_ | refine xO ?_ | refine xN ?_ | refine xU ?_ | refine xV ?_); conv => arg 5; whnf)))
  refine wD <| cutG <| Tri.block ?_
  refine Tri.loop (α := { i : Nat // i ≤ p.ins.length ∧ ∀ j, j < i → ((makeT p F.I).ins.getD j default).pt.tx ≠ id }) (fun i => keSt l p h F D.1 D.2.1 (some (XV.int .i64 (overN (makeT p F.I) p.fwds.length))) none (some (XV.sv (.ptr 12 0 0 0))) (some (XV.int .i64 i.1)) none none [(12, .cells 39 (id.cells.map .raw))] 13) (fun i => p.ins.length - i.1) ⟨0, Nat.zero_le _, fun j hj => absurd hj (Nat.not_lt_zero _)⟩ ?_ ?_
  · dsimp only
    unfold keSt keM2 keM0
    ((try dsimp only); refine Ent.renC [0, 1, 2, 3, 4, 5, 6, 7, 8, 9, 10, 11, 22] hC ?_ ?_ <;> repeat' (first | exact trivial | exact rfl | exact ⟨_, rfl, rfl, rfl, Nat.le_refl _, fun _ _ => rfl⟩ | exact ⟨_, rfl, rfl, rfl, fun _ _ => rfl⟩ | exact ⟨_, rfl, rfl, rfl⟩ | exact ⟨_, rfl, rfl⟩ | refine ⟨_, rfl, rfl, rfl, by omega, fun k hk => ?_⟩ | refine ⟨?_, ?_⟩ | fail))
  rintro ⟨i, hii, hne⟩
  dsimp only
  unfold keSt keM2 keM0
  (refine Tri.cut 1 Tryz.mixed Tryz.T_ok ?_; ((conv => arg 5; whnf); repeat ((with_reducible first | refine xT ?_ | refine xF ?_ | refine xO ?_ | refine xN ?_ | refine xU ?_ | refine xV ?_); conv => arg 5; whnf)))
  refine wC (fun hh => ?_) (fun hh => ?_)
  · (refine wGo ?_; ((conv => arg 5; whnf); repeat ((with_reducible first | refine xT ?_ | refine xF ?_ | refine xO ?_ | refine xN ?_ | refine xU ?_ | refine xV ?_); conv => arg 5; whnf)))
    have h' : i < p.ins.length := (by (try simp only [ww1, ww2, ww3, ww4, ww5, ww6, ww7] at *); omega)
    have hw : IntKind.i64.wrap ((i : Int) + 1) = ((i + 1 : Nat) : Int) := (by (try simp only [ww1, ww2, ww3, ww4, ww5, ww6, ww7] at *); omega)
    refine wD <| cutG <| Tri.seq <| Tri.block <| Tri.of Tryz.mixed Tryz.T_ok ?_
    (refine wBegin ?_; ((conv => arg 5; whnf); repeat ((with_reducible first | refine xT ?_ | refine xF ?_ | refine xO ?_ | refine xN ?_ | refine xU ?_ | refine xV ?_); conv => arg 5; whnf)))
    (repeat (refine wN ?_ ?_; exact (by (try simp only [ww1, ww2, ww3, ww4, ww5, ww6, ww7] at *); omega); refine wGo ?_; ((conv => arg 5; whnf); repeat ((with_reducible first | refine xT ?_ | refine xF ?_ | refine xO ?_ | refine xN ?_ | refine xU ?_ | refine xV ?_); conv => arg 5; whnf))))
    simp only [Nat.zero_add, Int.toNat_natCast]
    (refine wP _ _ (eq_op hashE rfl ((makeT p F.I).ins.getD i default).pt.tx id rfl rfl) ?_; ((conv => arg 5; whnf); repeat ((with_reducible first | refine xT ?_ | refine xF ?_ | refine xO ?_ | refine xN ?_ | refine xU ?_ | refine xV ?_); conv => arg 5; whnf)))
    refine wC (fun hb => ?_) (fun hb => ?_)
    · (refine wGo ?_; ((conv => arg 5; whnf); repeat ((with_reducible first | refine xT ?_ | refine xF ?_ | refine xO ?_ | refine xN ?_ | refine xU ?_ | refine xV ?_); conv => arg 5; whnf)))
      exact wD <| blockR <| cutR <| loopR <| blockR <| cutR <| Ends.plain (.inr rfl) rfl rfl
    · have hb' := of_decide_eq_false hb
      (refine wGo ?_; ((conv => arg 5; whnf); repeat ((with_reducible first | refine xT ?_ | refine xF ?_ | refine xO ?_ | refine xN ?_ | refine xU ?_ | refine xV ?_); conv => arg 5; whnf)))
      refine wD <| blockN <| cutG <| Tri.of Tryz.mixed Tryz.T_ok ?_
      (refine wBegin ?_; ((conv => arg 5; whnf); repeat ((with_reducible first | refine xT ?_ | refine xF ?_ | refine xO ?_ | refine xN ?_ | refine xU ?_ | refine xV ?_); conv => arg 5; whnf)))
      refine wD <| loopN ⟨⟨i + 1, h', fun j hj => ?_⟩, by dsimp only; omega, ?_⟩
      · by_cases e : j = i
        · subst e; exact hb'
        · exact hne j (by omega)
      rw [hw]
      dsimp only
      ((try dsimp only); refine Ent.renC [0, 1, 2, 3, 4, 5, 6, 7, 8, 9, 10, 11, 12] hC ?_ ?_ <;> repeat' (first | exact trivial | exact rfl | exact ⟨_, rfl, rfl, rfl, Nat.le_refl _, fun _ _ => rfl⟩ | exact ⟨_, rfl, rfl, rfl, fun _ _ => rfl⟩ | exact ⟨_, rfl, rfl, rfl⟩ | exact ⟨_, rfl, rfl⟩ | refine ⟨_, rfl, rfl, rfl, by omega, fun k hk => ?_⟩ | refine ⟨?_, ?_⟩ | fail))
  (refine wGo ?_; ((conv => arg 5; whnf); repeat ((with_reducible first | refine xT ?_ | refine xF ?_ | refine xO ?_ | refine xN ?_ | refine xU ?_ | refine xV ?_); conv => arg 5; whnf)))
  have h' : i = p.ins.length := (by (try simp only [ww1, ww2, ww3, ww4, ww5, ww6, ww7] at *); omega)
  subst h'
  have law := hlaw (fun j hj => hne j (by omega))
  clear hlaw
  refine wD <| cutE <| loopX <| blockX <| cutG <| Tri.seq ?_
  (refine Tri.cut 1 Tryz.mixed Tryz.T_ok ?_; ((conv => arg 5; whnf); repeat ((with_reducible first | refine xT ?_ | refine xF ?_ | refine xO ?_ | refine xN ?_ | refine xU ?_ | refine xV ?_); conv => arg 5; whnf)))
  refine wD <| cutG <| Tri.block ?_
  refine Tri.loop (α := { i : Nat // i ≤ p.outs.length }) (fun i => keSt l p h F D.1 D.2.1 (some (XV.int .i64 (overN (makeT p F.I) p.fwds.length))) none (some (XV.sv (.ptr 12 0 0 0))) none (some (XV.int .i64 i.1)) none [(12, .cells 39 (id.cells.map .raw))] 13) (fun i => p.outs.length - i.1) ⟨0, Nat.zero_le _⟩ ?_ ?_
  · dsimp only
    unfold keSt keM2 keM0
    ((try dsimp only); refine Ent.renC [0, 1, 2, 3, 4, 5, 6, 7, 8, 9, 10, 11, 12] hC ?_ ?_ <;> repeat' (first | exact trivial | exact rfl | exact ⟨_, rfl, rfl, rfl, Nat.le_refl _, fun _ _ => rfl⟩ | exact ⟨_, rfl, rfl, rfl, fun _ _ => rfl⟩ | exact ⟨_, rfl, rfl, rfl⟩ | exact ⟨_, rfl, rfl⟩ | refine ⟨_, rfl, rfl, rfl, by omega, fun k hk => ?_⟩ | refine ⟨?_, ?_⟩ | fail))
  rintro ⟨i, hi⟩
  dsimp only
  unfold keSt keM2 keM0
  (refine Tri.cut 1 Tryz.mixed Tryz.T_ok ?_; ((conv => arg 5; whnf); repeat ((with_reducible first | refine xT ?_ | refine xF ?_ | refine xO ?_ | refine xN ?_ | refine xU ?_ | refine xV ?_); conv => arg 5; whnf)))
  refine wC (fun hh => ?_) (fun hh => ?_)
  · (refine wGo ?_; ((conv => arg 5; whnf); repeat ((with_reducible first | refine xT ?_ | refine xF ?_ | refine xO ?_ | refine xN ?_ | refine xU ?_ | refine xV ?_); conv => arg 5; whnf)))
    have h' : i < p.outs.length := (by (try simp only [ww1, ww2, ww3, ww4, ww5, ww6, ww7] at *); omega)
    have hw : IntKind.i64.wrap ((i : Int) + 1) = ((i + 1 : Nat) : Int) := (by (try simp only [ww1, ww2, ww3, ww4, ww5, ww6, ww7] at *); omega)
    have e64 := ofNat_toInt (i := i) (by omega)
    have ho := law.outs i (by omega)
    rw [hid] at ho
    refine wD <| cutG <| Tri.seq <| Tri.block ?_
    (refine Tri.cut 1 Tryz.mixed Tryz.T_ok ?_; ((conv => arg 5; whnf); repeat ((with_reducible first | refine xT ?_ | refine xF ?_ | refine xO ?_ | refine xN ?_ | refine xU ?_ | refine xV ?_); conv => arg 5; whnf)))
    rw [e64]
    (apply wP; exact (call_op rfl (entersB_of Tryz.func16 (by kernel_rfl)) rfl (get_spec D.1 (ptAt id i) rfl rfl)); ((conv => arg 5; whnf); repeat ((with_reducible first | refine xT ?_ | refine xF ?_ | refine xO ?_ | refine xN ?_ | refine xU ?_ | refine xV ?_); conv => arg 5; whnf)))
    obtain ⟨g, hg⟩ : ∃ g, D.1.get (ptAt id i) = g := ⟨_, rfl⟩
    simp only [hg]
    rw [← e64]
    have ho2 : g = ⟨((makeT p F.I).outs.getD i default).to, ((makeT p F.I).outs.getD i default).amt, Int64.ofNat h.toNat, false⟩ := hg.symm.trans ho.2
    refine wD <| cutG <| Tri.of Tryz.mixed Tryz.T_ok ?_
    (refine wBegin ?_; ((conv => arg 5; whnf); repeat ((with_reducible first | refine xT ?_ | refine xF ?_ | refine xO ?_ | refine xN ?_ | refine xU ?_ | refine xV ?_); conv => arg 5; whnf)))
    refine wC (fun hb => absurd hb (by rw [ho.1]; decide)) (fun _ => ?_)
    (refine wGo ?_; ((conv => arg 5; whnf); repeat ((with_reducible first | refine xT ?_ | refine xF ?_ | refine xO ?_ | refine xN ?_ | refine xU ?_ | refine xV ?_); conv => arg 5; whnf)))
    (repeat (refine wN ?_ ?_; exact (by (try simp only [ww1, ww2, ww3, ww4, ww5, ww6, ww7] at *); omega); refine wGo ?_; ((conv => arg 5; whnf); repeat ((with_reducible first | refine xT ?_ | refine xF ?_ | refine xO ?_ | refine xN ?_ | refine xU ?_ | refine xV ?_); conv => arg 5; whnf))))
    simp only [Nat.zero_add, Int.toNat_natCast]
    (refine wP _ _ (neq_op outE rfl ⟨g.to, g.amt⟩ ((makeT p F.I).outs.getD i default) rfl rfl) ?_; ((conv => arg 5; whnf); repeat ((with_reducible first | refine xT ?_ | refine xF ?_ | refine xO ?_ | refine xN ?_ | refine xU ?_ | refine xV ?_); conv => arg 5; whnf)))
    refine wC (fun hb => absurd hb (by rw [ho2]; simp)) (fun _ => ?_)
    (refine wGo ?_; ((conv => arg 5; whnf); repeat ((with_reducible first | refine xT ?_ | refine xF ?_ | refine xO ?_ | refine xN ?_ | refine xU ?_ | refine xV ?_); conv => arg 5; whnf)))
    refine wC (fun hb => absurd hb (by rw [ho2]; simp)) (fun _ => ?_)
    (refine wGo ?_; ((conv => arg 5; whnf); repeat ((with_reducible first | refine xT ?_ | refine xF ?_ | refine xO ?_ | refine xN ?_ | refine xU ?_ | refine xV ?_); conv => arg 5; whnf)))
    refine wC (fun hb => absurd hb (by rw [ho2, eH]; simp)) (fun _ => ?_)
    (refine wGo ?_; ((conv => arg 5; whnf); repeat ((with_reducible first | refine xT ?_ | refine xF ?_ | refine xO ?_ | refine xN ?_ | refine xU ?_ | refine xV ?_); conv => arg 5; whnf)))
    refine wD <| blockN <| cutG <| Tri.of Tryz.mixed Tryz.T_ok ?_
    (refine wBegin ?_; ((conv => arg 5; whnf); repeat ((with_reducible first | refine xT ?_ | refine xF ?_ | refine xO ?_ | refine xN ?_ | refine xU ?_ | refine xV ?_); conv => arg 5; whnf)))
    refine wD <| loopN ⟨⟨i + 1, h'⟩, by dsimp only; omega, ?_⟩
    rw [hw]
    dsimp only
    ((try dsimp only); refine Ent.renC [0, 1, 2, 3, 4, 5, 6, 7, 8, 9, 10, 11, 12] hC ?_ ?_ <;> repeat' (first | exact trivial | exact rfl | exact ⟨_, rfl, rfl, rfl, Nat.le_refl _, fun _ _ => rfl⟩ | exact ⟨_, rfl, rfl, rfl, fun _ _ => rfl⟩ | exact ⟨_, rfl, rfl, rfl⟩ | exact ⟨_, rfl, rfl⟩ | refine ⟨_, rfl, rfl, rfl, by omega, fun k hk => ?_⟩ | refine ⟨?_, ?_⟩ | fail))
  (refine wGo ?_; ((conv => arg 5; whnf); repeat ((with_reducible first | refine xT ?_ | refine xF ?_ | refine xO ?_ | refine xN ?_ | refine xU ?_ | refine xV ?_); conv => arg 5; whnf)))
  have h' : i = p.outs.length := (by (try simp only [ww1, ww2, ww3, ww4, ww5, ww6, ww7] at *); omega)
  subst h'
  refine wD <| cutE <| loopX <| blockX <| cutG <| Tri.seq ?_
  (refine Tri.cut 1 Tryz.mixed Tryz.T_ok ?_; ((conv => arg 5; whnf); repeat ((with_reducible first | refine xT ?_ | refine xF ?_ | refine xO ?_ | refine xN ?_ | refine xU ?_ | refine xV ?_); conv => arg 5; whnf)))
  refine wD <| cutG <| Tri.block ?_
  refine Tri.loop (α := { i : Nat // i ≤ p.ins.length }) (fun i => keSt l p h F D.1 D.2.1 (some (XV.int .i64 (overN (makeT p F.I) p.fwds.length))) none (some (XV.sv (.ptr 12 0 0 0))) none none (some (XV.int .i64 i.1)) [(12, .cells 39 (id.cells.map .raw))] 13) (fun i => p.ins.length - i.1) ⟨0, Nat.zero_le _⟩ ?_ ?_
  · dsimp only
    unfold keSt keM2 keM0
    ((try dsimp only); refine Ent.renC [0, 1, 2, 3, 4, 5, 6, 7, 8, 9, 10, 11, 12] hC ?_ ?_ <;> repeat' (first | exact trivial | exact rfl | exact ⟨_, rfl, rfl, rfl, Nat.le_refl _, fun _ _ => rfl⟩ | exact ⟨_, rfl, rfl, rfl, fun _ _ => rfl⟩ | exact ⟨_, rfl, rfl, rfl⟩ | exact ⟨_, rfl, rfl⟩ | refine ⟨_, rfl, rfl, rfl, by omega, fun k hk => ?_⟩ | refine ⟨?_, ?_⟩ | fail))
  rintro ⟨i, hi⟩
  dsimp only
  unfold keSt keM2 keM0
  (refine Tri.cut 1 Tryz.mixed Tryz.T_ok ?_; ((conv => arg 5; whnf); repeat ((with_reducible first | refine xT ?_ | refine xF ?_ | refine xO ?_ | refine xN ?_ | refine xU ?_ | refine xV ?_); conv => arg 5; whnf)))
  refine wC (fun hh => ?_) (fun hh => ?_)
  · (refine wGo ?_; ((conv => arg 5; whnf); repeat ((with_reducible first | refine xT ?_ | refine xF ?_ | refine xO ?_ | refine xN ?_ | refine xU ?_ | refine xV ?_); conv => arg 5; whnf)))
    have h' : i < p.ins.length := (by (try simp only [ww1, ww2, ww3, ww4, ww5, ww6, ww7] at *); omega)
    have hw : IntKind.i64.wrap ((i : Int) + 1) = ((i + 1 : Nat) : Int) := (by (try simp only [ww1, ww2, ww3, ww4, ww5, ww6, ww7] at *); omega)
    have ho := law.ins i (by omega)
    refine wD <| cutG <| Tri.seq <| Tri.block ?_
    (refine Tri.cut 1 Tryz.mixed Tryz.T_ok ?_; ((conv => arg 5; whnf); repeat ((with_reducible first | refine xT ?_ | refine xF ?_ | refine xO ?_ | refine xN ?_ | refine xU ?_ | refine xV ?_); conv => arg 5; whnf)))
    (repeat (refine wN ?_ ?_; exact (by (try simp only [ww1, ww2, ww3, ww4, ww5, ww6, ww7] at *); omega); refine wGo ?_; ((conv => arg 5; whnf); repeat ((with_reducible first | refine xT ?_ | refine xF ?_ | refine xO ?_ | refine xN ?_ | refine xU ?_ | refine xV ?_); conv => arg 5; whnf))))
    simp only [Nat.zero_add, Int.toNat_natCast]
    (apply wP; exact (call_op rfl (entersB_of Tryz.func16 (by kernel_rfl)) rfl (get_spec D.1 ((makeT p F.I).ins.getD i default).pt rfl rfl)); ((conv => arg 5; whnf); repeat ((with_reducible first | refine xT ?_ | refine xF ?_ | refine xO ?_ | refine xN ?_ | refine xU ?_ | refine xV ?_); conv => arg 5; whnf)))
    refine wD <| cutG <| Tri.of Tryz.mixed Tryz.T_ok ?_
    (refine wBegin ?_; ((conv => arg 5; whnf); repeat ((with_reducible first | refine xT ?_ | refine xF ?_ | refine xO ?_ | refine xN ?_ | refine xU ?_ | refine xV ?_); conv => arg 5; whnf)))
    refine wC (fun hb => absurd hb (by rw [ho]; decide)) (fun _ => ?_)
    (refine wGo ?_; ((conv => arg 5; whnf); repeat ((with_reducible first | refine xT ?_ | refine xF ?_ | refine xO ?_ | refine xN ?_ | refine xU ?_ | refine xV ?_); conv => arg 5; whnf)))
    refine wD <| blockN <| cutG <| Tri.of Tryz.mixed Tryz.T_ok ?_
    (refine wBegin ?_; ((conv => arg 5; whnf); repeat ((with_reducible first | refine xT ?_ | refine xF ?_ | refine xO ?_ | refine xN ?_ | refine xU ?_ | refine xV ?_); conv => arg 5; whnf)))
    refine wD <| loopN ⟨⟨i + 1, h'⟩, by dsimp only; omega, ?_⟩
    rw [hw]
    dsimp only
    ((try dsimp only); refine Ent.renC [0, 1, 2, 3, 4, 5, 6, 7, 8, 9, 10, 11, 12] hC ?_ ?_ <;> repeat' (first | exact trivial | exact rfl | exact ⟨_, rfl, rfl, rfl, Nat.le_refl _, fun _ _ => rfl⟩ | exact ⟨_, rfl, rfl, rfl, fun _ _ => rfl⟩ | exact ⟨_, rfl, rfl, rfl⟩ | exact ⟨_, rfl, rfl⟩ | refine ⟨_, rfl, rfl, rfl, by omega, fun k hk => ?_⟩ | refine ⟨?_, ?_⟩ | fail))
  (refine wGo ?_; ((conv => arg 5; whnf); repeat ((with_reducible first | refine xT ?_ | refine xF ?_ | refine xO ?_ | refine xN ?_ | refine xU ?_ | refine xV ?_); conv => arg 5; whnf)))
  have h' : i = p.ins.length := (by (try simp only [ww1, ww2, ww3, ww4, ww5, ww6, ww7] at *); omega)
  subst h'
  have lf := law.pos
  have ls : F.S.total = IntKind.i64.wrap (IntKind.i64.wrap (D.1.total + overN (makeT p F.I) p.fwds.length) + D.2.1) := law.sum
  have ll := law.len
  rw [hI, hO] at ll
  refine wD <| cutE <| loopX <| blockX <| cutG <| RC.opens F.R 7 rfl <| Tri.of Tryz.mixed Tryz.T_ok ?_
  (refine wBegin ?_; ((conv => arg 5; whnf); repeat ((with_reducible first | refine xT ?_ | refine xF ?_ | refine xO ?_ | refine xN ?_ | refine xU ?_ | refine xV ?_); conv => arg 5; whnf)))
  refine wC (fun _ => ?_) (fun hb => absurd hb (by simpa using lf))
  (refine wGo ?_; ((conv => arg 5; whnf); repeat ((with_reducible first | refine xT ?_ | refine xF ?_ | refine xO ?_ | refine xN ?_ | refine xU ?_ | refine xV ?_); conv => arg 5; whnf)))
  (apply wP; exact (call_op rfl (entersB_of Tryz.func13 (by kernel_rfl)) rfl (total_spec D.1 rfl rfl)); ((conv => arg 5; whnf); repeat ((with_reducible first | refine xT ?_ | refine xF ?_ | refine xO ?_ | refine xN ?_ | refine xU ?_ | refine xV ?_); conv => arg 5; whnf)))
  refine wC (fun _ => ?_) (fun hb => absurd ls (by simpa using hb))
  (refine wGo ?_; ((conv => arg 5; whnf); repeat ((with_reducible first | refine xT ?_ | refine xF ?_ | refine xO ?_ | refine xN ?_ | refine xU ?_ | refine xV ?_); conv => arg 5; whnf)))
  (apply wP; exact (call_op rfl (entersB_of Tryz.func17 (by kernel_rfl)) rfl (len_spec D.1 rfl rfl)); ((conv => arg 5; whnf); repeat ((with_reducible first | refine xT ?_ | refine xF ?_ | refine xO ?_ | refine xN ?_ | refine xU ?_ | refine xV ?_); conv => arg 5; whnf)))
  refine wD (Ends.plain (.inr rfl) rfl (congrArg (fun b : Bool => XV.bool b) ?_))
  rw [beq_iff_eq]
  exact ll
end Go.Proofs.YtmoohekgheoliaaGreatDoor
namespace Go.Proofs.YtmoohekgheoliaaGreatDoor
set_option maxRecDepth 100000
open Go.Sx
noncomputable def frc {α : Type} (x : Nat) (k : Nat → α) : α := @Nat.rec (fun _ => α) (k 0) (fun n _ => k (Nat.succ n)) x
theorem frc_eq {α : Type} (x : Nat) (k : Nat → α) : frc x k = k x := by cases x <;> rfl
def nrot (x n m : Nat) : Nat := Nat.lor (Nat.shiftRight x n) (Nat.mod (Nat.shiftLeft x m) 4294967296)
def nS0 (x : Nat) : Nat := Nat.xor (Nat.xor (nrot x 2 30) (nrot x 13 19)) (nrot x 22 10)
def nS1 (x : Nat) : Nat := Nat.xor (Nat.xor (nrot x 6 26) (nrot x 11 21)) (nrot x 25 7)
def ns0 (x : Nat) : Nat := Nat.xor (Nat.xor (nrot x 7 25) (nrot x 18 14)) (Nat.shiftRight x 3)
def ns1 (x : Nat) : Nat := Nat.xor (Nat.xor (nrot x 17 15) (nrot x 19 13)) (Nat.shiftRight x 10)
def nch (e f g : Nat) : Nat := Nat.xor (Nat.land e f) (Nat.land (Nat.xor 4294967295 e) g)
def nmaj (a b c : Nat) : Nat := Nat.xor (Nat.xor (Nat.land a b) (Nat.land a c)) (Nat.land b c)
def nT (e f g h k w : Nat) : Nat := Nat.mod (Nat.add (Nat.add (Nat.add (Nat.add h (nS1 e)) (nch e f g)) k) w) 4294967296
def nadd (a b : Nat) : Nat := Nat.mod (Nat.add a b) 4294967296
def nmix (w0 w1 w9 w14 : Nat) : Nat := Nat.mod (Nat.add (Nat.add (Nat.add w0 w9) (ns0 w1)) (ns1 w14)) 4294967296
abbrev B32 (x : Nat) : Prop := x < 4294967296
theorem bit_nat (f : BitVec 32 → BitVec 32 → BitVec 32) (g : Nat → Nat → Nat) (hf : ∀ a b, (f a b).toNat = g a.toNat b.toNat) {x y : Nat} (hx : B32 x) (hy : B32 y) : IntKind.u32.wrap ((f (BitVec.ofInt 32 (x : Int)) (BitVec.ofInt 32 (y : Int))).toNat : Int) = ((g x y : Nat) : Int) ∧ B32 (g x y) := by
  have e1 : (BitVec.ofInt 32 (x : Int)).toNat = x := by rw [ofInt_nat, BitVec.toNat_ofNat]; exact Nat.mod_eq_of_lt hx
  have e2 : (BitVec.ofInt 32 (y : Int)).toNat = y := by rw [ofInt_nat, BitVec.toNat_ofNat]; exact Nat.mod_eq_of_lt hy
  have h := (f (BitVec.ofInt 32 (x : Int)) (BitVec.ofInt 32 (y : Int))).isLt
  rw [hf, e1, e2] at h ⊢
  refine ⟨?_, h⟩
  rw [IntKind.wrap_u32]
  exact Int.emod_eq_of_lt (by omega) (by omega)
theorem xor_nat {x y : Nat} (hx : B32 x) (hy : B32 y) : bitI .xor .u32 (x : Int) (y : Int) = ((Nat.xor x y : Nat) : Int) := (bit_nat (· ^^^ ·) Nat.xor (fun a b => BitVec.toNat_xor a b) hx hy).1
theorem and_nat {x y : Nat} (hx : B32 x) (hy : B32 y) : bitI .and .u32 (x : Int) (y : Int) = ((Nat.land x y : Nat) : Int) := (bit_nat (· &&& ·) Nat.land (fun a b => BitVec.toNat_and a b) hx hy).1
theorem or_nat {x y : Nat} (hx : B32 x) (hy : B32 y) : bitI .or .u32 (x : Int) (y : Int) = ((Nat.lor x y : Nat) : Int) := (bit_nat (· ||| ·) Nat.lor (fun a b => BitVec.toNat_or a b) hx hy).1
theorem xor_lt {x y : Nat} (hx : B32 x) (hy : B32 y) : B32 (Nat.xor x y) := (bit_nat (· ^^^ ·) Nat.xor (fun a b => BitVec.toNat_xor a b) hx hy).2
theorem and_lt {x y : Nat} (hx : B32 x) (hy : B32 y) : B32 (Nat.land x y) := (bit_nat (· &&& ·) Nat.land (fun a b => BitVec.toNat_and a b) hx hy).2
theorem or_lt {x y : Nat} (hx : B32 x) (hy : B32 y) : B32 (Nat.lor x y) := (bit_nat (· ||| ·) Nat.lor (fun a b => BitVec.toNat_or a b) hx hy).2
theorem shr32_nat (x n : Nat) (hn : n ≤ 32) : shrI .u32 (x : Int) (n : Int) = ((Nat.shiftRight x n : Nat) : Int) := by
  have hb : IntKind.u32.bits = 32 := rfl
  have e : min ((n : Int).toNat) IntKind.u32.bits = n := by rw [hb]; omega
  rw [shrI, e, Int.fdiv_eq_ediv_of_nonneg _ (Int.le_of_lt (Int.pow_pos (by decide)))]
  show _ = ((x >>> n : Nat) : Int)
  rw [Nat.shiftRight_eq_div_pow, Int.natCast_ediv, Int.natCast_pow]
  rfl
theorem shl32_nat (x n : Nat) (hn : n ≤ 32) : shlI .u32 (x : Int) (n : Int) = ((Nat.mod (Nat.shiftLeft x n) 4294967296 : Nat) : Int) := by
  have hb : IntKind.u32.bits = 32 := rfl
  have e : min ((n : Int).toNat) IntKind.u32.bits = n := by rw [hb]; omega
  rw [shlI, e, IntKind.wrap_u32]
  show _ = ((x <<< n % 4294967296 : Nat) : Int)
  rw [Nat.shiftLeft_eq, Int.natCast_emod, Int.natCast_mul, Int.natCast_pow]
  rfl
theorem mod_lt32 (x : Nat) : B32 (Nat.mod x 4294967296) := Nat.mod_lt _ (by decide)
theorem shr_lt {x : Nat} (n : Nat) (hx : B32 x) : B32 (Nat.shiftRight x n) := by
  show x >>> n < _
  rw [Nat.shiftRight_eq_div_pow]
  exact Nat.lt_of_le_of_lt (Nat.div_le_self _ _) hx
theorem rot_lt {x : Nat} (n m : Nat) (hx : B32 x) : B32 (nrot x n m) := or_lt (shr_lt n hx) (mod_lt32 _)
theorem turn_nat {x n m : Nat} (hx : B32 x) (hn : n ≤ 32) (hm : m ≤ 32) (e : IntKind.u64.wrap (32 - (n : Int)) = (m : Int)) : turn (x : Int) (n : Int) = ((nrot x n m : Nat) : Int) := by
  rw [turn, e, shr32_nat x n hn, shl32_nat x m hm, or_nat (shr_lt n hx) (mod_lt32 _)]
  rfl
theorem w32_nat (a b : Nat) : w32 (a : Int) (b : Int) = ((nadd a b : Nat) : Int) := by
  rw [w32, IntKind.wrap_u32]
  show _ = (((a + b) % 4294967296 : Nat) : Int)
  omega
theorem rotR_nat {x : Nat} (hx : B32 x) : rotR (x : Int) 2 = ((nrot x 2 30 : Nat) : Int) ∧ rotR (x : Int) 13 = ((nrot x 13 19 : Nat) : Int) ∧ rotR (x : Int) 22 = ((nrot x 22 10 : Nat) : Int) ∧ rotR (x : Int) 6 = ((nrot x 6 26 : Nat) : Int) ∧ rotR (x : Int) 11 = ((nrot x 11 21 : Nat) : Int) ∧ rotR (x : Int) 25 = ((nrot x 25 7 : Nat) : Int)
    ∧ rotR (x : Int) 7 = ((nrot x 7 25 : Nat) : Int) ∧ rotR (x : Int) 18 = ((nrot x 18 14 : Nat) : Int) ∧ rotR (x : Int) 17 = ((nrot x 17 15 : Nat) : Int) ∧ rotR (x : Int) 19 = ((nrot x 19 13 : Nat) : Int) := by
  rw [← turn2, ← turn13, ← turn22, ← turn6, ← turn11, ← turn25, ← turn7, ← turn18, ← turn17, ← turn19]
  exact ⟨turn_nat (n := 2) (m := 30) hx (by decide) (by decide) (by decide), turn_nat (n := 13) (m := 19) hx (by decide) (by decide) (by decide), turn_nat (n := 22) (m := 10) hx (by decide) (by decide) (by decide), turn_nat (n := 6) (m := 26) hx (by decide) (by decide) (by decide), turn_nat (n := 11) (m := 21) hx (by decide) (by decide) (by decide), turn_nat (n := 25) (m := 7) hx (by decide) (by decide) (by decide),
    turn_nat (n := 7) (m := 25) hx (by decide) (by decide) (by decide), turn_nat (n := 18) (m := 14) hx (by decide) (by decide) (by decide), turn_nat (n := 17) (m := 15) hx (by decide) (by decide) (by decide), turn_nat (n := 19) (m := 13) hx (by decide) (by decide) (by decide)⟩
theorem sumA_nat {v : Nat → Int} {a : Nat} (h : v 0 = (a : Int)) (ha : B32 a) : sumA v = ((nS0 a : Nat) : Int) := by
  obtain ⟨r2, r13, r22, _⟩ := rotR_nat ha
  rw [sumA, h, r2, r13, r22, xor_nat (rot_lt _ _ ha) (rot_lt _ _ ha), xor_nat (xor_lt (rot_lt _ _ ha) (rot_lt _ _ ha)) (rot_lt _ _ ha)]
  rfl
theorem sumE_nat {v : Nat → Int} {a : Nat} (h : v 4 = (a : Int)) (ha : B32 a) : sumE v = ((nS1 a : Nat) : Int) := by
  obtain ⟨_, _, _, r6, r11, r25, _⟩ := rotR_nat ha
  rw [sumE, h, r6, r11, r25, xor_nat (rot_lt _ _ ha) (rot_lt _ _ ha), xor_nat (xor_lt (rot_lt _ _ ha) (rot_lt _ _ ha)) (rot_lt _ _ ha)]
  rfl
theorem sg0_nat {a : Nat} (ha : B32 a) : sg0 (a : Int) = ((ns0 a : Nat) : Int) := by
  obtain ⟨_, _, _, _, _, _, r7, r18, _⟩ := rotR_nat ha
  rw [sg0, r7, r18, show shrI .u32 (a : Int) 3 = _ from shr32_nat a 3 (by decide), xor_nat (rot_lt _ _ ha) (rot_lt _ _ ha), xor_nat (xor_lt (rot_lt _ _ ha) (rot_lt _ _ ha)) (shr_lt _ ha)]
  rfl
theorem sg1_nat {a : Nat} (ha : B32 a) : sg1 (a : Int) = ((ns1 a : Nat) : Int) := by
  obtain ⟨_, _, _, _, _, _, _, _, r17, r19⟩ := rotR_nat ha
  rw [sg1, r17, r19, show shrI .u32 (a : Int) 10 = _ from shr32_nat a 10 (by decide), xor_nat (rot_lt _ _ ha) (rot_lt _ _ ha), xor_nat (xor_lt (rot_lt _ _ ha) (rot_lt _ _ ha)) (shr_lt _ ha)]
  rfl
theorem chE_nat {v : Nat → Int} {e f g : Nat} (h4 : v 4 = (e : Int)) (h5 : v 5 = (f : Int)) (h6 : v 6 = (g : Int)) (he : B32 e) (hf : B32 f) (hg : B32 g) : chE v = ((nch e f g : Nat) : Int) := by
  have hm : (if IntKind.u32.signed then (-1 : Int) else IntKind.u32.max) = ((4294967295 : Nat) : Int) := by decide
  have h1 : B32 4294967295 := by decide
  rw [chE, h4, h5, h6, hm, and_nat he hf, xor_nat h1 he, and_nat (xor_lt h1 he) hg, xor_nat (and_lt he hf) (and_lt (xor_lt h1 he) hg)]
  rfl
theorem majA_nat {v : Nat → Int} {a b c : Nat} (h0 : v 0 = (a : Int)) (h1 : v 1 = (b : Int)) (h2 : v 2 = (c : Int)) (ha : B32 a) (hb : B32 b) (hc : B32 c) : majA v = ((nmaj a b c : Nat) : Int) := by
  rw [majA, h0, h1, h2, and_nat ha hb, and_nat ha hc, and_nat hb hc, xor_nat (and_lt ha hb) (and_lt ha hc), xor_nat (xor_lt (and_lt ha hb) (and_lt ha hc)) (and_lt hb hc)]
  rfl
structure R8 (v : Nat → Int) (a b c d e f g h : Nat) : Prop where
  (h0 : v 0 = (a : Int)) (h1 : v 1 = (b : Int)) (h2 : v 2 = (c : Int)) (h3 : v 3 = (d : Int)) (h4 : v 4 = (e : Int)) (h5 : v 5 = (f : Int)) (h6 : v 6 = (g : Int)) (h7 : v 7 = (h : Int))
  (l0 : B32 a) (l1 : B32 b) (l2 : B32 c) (l3 : B32 d) (l4 : B32 e) (l5 : B32 f) (l6 : B32 g) (l7 : B32 h)
theorem stT_nat {v : Nat → Int} {a b c d e f g h k w : Nat} (R : R8 v a b c d e f g h) : stT v (k : Int) (w : Int) = ((nT e f g h k w : Nat) : Int) := by
  rw [stT, R.h7, sumE_nat R.h4 R.l4, chE_nat R.h4 R.h5 R.h6 R.l4 R.l5 R.l6, w32_nat, w32_nat, w32_nat, w32_nat]
  congr 1
  show (((((h + nS1 e) % 4294967296 + nch e f g) % 4294967296) + k) % 4294967296 + w) % 4294967296 = (h + nS1 e + nch e f g + k + w) % 4294967296
  omega
theorem step_nat {v : Nat → Int} {a b c d e f g h k w : Nat} (R : R8 v a b c d e f g h) : R8 (stepV v (k : Int) (w : Int)) (Nat.mod (Nat.add (nT e f g h k w) (Nat.add (nS0 a) (nmaj a b c))) 4294967296) a b c (Nat.mod (Nat.add d (nT e f g h k w)) 4294967296) e f g := by
  refine ⟨?_, R.h0, R.h1, R.h2, ?_, R.h4, R.h5, R.h6, mod_lt32 _, R.l0, R.l1, R.l2, mod_lt32 _, R.l4, R.l5, R.l6⟩
  · show w32 (stT v k w) (stU v) = _
    rw [stT_nat R, stU, sumA_nat R.h0 R.l0, majA_nat R.h0 R.h1 R.h2 R.l0 R.l1 R.l2, w32_nat, w32_nat]
    congr 1
    show (nT e f g h k w + (nS0 a + nmaj a b c) % 4294967296) % 4294967296 = (nT e f g h k w + (nS0 a + nmaj a b c)) % 4294967296
    omega
  · show w32 (v 3) (stT v k w) = _
    rw [stT_nat R, R.h3, w32_nat]
    rfl
end Go.Proofs.YtmoohekgheoliaaGreatDoor
namespace Go.Proofs.YtmoohekgheoliaaGreatDoor
set_option maxRecDepth 100000
open Go.Sx
noncomputable def nrnd {α : Type} (K : Nat → Nat → Nat → Nat → Nat → Nat → Nat → Nat → α) (ks : List Nat) : Nat → Nat → Nat → Nat → Nat → Nat → Nat → Nat → Nat → Nat → Nat → Nat → Nat → Nat → Nat → Nat → Nat → Nat → Nat → Nat → Nat → Nat → Nat → Nat → α :=
  @List.rec Nat (fun _ => Nat → Nat → Nat → Nat → Nat → Nat → Nat → Nat → Nat → Nat → Nat → Nat → Nat → Nat → Nat → Nat → Nat → Nat → Nat → Nat → Nat → Nat → Nat → Nat → α)
    (fun a b c d e f g h _ _ _ _ _ _ _ _ _ _ _ _ _ _ _ _ => K a b c d e f g h)
    (fun k _ ih a b c d e f g h w0 w1 w2 w3 w4 w5 w6 w7 w8 w9 w10 w11 w12 w13 w14 w15 =>
      frc (nT e f g h k w0) fun t => frc (Nat.mod (Nat.add t (Nat.add (nS0 a) (nmaj a b c))) 4294967296) fun a' => frc (Nat.mod (Nat.add d t) 4294967296) fun e' =>
      frc (nmix w0 w1 w9 w14) fun w16 => ih a' a b c e' e f g w1 w2 w3 w4 w5 w6 w7 w8 w9 w10 w11 w12 w13 w14 w15 w16) ks
def ksN : List Nat := [1116352408, 1899447441, 3049323471, 3921009573, 961987163, 1508970993, 2453635748, 2870763221, 3624381080, 310598401, 607225278, 1426881987, 1925078388, 2162078206, 2614888103, 3248222580, 3835390401, 4022224774, 264347078, 604807628, 770255983, 1249150122, 1555081692, 1996064986, 2554220882, 2821834349, 2952996808, 3210313671, 3336571891, 3584528711, 113926993, 338241895, 666307205, 773529912, 1294757372, 1396182291, 1695183700, 1986661051, 2177026350, 2456956037, 2730485921, 2820302411, 3259730800, 3345764771, 3516065817, 3600352804, 4094571909, 275423344, 430227734, 506948616, 659060556, 883997877, 958139571, 1322822218, 1537002063, 1747873779, 1955562222, 2024104815, 2227730452, 2361852424, 2428436474, 2756734187, 3204031479, 3329325298]
noncomputable def nblocks {α : Type} (n : Nat) : List Nat → Nat → Nat → Nat → Nat → Nat → Nat → Nat → Nat → (Nat → Nat → α) → α :=
  @Nat.rec (fun _ => List Nat → Nat → Nat → Nat → Nat → Nat → Nat → Nat → Nat → (Nat → Nat → α) → α)
    (fun _ a b _ _ _ _ _ _ k => k a b)
    (fun _ ih l a b c d e f g h k =>
      frc (l.getD 0 0) fun w0 => frc (l.getD 1 0) fun w1 => frc (l.getD 2 0) fun w2 => frc (l.getD 3 0) fun w3 => frc (l.getD 4 0) fun w4 => frc (l.getD 5 0) fun w5 => frc (l.getD 6 0) fun w6 => frc (l.getD 7 0) fun w7 => frc (l.getD 8 0) fun w8 => frc (l.getD 9 0) fun w9 => frc (l.getD 10 0) fun w10 => frc (l.getD 11 0) fun w11 => frc (l.getD 12 0) fun w12 => frc (l.getD 13 0) fun w13 => frc (l.getD 14 0) fun w14 => frc (l.getD 15 0) fun w15 =>
      nrnd (fun a' b' c' d' e' f' g' h' => frc (nadd a a') fun a => frc (nadd b b') fun b => frc (nadd c c') fun c => frc (nadd d d') fun d => frc (nadd e e') fun e => frc (nadd f f') fun f => frc (nadd g g') fun g => frc (nadd h h') fun h => ih (l.drop 16) a b c d e f g h k)
        ksN a b c d e f g h w0 w1 w2 w3 w4 w5 w6 w7 w8 w9 w10 w11 w12 w13 w14 w15) n
theorem sched_val (b : Nat → UInt8) {n : Nat} : ∀ N, n < N → sched b N n = if n < 16 then word b n else mix (sched b n) n
  | 0, h => absurd h (Nat.not_lt_zero _)
  | N + 1, h => by
    rw [sched_step]
    by_cases e : n = N
    · subst e; rw [if_pos rfl]
    · rw [if_neg e]; exact sched_val b N (by omega)
theorem sched_same (b : Nat → UInt8) {n N N' : Nat} (h : n < N) (h' : n < N') : sched b N n = sched b N' n := by rw [sched_val b N h, sched_val b N' h']
theorem nmix_eq {w0 w1 w9 w14 : Nat} (h1 : B32 w1) (h14 : B32 w14) : w32 (w32 (w32 (w0 : Int) (w9 : Int)) (sg0 (w1 : Int))) (sg1 (w14 : Int)) = ((nmix w0 w1 w9 w14 : Nat) : Int) := by
  rw [sg0_nat h1, sg1_nat h14, w32_nat, w32_nat, w32_nat]
  congr 1
  show (((w0 + w9) % 4294967296 + ns0 w1) % 4294967296 + ns1 w14) % 4294967296 = (w0 + w9 + ns0 w1 + ns1 w14) % 4294967296
  omega
theorem sched_next (b : Nat → UInt8) {n w0 w1 w9 w14 : Nat} (hn : n + 16 < 64) (e0 : sched b 64 n = (w0 : Int)) (e1 : sched b 64 (n + 1) = (w1 : Int)) (e9 : sched b 64 (n + 9) = (w9 : Int)) (e14 : sched b 64 (n + 14) = (w14 : Int)) (h1 : B32 w1) (h14 : B32 w14) : sched b 64 (n + 16) = ((nmix w0 w1 w9 w14 : Nat) : Int) := by
  rw [sched_val b 64 hn, if_neg (by omega), mix, sched_same b (N' := 64) (n := n + 16 - 16) (by omega) (by omega), sched_same b (N' := 64) (n := n + 16 - 7) (by omega) (by omega), sched_same b (N' := 64) (n := n + 16 - 15) (by omega) (by omega), sched_same b (N' := 64) (n := n + 16 - 2) (by omega) (by omega),
    show n + 16 - 16 = n by omega, show n + 16 - 7 = n + 9 by omega, show n + 16 - 15 = n + 1 by omega, show n + 16 - 2 = n + 14 by omega, e0, e1, e9, e14, nmix_eq h1 h14]
theorem stepW_nat : ∀ n, n < 64 → stepW n = ((ksN.getD n 0 : Nat) : Int) := by decide
theorem ksN_drop {n : Nat} (h : n < 64) : ksN.drop n = ksN.getD n 0 :: ksN.drop (n + 1) := by
  have hl : ksN.length = 64 := rfl
  rw [List.drop_eq_getElem_cons (by omega), List.getD_eq_getElem?_getD, List.getElem?_eq_getElem (by omega)]; rfl
def WOk (b : Nat → UInt8) (n : Nat) (ws : Nat → Nat) : Prop := ∀ i, i < 16 → n + i < 64 → sched b 64 (n + i) = (ws i : Int) ∧ B32 (ws i)
theorem nrnd_eq {α : Type} (h0 : Nat → Int) (b : Nat → UInt8) (K : Nat → Nat → Nat → Nat → Nat → Nat → Nat → Nat → α) : ∀ m n, n + m = 64 → ∀ (a b' c d e f g h : Nat), R8 (stepsV h0 b n) a b' c d e f g h → ∀ ws, WOk b n ws →
    ∃ a2 b2 c2 d2 e2 f2 g2 h2, R8 (stepsV h0 b 64) a2 b2 c2 d2 e2 f2 g2 h2 ∧ nrnd K (ksN.drop n) a b' c d e f g h (ws 0) (ws 1) (ws 2) (ws 3) (ws 4) (ws 5) (ws 6) (ws 7) (ws 8) (ws 9) (ws 10) (ws 11) (ws 12) (ws 13) (ws 14) (ws 15) = K a2 b2 c2 d2 e2 f2 g2 h2
  | 0, n, hn, a, b', c, d, e, f, g, h, R, ws, W => by
    obtain rfl : n = 64 := by omega
    exact ⟨a, b', c, d, e, f, g, h, R, rfl⟩
  | m + 1, n, hn, a, b', c, d, e, f, g, h, R, ws, W => by
    rw [ksN_drop (by omega)]
    have hw := W 0 (by decide) (by omega)
    have hR := step_nat (k := ksN.getD n 0) (w := ws 0) R
    rw [← stepW_nat n (by omega), ← (show sched b 64 n = (ws 0 : Int) from hw.1)] at hR
    let ws' : Nat → Nat := fun i => if i < 15 then ws (i + 1) else nmix (ws 0) (ws 1) (ws 9) (ws 14)
    have hW : WOk b (n + 1) ws' := by
      intro i hi hni
      by_cases h15 : i < 15
      · have := W (i + 1) (by omega) (by omega)
        rw [show n + 1 + i = n + (i + 1) by omega]
        simp only [ws', if_pos h15]
        exact this
      · obtain rfl : i = 15 := by omega
        have q0 := W 0 (by decide) (by omega)
        have q1 := W 1 (by decide) (by omega)
        have q9 := W 9 (by decide) (by omega)
        have q14 := W 14 (by decide) (by omega)
        refine ⟨?_, mod_lt32 _⟩
        rw [show n + 1 + 15 = n + 16 by omega]
        exact sched_next b (by omega) q0.1 q1.1 q9.1 q14.1 q1.2 q14.2
    obtain ⟨a2, b2, c2, d2, e2, f2, g2, h2, R2, e2'⟩ := nrnd_eq h0 b K m (n + 1) (by omega) _ _ _ _ _ _ _ _ hR ws' hW
    refine ⟨a2, b2, c2, d2, e2, f2, g2, h2, R2, ?_⟩
    rw [← e2']
    show (frc (nT e f g h (ksN.getD n 0) (ws 0)) fun t => frc (Nat.mod (Nat.add t (Nat.add (nS0 a) (nmaj a b' c))) 4294967296) fun a' => frc (Nat.mod (Nat.add d t) 4294967296) fun e' =>
      frc (nmix (ws 0) (ws 1) (ws 9) (ws 14)) fun w16 => nrnd K (ksN.drop (n + 1)) a' a b' c e' e f g (ws 1) (ws 2) (ws 3) (ws 4) (ws 5) (ws 6) (ws 7) (ws 8) (ws 9) (ws 10) (ws 11) (ws 12) (ws 13) (ws 14) (ws 15) w16) = _
    rw [frc_eq, frc_eq, frc_eq, frc_eq]
    rfl
end Go.Proofs.YtmoohekgheoliaaGreatDoor
namespace Go.Proofs.YtmoohekgheoliaaGreatDoor
set_option maxRecDepth 100000
open Go.Sx
def w4v (a b c d : UInt8) : Nat := Nat.add (Nat.mul (Nat.add (Nat.mul (Nat.add (Nat.mul a.toNat 256) b.toNat) 256) c.toNat) 256) d.toNat
def w4 : List UInt8 → List Nat
  | a :: b :: c :: d :: r => w4v a b c d :: w4 r
  | _ => []
theorem w4_get : ∀ (i : Nat) (l : List UInt8), 4 * i + 3 < l.length → (w4 l).getD i 0 = w4v (l.getD (4 * i) 0) (l.getD (4 * i + 1) 0) (l.getD (4 * i + 2) 0) (l.getD (4 * i + 3) 0)
  | i, [], h => by simp at h
  | i, [_], h => by simp at h
  | i, [_, _], h => by simp only [List.length_cons, List.length_nil] at h; omega
  | i, [_, _, _], h => by simp only [List.length_cons, List.length_nil] at h; omega
  | 0, a :: b :: c :: d :: r, h => rfl
  | i + 1, a :: b :: c :: d :: r, h => by
    have := w4_get i r (by simp only [List.length_cons] at h; omega)
    show (w4 r).getD i 0 = _
    rw [this]
    rfl
theorem push_nat {w : Nat} (h : w < 16777216) (x : UInt8) : push (w : Int) x = ((Nat.add (Nat.mul w 256) x.toNat : Nat) : Int) := by
  have hx := x.toNat_lt
  have e1 : shlI .u32 (w : Int) 8 = ((Nat.mod (Nat.shiftLeft w 8) 4294967296 : Nat) : Int) := shl32_nat w 8 (by decide)
  have e2 : Nat.mod (Nat.shiftLeft w 8) 4294967296 = w <<< 8 := by
    show (w <<< 8) % 4294967296 = _
    rw [Nat.shiftLeft_eq]; omega
  have e3 : IntKind.u32.wrap (x.toNat : Int) = (x.toNat : Int) := by rw [IntKind.wrap_u32]; omega
  have b1 : B32 (w <<< 8) := by rw [Nat.shiftLeft_eq]; omega
  rw [push, e1, e2, e3, or_nat b1 (by omega)]
  congr 1
  show (w <<< 8) ||| x.toNat = w * 256 + x.toNat
  rw [← Nat.shiftLeft_add_eq_or_of_lt (by omega : x.toNat < 2 ^ 8), Nat.shiftLeft_eq]
theorem word_nat (b : Nat → UInt8) (i : Nat) : word b i = ((w4v (b (4 * i)) (b (4 * i + 1)) (b (4 * i + 2)) (b (4 * i + 3)) : Nat) : Int) ∧ B32 (w4v (b (4 * i)) (b (4 * i + 1)) (b (4 * i + 2)) (b (4 * i + 3))) := by
  have h0 := (b (4 * i)).toNat_lt
  have h1 := (b (4 * i + 1)).toNat_lt
  have h2 := (b (4 * i + 2)).toNat_lt
  have h3 := (b (4 * i + 3)).toNat_lt
  constructor
  · rw [word, show (0 : Int) = ((0 : Nat) : Int) from rfl, push_nat (by decide), push_nat, push_nat, push_nat]
    · show (((((0 * 256 + (b (4 * i)).toNat) * 256 + (b (4 * i + 1)).toNat) * 256 + (b (4 * i + 2)).toNat) * 256 + (b (4 * i + 3)).toNat : Nat) : Int) = _
      rw [Nat.zero_mul, Nat.zero_add]
      rfl
    · show ((0 * 256 + (b (4 * i)).toNat) * 256 + (b (4 * i + 1)).toNat) * 256 + (b (4 * i + 2)).toNat < _
      omega
    · show (0 * 256 + (b (4 * i)).toNat) * 256 + (b (4 * i + 1)).toNat < _
      omega
    · show 0 * 256 + (b (4 * i)).toNat < _
      omega
  · show (((b (4 * i)).toNat * 256 + (b (4 * i + 1)).toNat) * 256 + (b (4 * i + 2)).toNat) * 256 + (b (4 * i + 3)).toNat < _
    omega
theorem added_nat {h0 : Nat → Int} {b : Nat → UInt8} {a b' c d e f g h a2 b2 c2 d2 e2 f2 g2 h2 : Nat} (R : R8 h0 a b' c d e f g h) (R2 : R8 (stepsV h0 b 64) a2 b2 c2 d2 e2 f2 g2 h2) : R8 (blockW h0 b) (nadd a a2) (nadd b' b2) (nadd c c2) (nadd d d2) (nadd e e2) (nadd f f2) (nadd g g2) (nadd h h2) := by
  refine ⟨?_, ?_, ?_, ?_, ?_, ?_, ?_, ?_, mod_lt32 _, mod_lt32 _, mod_lt32 _, mod_lt32 _, mod_lt32 _, mod_lt32 _, mod_lt32 _, mod_lt32 _⟩
  · rw [blockW, R.h0, R2.h0, w32_nat]
  · rw [blockW, R.h1, R2.h1, w32_nat]
  · rw [blockW, R.h2, R2.h2, w32_nat]
  · rw [blockW, R.h3, R2.h3, w32_nat]
  · rw [blockW, R.h4, R2.h4, w32_nat]
  · rw [blockW, R.h5, R2.h5, w32_nat]
  · rw [blockW, R.h6, R2.h6, w32_nat]
  · rw [blockW, R.h7, R2.h7, w32_nat]
theorem getD_drop {E : Type} (l : List E) (n i : Nat) (d : E) : (l.drop n).getD i d = l.getD (n + i) d := by rw [List.getD_eq_getElem?_getD, List.getElem?_drop, ← List.getD_eq_getElem?_getD]
theorem nblocks_eq {α : Type} (l : List UInt8) (k : Nat → Nat → α) : ∀ m t, t + m = blocksN l → ∀ (a b c d e f g h : Nat), R8 (stateH l t) a b c d e f g h →
    ∃ x y : Nat, stateH l (blocksN l) 0 = (x : Int) ∧ stateH l (blocksN l) 1 = (y : Int) ∧ nblocks m ((w4 (padL l)).drop (16 * t)) a b c d e f g h k = k x y
  | 0, t, ht, a, b, c, d, e, f, g, h, R => by
    obtain rfl : t = blocksN l := by omega
    exact ⟨a, b, R.h0, R.h1, rfl⟩
  | m + 1, t, ht, a, b, c, d, e, f, g, h, R => by
    have hbl := blocks_eq l
    let ws : Nat → Nat := fun i => ((w4 (padL l)).drop (16 * t)).getD i 0
    have hW : WOk (blockAt l t) 0 ws := by
      intro i hi _
      have hg : ws i = w4v (blockAt l t (4 * i)) (blockAt l t (4 * i + 1)) (blockAt l t (4 * i + 2)) (blockAt l t (4 * i + 3)) := by
        show ((w4 (padL l)).drop (16 * t)).getD i 0 = _
        rw [getD_drop, w4_get _ _ (by omega)]
        simp only [blockAt, show 4 * (16 * t + i) = 64 * t + 4 * i by omega, Nat.add_assoc]
      have hw := word_nat (blockAt l t) i
      rw [hg, Nat.zero_add, sched_val _ 64 (by omega), if_pos hi]
      exact hw
    let K : Nat → Nat → Nat → Nat → Nat → Nat → Nat → Nat → α := fun a' b' c' d' e' f' g' h' => frc (nadd a a') fun a => frc (nadd b b') fun b => frc (nadd c c') fun c => frc (nadd d d') fun d => frc (nadd e e') fun e => frc (nadd f f') fun f => frc (nadd g g') fun g => frc (nadd h h') fun h => nblocks m (((w4 (padL l)).drop (16 * t)).drop 16) a b c d e f g h k
    obtain ⟨a2, b2, c2, d2, e2, f2, g2, h2, R2, hK⟩ := nrnd_eq (stateH l t) (blockAt l t) K 64 0 rfl a b c d e f g h R ws hW
    have hR : R8 (stateH l (t + 1)) _ _ _ _ _ _ _ _ := added_nat R R2
    obtain ⟨x, y, q1, q2, q3⟩ := nblocks_eq l k m (t + 1) (by omega) _ _ _ _ _ _ _ _ hR
    refine ⟨x, y, q1, q2, ?_⟩
    rw [← q3]
    have e1 : nblocks (m + 1) ((w4 (padL l)).drop (16 * t)) a b c d e f g h k = nrnd K (ksN.drop 0) a b c d e f g h (ws 0) (ws 1) (ws 2) (ws 3) (ws 4) (ws 5) (ws 6) (ws 7) (ws 8) (ws 9) (ws 10) (ws 11) (ws 12) (ws 13) (ws 14) (ws 15) := by
      show (frc (ws 0) fun w0 => frc (ws 1) fun w1 => frc (ws 2) fun w2 => frc (ws 3) fun w3 => frc (ws 4) fun w4 => frc (ws 5) fun w5 => frc (ws 6) fun w6 => frc (ws 7) fun w7 => frc (ws 8) fun w8 => frc (ws 9) fun w9 => frc (ws 10) fun w10 => frc (ws 11) fun w11 => frc (ws 12) fun w12 => frc (ws 13) fun w13 => frc (ws 14) fun w14 => frc (ws 15) fun w15 => nrnd K ksN a b c d e f g h w0 w1 w2 w3 w4 w5 w6 w7 w8 w9 w10 w11 w12 w13 w14 w15) = _
      simp only [frc_eq]
      rfl
    rw [e1, hK]
    show (frc (nadd a a2) fun a => frc (nadd b b2) fun b => frc (nadd c c2) fun c => frc (nadd d d2) fun d => frc (nadd e e2) fun e => frc (nadd f f2) fun f => frc (nadd g g2) fun g => frc (nadd h h2) fun h => nblocks m (((w4 (padL l)).drop (16 * t)).drop 16) a b c d e f g h k) = _
    simp only [frc_eq]
    rw [List.drop_drop, show 16 * t + 16 = 16 * (t + 1) by omega]
def h8of (x y : Nat) : H8 := ⟨UInt8.ofNat (Nat.shiftRight x 24), UInt8.ofNat (Nat.shiftRight x 16), UInt8.ofNat (Nat.shiftRight x 8), UInt8.ofNat x, UInt8.ofNat (Nat.shiftRight y 24), UInt8.ofNat (Nat.shiftRight y 16), UInt8.ofNat (Nat.shiftRight y 8), UInt8.ofNat y⟩
noncomputable def fsum {α : Type} (l : List UInt8) (k : H8 → α) : α := nblocks (blocksN l) (w4 (padL l)) 1779033703 3144134277 1013904242 2773480762 1359893119 2600822924 528734635 1541459225 fun x y => k (h8of x y)
noncomputable def fdig {α : Type} (p : UInt8) (bss : List (List UInt8)) (k : H8 → α) : α := fsum (encAll p bss) k
theorem byte_nat (x n : Nat) (hn : n ≤ 32) : byteI (IntKind.u8.wrap (shrI .u32 (x : Int) (n : Int))) = UInt8.ofNat (Nat.shiftRight x n) := by
  rw [shr32_nat x n hn, IntKind.wrap_u8, byteI]
  apply UInt8.toNat_inj.1
  rw [UInt8.toNat_ofNat', UInt8.toNat_ofNat']
  omega
theorem fdig_eq {α : Type} (p : UInt8) (bss : List (List UInt8)) (k : H8 → α) : fdig p bss k = k (dig p bss) := by
  have h0 : R8 (stateH (encAll p bss) 0) 1779033703 3144134277 1013904242 2773480762 1359893119 2600822924 528734635 1541459225 := by
    constructor <;> first | rfl | decide
  obtain ⟨x, y, hx, hy, hk⟩ := nblocks_eq (encAll p bss) (fun x y => k (h8of x y)) (blocksN (encAll p bss)) 0 (Nat.zero_add _) _ _ _ _ _ _ _ _ h0
  rw [fdig, fsum]
  refine hk.trans (congrArg k ?_)
  have b := byte_nat
  have s0 : ∀ z : Nat, Nat.shiftRight z 0 = z := fun _ => rfl
  have f : ∀ j : Nat, j < 8 → shaB (encAll p bss) j = UInt8.ofNat (Nat.shiftRight (if j < 4 then x else y) (24 - j % 4 * 8)) := by
    intro j hj
    rw [shaB]
    by_cases h4 : j < 4
    · rw [show j / 4 = 0 by omega, hx, if_pos h4, byte_nat _ _ (by omega)]
    · rw [show j / 4 = 1 by omega, hy, if_neg h4, byte_nat _ _ (by omega)]
  rw [dig, f 0 (by decide), f 1 (by decide), f 2 (by decide), f 3 (by decide), f 4 (by decide), f 5 (by decide), f 6 (by decide), f 7 (by decide)]
  rfl
end Go.Proofs.YtmoohekgheoliaaGreatDoor

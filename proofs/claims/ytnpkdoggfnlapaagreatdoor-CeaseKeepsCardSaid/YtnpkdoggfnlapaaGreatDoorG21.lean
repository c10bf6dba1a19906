/- Parts Ys Yu Yv Yw Ye. -/
import Derived.Test.YtnpkdoggfnlapaaGreatDoorG20
import Derived.Test.YtnpkdoggfnlapaaGreatDoorG17
import Derived.Test.YtnpkdoggfnlapaaGreatDoorG18
import Derived.Test.YtnpkdoggfnlapaaGreatDoorG19
import Derived.Test.YtnpkdoggfnlapaaGreatDoorG15
import Derived.Test.YtnpkdoggfnlapaaGreatDoorG11
import Derived.Test.YtnpkdoggfnlapaaGreatDoorG16
set_option linter.unusedSimpArgs false
set_option linter.unusedVariables false
namespace Go.Proofs.YtnpkdoggfnlapaaGreatDoor
set_option maxRecDepth 100000
open Go.Sx
theorem u8_is {b c : UInt8} {n : Int} (h : n = (c.toNat : Int)) : (((b.toNat : Nat) : Int) == n) = decide (b = c) := by
  rw [Bool.eq_iff_iff, beq_iff_eq, decide_eq_true_eq, h, ← UInt8.toNat_inj]
  omega
def claimTx (c : ClaimM) : TxM := ⟨5, 0, [], [], [], par0, cert0, c⟩
def claimTxC (c : ClaimM) : List SV := txCells (claimTx c) nilV nilV nilV nilV nilV nilV
theorem raws_all (vs : List Value) (p : Nat → Bool) : (vs.map SV.raw).all (SV.ok p) = true := by
  rw [List.all_map, List.all_eq_true]; intro x _; rfl
theorem claimTxC_ok (c : ClaimM) : (claimTxC c).all (SV.ok fun _ => false) = true := by
  unfold claimTxC txCells parCells certCells
  simp only [List.all_cons, List.all_append, List.all_nil, raws_all, SV.ok, Bool.and_true]
theorem claimTxX_ok (c : ClaimM) : XV.ok (fun _ => false) (.cv (.agg (claimTxC c))) = true := claimTxC_ok c
def clSt (b : UInt8) (c : ClaimM) : St :=
  ⟨[none, none, some (XV.val (u8 b)), none, none, none, some (XV.sv (.ptr 4 0 0 0)), some (XV.sv (.ptr 5 0 0 0))] ++ List.replicate 71 none, [(4, .cells 48 (txCells ⟨0, 0, [], [], [], par0, cert0, claim0⟩ nilV nilV nilV nilV nilV nilV)), (5, .cells 46 (c.cells.map .raw))], 6⟩
def txC5 (vs : List Value) : List SV := .raw (.int .i64 5) :: .raw (.int .i64 0) :: nilV :: nilV :: nilV :: (parCells par0 nilV ++ (certCells cert0 nilV nilV ++ vs.map .raw))
theorem bend3 (c : ClaimM) : (bendC 3 c).cells = c.cells.set 36 (.int .u8 (bitI .xor .u8 ((c.proof 3).b0.toNat : Int) 1)) := by
  have e : u8 (byteI (bitI .xor .u8 ((c.proof 3).b0.toNat : Int) 1)) = .int .u8 (bitI .xor .u8 ((c.proof 3).b0.toNat : Int) 1) := u8_byteI _
  rw [← e]; rfl
theorem bend4 (c : ClaimM) : (bendC 4 c).cells = c.cells.set 4 (.int .u8 (bitI .xor .u8 (c.st.owner.b2.toNat : Int) 1)) := by
  have e : u8 (byteI (bitI .xor .u8 (c.st.owner.b2.toNat : Int) 1)) = .int .u8 (bitI .xor .u8 (c.st.owner.b2.toNat : Int) 1) := u8_byteI _
  rw [← e]; rfl
set_option maxHeartbeats 8000000 in
theorem claim16_can (a : AcsM) (hf : Fair a) (i : Nat) (hi : i < 1000) (b : UInt8) : Reads Tryz.prog 17 [.box a.ac, .plain (.one (.raw (.int .i64 i))), .plain (.one (.raw (u8 b)))] [] (.cv (.agg (claimTxC (bendC b (claimN a i))))) := by
  have f1 := hf.few
  have f2 := hf.le
  refine Reads.of Tryz.T_ok Tryz.func17 rfl _ _ _ rfl (claimTxX_ok (bendC b (claimN a i))) (fun C hC => ?_)
  (replace hC : C.n0 = 4 := hC; change Tri _ _ _ ⟨_, _, 4⟩ _)
  (refine Tri.cut 2 Tryz.mixed Tryz.T_ok ?_; ((conv => arg 5; whnf); repeat (refine xS ?_; conv => arg 5; whnf)))
  refine wD <| cutG <| Tri.merge (clSt b (claimN a i)) (Tri.of Tryz.mixed Tryz.T_ok ?_) ?_
  · (refine wBegin ?_; ((conv => arg 5; whnf); repeat (refine xS ?_; conv => arg 5; whnf)))
    refine wC (fun h1 => ?_) (fun h1 => ?_)
    · have h1' : i < a.pl.length := (by (try simp only [ww] at *); omega)
      have hpl := (a.pl.getD i 0).toNat_lt
      have e2 : IntKind.i64.wrap (((a.pl.getD i 0).toNat : Nat) : Int) = ((plA a i : Nat) : Int) := by
        show IntKind.i64.wrap (((a.pl.getD i 0).toNat : Nat) : Int) = (((a.pl.getD i 0).toNat : Nat) : Int)
        exact (by (try simp only [ww] at *); omega)
      have htl := treeN_len a a.pl.length
      (refine wGo ?_; ((conv => arg 5; whnf); repeat (refine xS ?_; conv => arg 5; whnf)))
      (repeat (refine wN ?_ ?_; exact (by (try simp only [ww] at *); omega); refine wGo ?_; ((conv => arg 5; whnf); repeat (refine xS ?_; conv => arg 5; whnf))))
      simp only [Nat.zero_add, Int.toNat_natCast, e2]
      (apply wP; exact (call_op rfl (entersB_of Tryz.func15 (by kernel_rfl)) rfl ((state_can a i (by omega) (by omega)).at [0, 1] ⟨lend_acs (lend_ro0 rfl rfl) (lend_ro0 rfl rfl), lend_plain rfl, trivial⟩ trivial)); ((conv => arg 5; whnf); repeat (refine xS ?_; conv => arg 5; whnf)))
      (apply wP; exact (call_op rfl (entersB_of Tryz.func46 (by kernel_rfl)) rfl ((tree16_can a hf).at [0, 1] ⟨lend_acs (lend_ro0 rfl rfl) (lend_ro0 rfl rfl), trivial⟩ trivial)); ((conv => arg 5; whnf); repeat (refine xS ?_; conv => arg 5; whnf)))
      (apply wP; exact (call_op rfl (entersB_of Tryz.func47 (by kernel_rfl)) rfl ((prv_can (treeN a a.pl.length) (by omega) (treeN_placed a _) (plA a i) (plA_lt a i)).at [] rfl rfl rfl ⟨lend_plain rfl, trivial⟩ trivial)); ((conv => arg 5; whnf); repeat (refine xS ?_; conv => arg 5; whnf)))
      refine wD ⟨rfl, ?_⟩
      rw [claimN, if_pos h1']
      unfold clSt
      ((try dsimp only); refine Ent.renC [0, 1, 2, 3, 5, 7] hC ?_ ?_ <;> repeat' (first | exact trivial | exact rfl | exact ⟨_, rfl, rfl, rfl, Nat.le_refl _, fun _ _ => rfl⟩ | exact ⟨_, rfl, rfl, rfl, fun _ _ => rfl⟩ | exact ⟨_, rfl, rfl, rfl⟩ | exact ⟨_, rfl, rfl⟩ | refine ⟨_, rfl, rfl, rfl, by omega, fun k hk => ?_⟩ | refine ⟨?_, ?_⟩ | fail))
    · have h1' : ¬ i < a.pl.length := (by (try simp only [ww] at *); omega)
      (refine wGo ?_; ((conv => arg 5; whnf); repeat (refine xS ?_; conv => arg 5; whnf)))
      refine wD ⟨rfl, ?_⟩
      rw [claimN, if_neg h1']
      unfold clSt
      ((try dsimp only); refine Ent.renC [0, 1, 2, 3, 5, 7] hC ?_ ?_ <;> repeat' (first | exact trivial | exact rfl | exact ⟨_, rfl, rfl, rfl, Nat.le_refl _, fun _ _ => rfl⟩ | exact ⟨_, rfl, rfl, rfl, fun _ _ => rfl⟩ | exact ⟨_, rfl, rfl, rfl⟩ | exact ⟨_, rfl, rfl⟩ | refine ⟨_, rfl, rfl, rfl, by omega, fun k hk => ?_⟩ | refine ⟨?_, ?_⟩ | fail))
  · generalize claimN a i = c
    unfold clSt
    refine Tri.of Tryz.mixed Tryz.T_ok ?_
    (refine wBegin ?_; ((conv => arg 5; whnf); repeat (refine xS ?_; conv => arg 5; whnf)))
    simp only [u8_is (show (1 : Int) = (((1 : UInt8).toNat : Nat) : Int) from rfl)]
    refine wC (fun h1 => ?_) (fun h1 => ?_)
    · obtain rfl := of_decide_eq_true h1
      (refine wGo ?_; ((conv => arg 5; whnf); repeat (refine xS ?_; conv => arg 5; whnf)))
      exact wD (Ends.plain (.inr rfl) rfl rfl)
    (refine wGo ?_; ((conv => arg 5; whnf); repeat (refine xS ?_; conv => arg 5; whnf)))
    simp only [u8_is (show (2 : Int) = (((2 : UInt8).toNat : Nat) : Int) from rfl)]
    refine wC (fun h2 => ?_) (fun h2 => ?_)
    · obtain rfl := of_decide_eq_true h2
      (refine wGo ?_; ((conv => arg 5; whnf); repeat (refine xS ?_; conv => arg 5; whnf)))
      exact wD (Ends.plain (.inr rfl) rfl rfl)
    (refine wGo ?_; ((conv => arg 5; whnf); repeat (refine xS ?_; conv => arg 5; whnf)))
    simp only [u8_is (show (3 : Int) = (((3 : UInt8).toNat : Nat) : Int) from rfl)]
    refine wC (fun h3 => ?_) (fun h3 => ?_)
    · obtain rfl := of_decide_eq_true h3
      (refine wGo ?_; ((conv => arg 5; whnf); repeat (refine xS ?_; conv => arg 5; whnf)))
      (repeat (refine wN ?_ ?_; exact (by (try simp only [ww] at *); omega); refine wGo ?_; ((conv => arg 5; whnf); repeat (refine xS ?_; conv => arg 5; whnf))))
      exact wD (Ends.plain (.inr rfl) rfl (congrArg (fun vs => XV.cv (.agg (txC5 vs))) (bend3 c).symm))
    (refine wGo ?_; ((conv => arg 5; whnf); repeat (refine xS ?_; conv => arg 5; whnf)))
    simp only [u8_is (show (4 : Int) = (((4 : UInt8).toNat : Nat) : Int) from rfl)]
    refine wC (fun h4 => ?_) (fun h4 => ?_)
    · obtain rfl := of_decide_eq_true h4
      (refine wGo ?_; ((conv => arg 5; whnf); repeat (refine xS ?_; conv => arg 5; whnf)))
      (repeat (refine wN ?_ ?_; exact (by (try simp only [ww] at *); omega); refine wGo ?_; ((conv => arg 5; whnf); repeat (refine xS ?_; conv => arg 5; whnf))))
      exact wD (Ends.plain (.inr rfl) rfl (congrArg (fun vs => XV.cv (.agg (txC5 vs))) (bend4 c).symm))
    (refine wGo ?_; ((conv => arg 5; whnf); repeat (refine xS ?_; conv => arg 5; whnf)))
    simp only [u8_is (show (5 : Int) = (((5 : UInt8).toNat : Nat) : Int) from rfl)]
    refine wC (fun h5 => ?_) (fun h5 => ?_)
    · obtain rfl := of_decide_eq_true h5
      (refine wGo ?_; ((conv => arg 5; whnf); repeat (refine xS ?_; conv => arg 5; whnf)))
      exact wD (Ends.plain (.inr rfl) rfl rfl)
    · have hb : bendC b c = c := by
        rw [bendC, if_neg (of_decide_eq_false h1), if_neg (of_decide_eq_false h2), if_neg (of_decide_eq_false h3), if_neg (of_decide_eq_false h4), if_neg (of_decide_eq_false h5)]
      rw [hb]
      (refine wGo ?_; ((conv => arg 5; whnf); repeat (refine xS ?_; conv => arg 5; whnf)))
      exact wD (Ends.plain (.inr rfl) rfl rfl)
def fairN (a : AcsM) : Bool := decide (a.pl.length ≤ 12) && (decide (a.pl.length ≤ a.am.length) && decide (a.am.length ≤ 50))
theorem fairB_eq (a : AcsM) : fairB a = (fairN a && (List.range a.pl.length).all (apartB a)) := by
  rw [fairB, fairN, Bool.and_assoc, Bool.and_assoc]
theorem u16_eq (a : AcsM) (i k : Nat) : (((a.pl.getD k 0).toNat : Int) == ((a.pl.getD i 0).toNat : Int)) = decide (plA a k = plA a i) := by
  rw [Bool.eq_iff_iff, beq_iff_eq, decide_eq_true_eq]
  show ((plA a k : Nat) : Int) = ((plA a i : Nat) : Int) ↔ _
  omega
def fairM (a : AcsM) : Mem := acsM a ++ [(2, .cells 24 [.slc 0 1 0 a.pl.length, .slc 1 1 0 a.am.length])]
set_option maxHeartbeats 4000000 in
theorem fair_can (a : AcsM) (hl1 : a.pl.length ≤ maxLen) (hl2 : a.am.length ≤ maxLen) : Reads Tryz.prog 14 [.box a.ac] [] (XV.bool (fairB a)) := by
  refine Reads.of Tryz.T_ok Tryz.func14 rfl _ _ _ rfl rfl (fun C hC => ?_)
  (replace hC : C.n0 = 2 := hC; change Tri _ _ _ ⟨_, _, 2⟩ _)
  rw [fairB_eq]
  have no : fairN a = false → XV.bool false = XV.bool (fairN a && (List.range a.pl.length).all (apartB a)) := fun h => by rw [h, Bool.false_and]
  simp only [maxLen] at hl1 hl2
  (refine Tri.cut 2 Tryz.mixed Tryz.T_ok ?_; ((conv => arg 5; whnf); repeat (refine xS ?_; conv => arg 5; whnf)))
  refine wC (fun h1 => ?_) (fun h1 => ?_)
  · (refine wGo ?_; ((conv => arg 5; whnf); repeat (refine xS ?_; conv => arg 5; whnf)))
    exact wD <| cutR <| Ends.plain (.inr rfl) rfl (no (by rw [fairN, decide_eq_false (show ¬ a.pl.length ≤ 12 by simp only [decide_eq_true_eq] at h1; omega), Bool.false_and]))
  (refine wGo ?_; ((conv => arg 5; whnf); repeat (refine xS ?_; conv => arg 5; whnf)))
  refine wC (fun h2 => ?_) (fun h2 => ?_)
  · (refine wGo ?_; ((conv => arg 5; whnf); repeat (refine xS ?_; conv => arg 5; whnf)))
    exact wD <| cutR <| Ends.plain (.inr rfl) rfl (no (by rw [fairN, decide_eq_false (show ¬ a.pl.length ≤ a.am.length by simp only [decide_eq_true_eq] at h2; omega), Bool.false_and, Bool.and_false]))
  (refine wGo ?_; ((conv => arg 5; whnf); repeat (refine xS ?_; conv => arg 5; whnf)))
  refine wC (fun h3 => ?_) (fun h3 => ?_)
  · (refine wGo ?_; ((conv => arg 5; whnf); repeat (refine xS ?_; conv => arg 5; whnf)))
    exact wD <| cutR <| Ends.plain (.inr rfl) rfl (no (by rw [fairN, decide_eq_false (show ¬ a.am.length ≤ 50 by simp only [decide_eq_true_eq] at h3; omega), Bool.and_false, Bool.and_false]))
  have hN : fairN a = true := by
    simp only [decide_eq_false_iff_not] at h1 h2 h3
    rw [fairN, decide_eq_true (show a.pl.length ≤ 12 by omega), decide_eq_true (show a.pl.length ≤ a.am.length by omega), decide_eq_true (show a.am.length ≤ 50 by omega)]; rfl
  have hpl : a.pl.length ≤ 12 := by simp only [decide_eq_false_iff_not] at h1; omega
  rw [hN, Bool.true_and]
  (refine wGo ?_; ((conv => arg 5; whnf); repeat (refine xS ?_; conv => arg 5; whnf)))
  refine wD <| cutG <| Tri.seq ?_
  (refine Tri.cut 1 Tryz.mixed Tryz.T_ok ?_; ((conv => arg 5; whnf); repeat (refine xS ?_; conv => arg 5; whnf)))
  refine wD <| cutG <| Tri.block ?_
  refine Tri.loop (α := { i : Nat // i ≤ a.pl.length ∧ (List.range i).all (apartB a) = true }) (fun i => ⟨[none, some (XV.sv (.ptr 2 0 0 0)), none, some (XV.int .i64 i.1)] ++ List.replicate 43 none, fairM a, 3⟩) (fun i => a.pl.length - i.1) ⟨0, Nat.zero_le _, rfl⟩ ?_ ?_
  · unfold fairM acsM
    ((try dsimp only); refine Ent.renC [0, 1, 2] hC ?_ ?_ <;> repeat' (first | exact trivial | exact rfl | exact ⟨_, rfl, rfl, rfl, Nat.le_refl _, fun _ _ => rfl⟩ | exact ⟨_, rfl, rfl, rfl, fun _ _ => rfl⟩ | exact ⟨_, rfl, rfl, rfl⟩ | exact ⟨_, rfl, rfl⟩ | refine ⟨_, rfl, rfl, rfl, by omega, fun k hk => ?_⟩ | refine ⟨?_, ?_⟩ | fail))
  rintro ⟨i, hi, ha⟩
  dsimp only
  unfold fairM acsM
  (refine Tri.cut 1 Tryz.mixed Tryz.T_ok ?_; ((conv => arg 5; whnf); repeat (refine xS ?_; conv => arg 5; whnf)))
  refine wC (fun k1 => ?_) (fun k1 => ?_)
  · (refine wGo ?_; ((conv => arg 5; whnf); repeat (refine xS ?_; conv => arg 5; whnf)))
    have h1' : i < a.pl.length := (by (try simp only [ww] at *); omega)
    have hs := range_all_succ (apartB a) i
    have hw : IntKind.i64.wrap ((i : Int) + 1) = ((i + 1 : Nat) : Int) := (by (try simp only [ww] at *); omega)
    have bad : apartB a i = false → XV.bool false = XV.bool ((List.range a.pl.length).all (apartB a)) := fun h => by rw [range_all_false h1' h]
    refine wD <| cutG <| Tri.seq <| Tri.block ?_
    refine Tri.seq (Tri.of Tryz.mixed Tryz.T_ok ?_)
    (refine wBegin ?_; ((conv => arg 5; whnf); repeat (refine xS ?_; conv => arg 5; whnf)))
    refine wD <| cutG <| Tri.block ?_
    refine Tri.loop (α := { k : Nat // k ≤ i ∧ (List.range k).all (fun k => !decide (plA a k = plA a i)) = true }) (fun k => ⟨[none, some (XV.sv (.ptr 2 0 0 0)), none, some (XV.int .i64 i), some (XV.int .i64 k.1)] ++ List.replicate 42 none, fairM a, 3⟩) (fun k => i - k.1) ⟨0, Nat.zero_le _, rfl⟩ ?_ ?_
    · unfold fairM acsM
      ((try dsimp only); refine Ent.renC [0, 1, 2] hC ?_ ?_ <;> repeat' (first | exact trivial | exact rfl | exact ⟨_, rfl, rfl, rfl, Nat.le_refl _, fun _ _ => rfl⟩ | exact ⟨_, rfl, rfl, rfl, fun _ _ => rfl⟩ | exact ⟨_, rfl, rfl, rfl⟩ | exact ⟨_, rfl, rfl⟩ | refine ⟨_, rfl, rfl, rfl, by omega, fun k hk => ?_⟩ | refine ⟨?_, ?_⟩ | fail))
    rintro ⟨k, hk, hka⟩
    dsimp only
    unfold fairM acsM
    (refine Tri.cut 1 Tryz.mixed Tryz.T_ok ?_; ((conv => arg 5; whnf); repeat (refine xS ?_; conv => arg 5; whnf)))
    refine wC (fun k2 => ?_) (fun k2 => ?_)
    · (refine wGo ?_; ((conv => arg 5; whnf); repeat (refine xS ?_; conv => arg 5; whnf)))
      have h2' : k < i := (by (try simp only [ww] at *); omega)
      have hw2 : IntKind.i64.wrap ((k : Int) + 1) = ((k + 1 : Nat) : Int) := (by (try simp only [ww] at *); omega)
      have hsk := range_all_succ (fun k => !decide (plA a k = plA a i)) k
      refine wD <| cutG <| Tri.seq <| Tri.block <| Tri.of Tryz.mixed Tryz.T_ok ?_
      (refine wBegin ?_; ((conv => arg 5; whnf); repeat (refine xS ?_; conv => arg 5; whnf)))
      (repeat (refine wN ?_ ?_; exact (by (try simp only [ww] at *); omega); refine wGo ?_; ((conv => arg 5; whnf); repeat (refine xS ?_; conv => arg 5; whnf))))
      simp only [Nat.zero_add, Int.toNat_natCast, u16_eq]
      refine wC (fun k3 => ?_) (fun k3 => ?_)
      · (refine wGo ?_; ((conv => arg 5; whnf); repeat (refine xS ?_; conv => arg 5; whnf)))
        exact wD <| blockR <| cutR <| loopR <| blockR <| blockR <| cutR <| loopR <| blockR <| cutR <| Ends.plain (.inr rfl) rfl (bad (by rw [apartB, range_all_false h2' (by rw [k3]; rfl)]))
      · (refine wGo ?_; ((conv => arg 5; whnf); repeat (refine xS ?_; conv => arg 5; whnf)))
        refine wD <| blockN <| cutG <| Tri.of Tryz.mixed Tryz.T_ok ?_
        (refine wBegin ?_; ((conv => arg 5; whnf); repeat (refine xS ?_; conv => arg 5; whnf)))
        refine wD <| loopN ⟨⟨k + 1, h2', by rw [hsk, hka, k3]; rfl⟩, by dsimp only; omega, ?_⟩
        rw [hw2]
        ((try dsimp only); refine Ent.renC [0, 1, 2] hC ?_ ?_ <;> repeat' (first | exact trivial | exact rfl | exact ⟨_, rfl, rfl, rfl, Nat.le_refl _, fun _ _ => rfl⟩ | exact ⟨_, rfl, rfl, rfl, fun _ _ => rfl⟩ | exact ⟨_, rfl, rfl, rfl⟩ | exact ⟨_, rfl, rfl⟩ | refine ⟨_, rfl, rfl, rfl, by omega, fun k hk => ?_⟩ | refine ⟨?_, ?_⟩ | fail))
    · (refine wGo ?_; ((conv => arg 5; whnf); repeat (refine xS ?_; conv => arg 5; whnf)))
      have h2' : k = i := (by (try simp only [ww] at *); omega)
      subst h2'
      refine wD <| cutE <| loopX <| blockX <| blockN <| cutG <| Tri.of Tryz.mixed Tryz.T_ok ?_
      (refine wBegin ?_; ((conv => arg 5; whnf); repeat (refine xS ?_; conv => arg 5; whnf)))
      refine wD <| loopN ⟨⟨k + 1, h1', by rw [hs, ha, apartB, hka]; rfl⟩, by dsimp only; omega, ?_⟩
      rw [hw]
      ((try dsimp only); refine Ent.renC [0, 1, 2] hC ?_ ?_ <;> repeat' (first | exact trivial | exact rfl | exact ⟨_, rfl, rfl, rfl, Nat.le_refl _, fun _ _ => rfl⟩ | exact ⟨_, rfl, rfl, rfl, fun _ _ => rfl⟩ | exact ⟨_, rfl, rfl, rfl⟩ | exact ⟨_, rfl, rfl⟩ | refine ⟨_, rfl, rfl, rfl, by omega, fun k hk => ?_⟩ | refine ⟨?_, ?_⟩ | fail))
  · (refine wGo ?_; ((conv => arg 5; whnf); repeat (refine xS ?_; conv => arg 5; whnf)))
    have h1' : i = a.pl.length := (by (try simp only [ww] at *); omega)
    subst h1'
    refine wD <| cutE <| loopX <| blockX <| cutG <| Tri.of Tryz.mixed Tryz.T_ok ?_
    (refine wBegin ?_; ((conv => arg 5; whnf); repeat (refine xS ?_; conv => arg 5; whnf)))
    exact wD (Ends.plain (.inr rfl) rfl (by rw [ha]))
end Go.Proofs.YtnpkdoggfnlapaaGreatDoor
namespace Go.Proofs.YtnpkdoggfnlapaaGreatDoor
set_option maxRecDepth 100000
open Go.Sx
theorem nanI_can (a : Int) : Reads Tryz.prog 156 [.plain (.one (.raw (.int .i64 a)))] [] (XV.bool false) := by
  refine Reads.of Tryz.T_ok Tryz.func156 rfl _ _ _ rfl rfl (fun C hC => ?_)
  (replace hC : C.n0 = 1 := hC; change Tri _ _ _ ⟨_, _, 1⟩ _)
  refine Tri.of Tryz.mixed Tryz.T_ok ?_
  (refine wBegin ?_; ((conv => arg 5; whnf); repeat (refine xS ?_; conv => arg 5; whnf)))
  exact wD (Ends.plain (.inr rfl) rfl (by simp))
theorem nanS_can (a : Int) : Reads Tryz.prog 101 [.plain (.one (.raw (.int .i64 a)))] [] (XV.bool false) := by
  refine Reads.of Tryz.T_ok Tryz.func101 rfl _ _ _ rfl rfl (fun C hC => ?_)
  (replace hC : C.n0 = 1 := hC; change Tri _ _ _ ⟨_, _, 1⟩ _)
  refine Tri.of Tryz.mixed Tryz.T_ok ?_
  (refine wBegin ?_; ((conv => arg 5; whnf); repeat (refine xS ?_; conv => arg 5; whnf)))
  exact wD (Ends.plain (.inr rfl) rfl (by simp))
theorem lessI_can (a b : Int) : Reads Tryz.prog 100 [.plain (.one (.raw (.int .i64 a))), .plain (.one (.raw (.int .i64 b)))] [] (XV.bool (decide (a < b))) := by
  refine Reads.of Tryz.T_ok Tryz.func100 rfl _ _ _ rfl rfl (fun C hC => ?_)
  (replace hC : C.n0 = 2 := hC; change Tri _ _ _ ⟨_, _, 2⟩ _)
  refine Tri.of Tryz.mixed Tryz.T_ok ?_
  (refine wBegin ?_; ((conv => arg 5; whnf); repeat (refine xS ?_; conv => arg 5; whnf)))
  (apply wP; exact (call_op rfl (entersB_of Tryz.func156 (by kernel_rfl)) rfl ((nanI_can a).at [] ⟨lend_plain rfl, trivial⟩ trivial)); ((conv => arg 5; whnf); repeat (refine xS ?_; conv => arg 5; whnf)))
  (repeat (refine wN ?_ ?_; exact (by (try simp only [ww] at *); omega); refine wGo ?_; ((conv => arg 5; whnf); repeat (refine xS ?_; conv => arg 5; whnf))))
  exact wD (Ends.plain (.inr rfl) rfl rfl)
theorem mid_eq {i j : Nat} (h : i + j < 4611686018427387904) : IntKind.i64.wrap (shrI .u64 (IntKind.u64.wrap (IntKind.i64.wrap ((i : Int) + (j : Int)))) 1) = (((i + j) / 2 : Nat) : Int) := by
  have e1 : IntKind.i64.wrap ((i : Int) + (j : Int)) = ((i + j : Nat) : Int) := by rw [IntKind.wrap_i64]; omega
  have e2 : IntKind.u64.wrap ((i + j : Nat) : Int) = ((i + j : Nat) : Int) := by show ((i + j : Nat) : Int) % 2 ^ 64 = _; omega
  rw [e1, e2, show (1 : Int) = ((1 : Nat) : Int) from rfl, shr_nat .u64 (i + j) 1 (by decide), IntKind.wrap_i64]
  omega
def bsSt (l : List Int) (a : Int) (i j : Nat) : St :=
  ⟨[some (XV.sv (.slc 0 1 0 l.length)), some (XV.int .i64 a), none, none, none, none, some (XV.int .i64 l.length), some (XV.int .i64 i), some (XV.int .i64 j)] ++ List.replicate 45 none, [(0, .ro 1 l.length (intsF l))], 2⟩
theorem bsearch_can (a : Int) (l : List Int) (hl : l.length ≤ 1000000) (hr : Rising l) (ha : a ∉ l) : Reads Tryz.prog 53 [.row 1 l.length (intsF l), .plain (.one (.raw (.int .i64 a)))] [] (.tup [.one (.raw (.int .i64 (posU l a))), .one (.raw (.bool false))]) := by
  have hget : ∀ i, i < l.length → l.getD i 0 ≠ a := fun i hi he => ha (by rw [← he, List.getD_eq_getElem?_getD, List.getElem?_eq_getElem hi]; exact List.getElem_mem hi)
  refine Reads.of Tryz.T_ok Tryz.func53 rfl _ _ _ rfl rfl (fun C hC => ?_)
  (replace hC : C.n0 = 2 := hC; change Tri _ _ _ ⟨_, _, 2⟩ _)
  (refine Tri.cut 3 Tryz.mixed Tryz.T_ok ?_; ((conv => arg 5; whnf); repeat (refine xS ?_; conv => arg 5; whnf)))
  refine wD <| cutG <| Tri.seq ?_
  (refine Tri.cut 1 Tryz.mixed Tryz.T_ok ?_; ((conv => arg 5; whnf); repeat (refine xS ?_; conv => arg 5; whnf)))
  refine wD <| cutG <| Tri.block ?_
  refine Tri.loop (α := { p : Nat × Nat // p.1 ≤ p.2 ∧ p.2 ≤ l.length ∧ (∀ k, k < p.1 → l.getD k 0 < a) ∧ (p.2 < l.length → ¬ l.getD p.2 0 < a) }) (fun p => bsSt l a p.1.1 p.1.2) (fun p => p.1.2 - p.1.1) ⟨(0, l.length), Nat.zero_le _, Nat.le_refl _, fun k hk => absurd hk (Nat.not_lt_zero k), fun h => absurd h (Nat.lt_irrefl _)⟩ ?_ ?_
  · unfold bsSt
    ((try dsimp only); refine Ent.renC [0, 1] hC ?_ ?_ <;> repeat' (first | exact trivial | exact rfl | exact ⟨_, rfl, rfl, rfl, Nat.le_refl _, fun _ _ => rfl⟩ | exact ⟨_, rfl, rfl, rfl, fun _ _ => rfl⟩ | exact ⟨_, rfl, rfl, rfl⟩ | exact ⟨_, rfl, rfl⟩ | refine ⟨_, rfl, rfl, rfl, by omega, fun k hk => ?_⟩ | refine ⟨?_, ?_⟩ | fail))
  rintro ⟨⟨i, j⟩, h1, h2, h3, h4⟩
  dsimp only at h1 h2 h3 h4
  unfold bsSt
  dsimp only
  (refine Tri.cut 2 Tryz.mixed Tryz.T_ok ?_; ((conv => arg 5; whnf); repeat (refine xS ?_; conv => arg 5; whnf)))
  refine wC (fun hc => ?_) (fun hc => ?_)
  · (refine wGo ?_; ((conv => arg 5; whnf); repeat (refine xS ?_; conv => arg 5; whnf)))
    have hij : i < j := (by (try simp only [ww] at *); omega)
    refine wD <| cutG <| Tri.block <| Tri.of Tryz.mixed Tryz.T_ok ?_
    (refine wBegin ?_; ((conv => arg 5; whnf); repeat (refine xS ?_; conv => arg 5; whnf)))
    have hm := mid_eq (i := i) (j := j) (by omega)
    obtain ⟨m, hm'⟩ : ∃ m, (i + j) / 2 = m := ⟨_, rfl⟩
    rw [hm'] at hm
    have k1 : i ≤ m := by omega
    have k2 : m < j := by omega
    rw [hm]
    (repeat (refine wN ?_ ?_; exact (by (try simp only [ww] at *); omega); refine wGo ?_; ((conv => arg 5; whnf); repeat (refine xS ?_; conv => arg 5; whnf))))
    simp only [Nat.zero_add, Int.toNat_natCast]
    (apply wP; exact (call_op rfl (entersB_of Tryz.func100 (by kernel_rfl)) rfl ((lessI_can (l.getD m 0) a).at [] ⟨lend_plain rfl, lend_plain rfl, trivial⟩ trivial)); ((conv => arg 5; whnf); repeat (refine xS ?_; conv => arg 5; whnf)))
    refine wC (fun h5 => ?_) (fun h5 => ?_)
    · (refine wGo ?_; ((conv => arg 5; whnf); repeat (refine xS ?_; conv => arg 5; whnf)))
      have h5' : l.getD m 0 < a := of_decide_eq_true h5
      have hw : IntKind.i64.wrap ((m : Int) + 1) = ((m + 1 : Nat) : Int) := (by (try simp only [ww] at *); omega)
      refine wD <| blockN <| loopN ⟨⟨(m + 1, j), by omega, h2, fun k hk => ?_, h4⟩, by dsimp only; omega, ?_⟩
      · by_cases e : k = m
        · rw [e]; exact h5'
        · have := rising_get hr (show k < m by omega) (by omega); omega
      · rw [hw]
        ((try dsimp only); refine Ent.renC [0, 1] hC ?_ ?_ <;> repeat' (first | exact trivial | exact rfl | exact ⟨_, rfl, rfl, rfl, Nat.le_refl _, fun _ _ => rfl⟩ | exact ⟨_, rfl, rfl, rfl, fun _ _ => rfl⟩ | exact ⟨_, rfl, rfl, rfl⟩ | exact ⟨_, rfl, rfl⟩ | refine ⟨_, rfl, rfl, rfl, by omega, fun k hk => ?_⟩ | refine ⟨?_, ?_⟩ | fail))
    · (refine wGo ?_; ((conv => arg 5; whnf); repeat (refine xS ?_; conv => arg 5; whnf)))
      have h5' : ¬ l.getD m 0 < a := of_decide_eq_false h5
      refine wD <| blockN <| loopN ⟨⟨(i, m), k1, by omega, h3, fun _ => h5'⟩, by dsimp only; omega, ?_⟩
      ((try dsimp only); refine Ent.renC [0, 1] hC ?_ ?_ <;> repeat' (first | exact trivial | exact rfl | exact ⟨_, rfl, rfl, rfl, Nat.le_refl _, fun _ _ => rfl⟩ | exact ⟨_, rfl, rfl, rfl, fun _ _ => rfl⟩ | exact ⟨_, rfl, rfl, rfl⟩ | exact ⟨_, rfl, rfl⟩ | refine ⟨_, rfl, rfl, rfl, by omega, fun k hk => ?_⟩ | refine ⟨?_, ?_⟩ | fail))
  · (refine wGo ?_; ((conv => arg 5; whnf); repeat (refine xS ?_; conv => arg 5; whnf)))
    obtain rfl : i = j := (by (try simp only [ww] at *); omega)
    have hp := posU_of h2 h3 h4
    rw [hp]
    refine wD <| cutE <| loopX <| blockX <| cutG <| Tri.of Tryz.mixed Tryz.T_ok ?_
    (refine wBegin ?_; ((conv => arg 5; whnf); repeat (refine xS ?_; conv => arg 5; whnf)))
    refine wC (fun h5 => ?_) (fun h5 => ?_)
    · have h5' : i < l.length := (by (try simp only [ww] at *); omega)
      (refine wGo ?_; ((conv => arg 5; whnf); repeat (refine xS ?_; conv => arg 5; whnf)))
      (repeat (refine wN ?_ ?_; exact (by (try simp only [ww] at *); omega); refine wGo ?_; ((conv => arg 5; whnf); repeat (refine xS ?_; conv => arg 5; whnf))))
      simp only [Nat.zero_add, Int.toNat_natCast]
      refine wFd (by simpa using hget i h5') ?_
      (refine wGo ?_; ((conv => arg 5; whnf); repeat (refine xS ?_; conv => arg 5; whnf)))
      (repeat (refine wN ?_ ?_; exact (by (try simp only [ww] at *); omega); refine wGo ?_; ((conv => arg 5; whnf); repeat (refine xS ?_; conv => arg 5; whnf))))
      simp only [Nat.zero_add, Int.toNat_natCast]
      (apply wP; exact (call_op rfl (entersB_of Tryz.func101 (by kernel_rfl)) rfl ((nanS_can (l.getD i 0)).at [] ⟨lend_plain rfl, trivial⟩ trivial)); ((conv => arg 5; whnf); repeat (refine xS ?_; conv => arg 5; whnf)))
      exact wD (Ends.plain (.inr rfl) rfl rfl)
    · (refine wGo ?_; ((conv => arg 5; whnf); repeat (refine xS ?_; conv => arg 5; whnf)))
      exact wD (Ends.plain (.inr rfl) rfl rfl)
end Go.Proofs.YtnpkdoggfnlapaaGreatDoor
namespace Go.Proofs.YtnpkdoggfnlapaaGreatDoor
set_option maxRecDepth 100000
open Go.Sx
theorem claimTx_sized (c : ClaimM) : Sized (claimTx c) := ⟨Nat.zero_le _, Nat.zero_le _, Nat.zero_le _, Nat.zero_le _, Nat.zero_le _, Nat.zero_le _⟩
theorem claimTx_bare (c : ClaimM) : emptyB (claimTx c).bare5 = true := by
  show emptyB (claimTx claim0) = true
  decide
theorem mayC_can (c : ClaimM) : Reads Tryz.prog 82 [.box (claimTx c).ac] [] (XV.bool (claimOK c)) := by
  have h := may5_can (claimTx c) rfl (claimTx_sized c)
  rw [claimTx_bare, Bool.and_true] at h
  exact h
theorem anyI_mem (a : Int) (l : List Int) : l.any (eqI a) = decide (a ∈ l) := by
  rw [Bool.eq_iff_iff, List.any_eq_true, decide_eq_true_eq]
  constructor
  · rintro ⟨x, hx, h⟩
    rw [eqI, beq_iff_eq] at h
    rw [h]; exact hx
  · exact fun h => ⟨a, h, by rw [eqI, beq_iff_eq]⟩
def sideSlc (x : SideM) (a b d e : Nat) : List SV := sideCells x (.slc a 8 0 x.par.keys.length) (.slc b 9 0 x.cert.outs.length) (.slc d 282 0 x.cert.sigs.length) (.slc e 1 0 x.used.length)
def chkSt (L : List SideM) (c : ClaimM) (x : SideM) : St :=
  ⟨[some (XV.sv (.ptr 0 0 0 0)), none, none, some (XV.sv (.ptr 3 0 0 0)), none, some (XV.sv (.ptr 4 0 0 0)), some (XV.bool true)] ++ List.replicate 49 none,
   [(0, .abs (pReg L)), (2, .ext stepsP), (3, .cells 46 (c.cells.map .raw)), (4, .cells 68 (sideSlc x 5 6 7 8)), (5, .vec 29 8 x.par.keys.length (keysF x.par.keys)), (6, .vec 59 9 x.cert.outs.length (outsF x.cert.outs)), (7, .vec 192 282 x.cert.sigs.length (sgdsF x.cert.sigs)), (8, .vec 3 1 x.used.length (intsF x.used))], 9⟩
set_option maxHeartbeats 4000000 in
theorem check_can (L : List SideM) (c : ClaimM) (hL : ∀ i, i < L.length → (L.getD i default).Sized) (hl : L.length ≤ 1000) : Acts Tryz.prog 42 (.abs (pReg L)) (.abs (pReg L)) [.plain c.x] [stepsP] (XV.int .i64 (checkE L c)) := by
  refine Acts.of Tryz.T_ok Tryz.func42 rfl _ _ _ _ _ rfl rfl rfl (fun C hC => ?_)
  (replace hC : C.n0 = 3 := hC; change Tri _ _ _ ⟨_, _, 3⟩ _)
  have hmay := mayC_can c
  cases hb : claimOK c with
  | false =>
    rw [hb] at hmay
    have he : checkE L c = 4 := by rw [checkE, if_pos hb]
    rw [he]
    refine Tri.of Tryz.mixed Tryz.T_ok ?_
    (refine wBegin ?_; ((conv => arg 5; whnf); repeat (refine xS ?_; conv => arg 5; whnf)))
    (apply wP; exact (call_op rfl (entersB_of Tryz.func82 (by kernel_rfl)) rfl (hmay.at [] ⟨lend_tx (t := claimTx c) (lend_nil _ _) (lend_nil _ _) (lend_nil _ _) (lend_nil _ _) (lend_nil _ _) (lend_nil _ _), trivial⟩ trivial)); ((conv => arg 5; whnf); repeat (refine xS ?_; conv => arg 5; whnf)))
    exact wD (Ends.shutN (.inr rfl) (Ent.refl _) rfl rfl rfl)
  | true =>
    rw [hb] at hmay
    obtain ⟨⟨s1, s2⟩, ⟨a1, a2⟩, w1, ⟨m1, m2⟩, n1, n2⟩ := claimOK_iff.1 hb
    (refine Tri.cut 3 Tryz.mixed Tryz.T_ok ?_; ((conv => arg 5; whnf); repeat (refine xS ?_; conv => arg 5; whnf)))
    (apply wP; exact (call_op rfl (entersB_of Tryz.func82 (by kernel_rfl)) rfl (hmay.at [] ⟨lend_tx (t := claimTx c) (lend_nil _ _) (lend_nil _ _) (lend_nil _ _) (lend_nil _ _) (lend_nil _ _) (lend_nil _ _), trivial⟩ trivial)); ((conv => arg 5; whnf); repeat (refine xS ?_; conv => arg 5; whnf)))
    by_cases h8 : (L.length : Int) ≤ c.side
    · have he : checkE L c = 8 := by rw [checkE, if_neg (by rw [hb]; simp), if_pos h8]
      rw [he]
      have ho := side_out L c.side (by rw [inB, decide_eq_false (show ¬ c.side < (L.length : Int) by omega), Bool.and_false])
      (apply wP; exact (call_op rfl (entersB_of Tryz.func22 (by kernel_rfl)) rfl (ho.at1 [] rfl rfl rfl ⟨lend_plain rfl, trivial⟩ trivial)); ((conv => arg 5; whnf); repeat (refine xS ?_; conv => arg 5; whnf)))
      refine wD <| cutG <| Tri.of Tryz.mixed Tryz.T_ok ?_
      (refine wBegin ?_; ((conv => arg 5; whnf); repeat (refine xS ?_; conv => arg 5; whnf)))
      exact wD (Ends.shutN (.inr rfl) (Ent.refl _) rfl rfl rfl)
    have hi : c.side.toNat < L.length := by omega
    have hz := hL _ hi
    have hin := side_in L c.side.toNat hi hz
    rw [Int.toNat_of_nonneg s1] at hin
    have he : checkE L c = checkX (L.getD c.side.toNat default) c := by rw [checkE, if_neg (by rw [hb]; simp), if_neg h8]
    rw [he]
    generalize L.getD c.side.toNat default = x at hin hz ⊢
    (apply wP; exact (call_op rfl (entersB_of Tryz.func22 (by kernel_rfl)) rfl (hin.at1 [] rfl rfl rfl ⟨lend_plain rfl, trivial⟩ trivial)); ((conv => arg 5; whnf); repeat (refine xS ?_; conv => arg 5; whnf)))
    refine wD <| cutG <| Tri.ent (Ent.unpack (c := 16) (l := sideRows x) rfl) <| Tri.ent (S' := chkSt L c x) ?_ ?_
    · unfold chkSt
      ((try dsimp only); refine Ent.renC [0, 1, 2, 3, 20, 23, 24, 25, 26] hC ?_ ?_ <;> repeat' (first | exact trivial | exact rfl | exact ⟨_, rfl, rfl, rfl, Nat.le_refl _, fun _ _ => rfl⟩ | exact ⟨_, rfl, rfl, rfl, fun _ _ => rfl⟩ | exact ⟨_, rfl, rfl, rfl⟩ | exact ⟨_, rfl, rfl⟩ | refine ⟨_, rfl, rfl, rfl, by omega, fun k hk => ?_⟩ | refine ⟨?_, ?_⟩ | fail))
    unfold chkSt
    refine Tri.of Tryz.mixed Tryz.T_ok ?_
    (refine wBegin ?_; ((conv => arg 5; whnf); repeat (refine xS ?_; conv => arg 5; whnf)))
    refine wC (fun h1 => ?_) (fun h1 => ?_)
    · have h1' : x.ceased = false := by simpa using h1
      (refine wGo ?_; ((conv => arg 5; whnf); repeat (refine xS ?_; conv => arg 5; whnf)))
      exact wD (Ends.shutN (.inr rfl) (Ent.refl _) rfl rfl (by rw [checkX, if_pos h1']))
    have h1' : x.ceased = true := by simpa using h1
    (refine wGo ?_; ((conv => arg 5; whnf); repeat (refine xS ?_; conv => arg 5; whnf)))
    (apply wP; exact (call_op rfl (entersB_of Tryz.func83 (by kernel_rfl)) rfl ((containsI_can c.acct x.used (by have := hz.used; omega)).at [8] ⟨lend_vecN (lo := 0) rfl rfl rfl (Nat.le_of_eq (Nat.zero_add _)) (fun i _ => by rw [Nat.zero_add]), lend_plain rfl, trivial⟩ trivial)); ((conv => arg 5; whnf); repeat (refine xS ?_; conv => arg 5; whnf)))
    rw [anyI_mem]
    refine wC (fun h2 => ?_) (fun h2 => ?_)
    · have h2' : c.acct ∈ x.used := of_decide_eq_true h2
      (refine wGo ?_; ((conv => arg 5; whnf); repeat (refine xS ?_; conv => arg 5; whnf)))
      exact wD (Ends.shutN (.inr rfl) (Ent.refl _) rfl rfl (by rw [checkX, if_neg (by rw [h1']; simp), if_pos h2']))
    have h2' : c.acct ∉ x.used := of_decide_eq_false h2
    (refine wGo ?_; ((conv => arg 5; whnf); repeat (refine xS ?_; conv => arg 5; whnf)))
    (apply wP; exact (call_op rfl (entersB_of Tryz.func85 (by kernel_rfl)) rfl ((leafP_can c.acct c.st ⟨⟨a1, a2⟩, w1, ⟨by omega, by omega⟩, ⟨n1, n2⟩⟩).at [2] ⟨lend_plain rfl, lend_plain rfl, trivial⟩ ⟨lend_ext (c := 2) rfl rfl, trivial⟩)); ((conv => arg 5; whnf); repeat (refine xS ?_; conv => arg 5; whnf)))
    have hsc := scheck_can x.root (leafA c.acct c.st) c.acct.toNat (by omega) c.proof
    rw [Int.toNat_of_nonneg a1] at hsc
    (apply wP; exact (call_op rfl (entersB_of Tryz.func84 (by kernel_rfl)) rfl (hsc.at [2] ⟨lend_plain rfl, lend_plain rfl, lend_plain rfl, lend_plain rfl, trivial⟩ ⟨lend_ext (c := 2) rfl rfl, trivial⟩)); ((conv => arg 5; whnf); repeat (refine xS ?_; conv => arg 5; whnf)))
    have hpf : decide (upS (leafA c.acct c.st) c.acct.toNat c.proof 16 = x.root) = proofOK x.root c := rfl
    rw [hpf]
    refine wC (fun h3 => ?_) (fun h3 => ?_)
    · have h3' : proofOK x.root c = false := by simpa using h3
      (refine wGo ?_; ((conv => arg 5; whnf); repeat (refine xS ?_; conv => arg 5; whnf)))
      exact wD (Ends.shutN (.inr rfl) (Ent.refl _) rfl rfl (by rw [checkX, if_neg (by rw [h1']; simp), if_neg h2', if_pos h3']))
    have h3' : proofOK x.root c = true := by simpa using h3
    (refine wGo ?_; ((conv => arg 5; whnf); repeat (refine xS ?_; conv => arg 5; whnf)))
    refine wC (fun h4 => ?_) (fun h4 => ?_)
    · have h4' : x.bal < c.st.amt := of_decide_eq_true h4
      (refine wGo ?_; ((conv => arg 5; whnf); repeat (refine xS ?_; conv => arg 5; whnf)))
      exact wD (Ends.shutN (.inr rfl) (Ent.refl _) rfl rfl (by rw [checkX, if_neg (by rw [h1']; simp), if_neg h2', if_neg (by rw [h3']; simp), if_pos h4']))
    have h4' : ¬ x.bal < c.st.amt := of_decide_eq_false h4
    (refine wGo ?_; ((conv => arg 5; whnf); repeat (refine xS ?_; conv => arg 5; whnf)))
    exact wD (Ends.shutN (.inr rfl) (Ent.refl _) rfl rfl (by rw [checkX, if_neg (by rw [h1']; simp), if_neg h2', if_neg (by rw [h3']; simp), if_neg h4']))
end Go.Proofs.YtnpkdoggfnlapaaGreatDoor
namespace Go.Sx
theorem Does.at2 {P : Program} {f : FuncId} {a b a2 b2 : Chunk} {l : List AD} {es : List ExtP} {X : XV} {fr : Option Chunk} (h : Does P f [(a, b), (a2, b2)] l es X fr) {Xs : List CV} {M : Mem} {c c2 d : Nat} (rd : List Nat) (hc : M.get c = some a) (hc2 : M.get c2 = some a2) (hids : (Nat.beq c c2 || Nat.beq c d || Nat.beq c2 d) = false) (hrd : (nmem c rd || nmem c2 rd) = false) (ha : LendsL M rd Xs l) (he : LendsX M rd es) :
    CallSpec P f (.one (.ptr c 0 0 0) :: .one (.ptr c2 0 0 0) :: Xs) M d { v := X.ren fun _ => d, upd := (c, b) :: (c2, b2) :: frM d fr, wr := [c, c2] } (c :: c2 :: rd) := by
  simp only [Bool.or_eq_false_iff, nbeq, decide_eq_false_iff_not] at hids hrd
  refine h.at [c, c2] rd rfl (by simp [hids.1.1, hids.1.2, hids.2]) (by simp [hrd.1, hrd.2]) (fun i c' x h1 h2 => ?_) ha he
  match i with
  | 0 =>
    simp only [List.getElem?_cons_zero, Option.some.injEq] at h1 h2
    subst h1 h2; exact hc
  | 1 =>
    simp only [List.getElem?_cons_succ, List.getElem?_cons_zero, Option.some.injEq] at h1 h2
    subst h1 h2; exact hc2
  | i + 2 => simp at h1
theorem Ends.shutN2 {C : Ctx} {T : TyTab} {rs : List ResultVar} {n0 : Nat} {X v : XV} {S S' : St} {e : Exit} {ch ch2 : Chunk} (he : e = .normal ∨ e = .ret) (hE : Ent C S S') (hm : S'.mem.get 0 = some ch) (hm2 : S'.mem.get 1 = some ch2) (hr : resX T S' rs = some v) (hv : v = X) :
    Ends C T rs 2 n0 ⟨X, [(0, ch), (1, ch2)], none⟩ e S := by
  refine ⟨he, _, hE, by rw [hr, hv], fun i ch' h => ?_, fun i ch h => by cases h⟩
  simp only [Mem.get, nbeq] at h
  by_cases hk : 0 = i
  · subst hk
    simp only [decide_true, cond_true, Option.some.injEq] at h
    exact ⟨by omega, by rw [← h]; exact hm⟩
  · by_cases hk1 : 1 = i
    · subst hk1
      simp only [hk, decide_false, decide_true, cond_true, cond_false, Option.some.injEq] at h
      exact ⟨by omega, by rw [← h]; exact hm2⟩
    · simp [hk, hk1] at h
end Go.Sx
namespace Go.Proofs.YtnpkdoggfnlapaaGreatDoor
set_option maxRecDepth 100000
open Go.Sx
set_option maxHeartbeats 4000000 in
theorem take_form {t : TxM} (L : List SideM) (S : USet) (h : Int64) (hid : (∃ b, EncOK t b ∧ b.length ≤ 900000000 ∧ t.kind ≠ 5) ∨ EncBad t) : Does Tryz.prog 20 [(.abs (pReg L), .abs (pReg L)), (.abs (usetP S), .abs (usetP S))] [.box t.ac, .plain (.one (.raw (.int .i64 h.toInt)))] [stepsP] (XV.int .i64 4) none := by
  refine Does.of Tryz.T_ok Tryz.func20 rfl _ _ _ _ _ rfl rfl rfl 0 (fun C hC => ?_)
  (replace hC : C.n0 = 10 := hC; change Tri _ _ _ ⟨_, _, 10⟩ _)
  obtain ⟨kind, height, ins, outs, fwds, par, cert, claim⟩ := t
  refine Tri.of Tryz.mixed Tryz.T_ok ?_
  (refine wBegin ?_; ((conv => arg 5; whnf); repeat (refine xS ?_; conv => arg 5; whnf)))
  rcases hid with ⟨b, h1, h2, h3⟩ | h1
  · dsimp only at h3
    (apply wP; exact (call_op rfl (entersB_of Tryz.func51 (by kernel_rfl)) rfl ((id_of h1 h2).at [2, 3, 4, 5, 6, 7, 9] ⟨lend_tx (t := ⟨kind, height, ins, outs, fwds, par, cert, claim⟩) (lend_ro0 rfl rfl) (lend_ro0 rfl rfl) (lend_ro0 rfl rfl) (lend_ro0 rfl rfl) (lend_ro0 rfl rfl) (lend_ro0 rfl rfl), trivial⟩ ⟨lend_ext (c := 9) rfl rfl, trivial⟩)); ((conv => arg 5; whnf); repeat (refine xS ?_; conv => arg 5; whnf)))
    refine wC (fun h4 => ?_) (fun h4 => ?_)
    · (refine wGo ?_; ((conv => arg 5; whnf); repeat (refine xS ?_; conv => arg 5; whnf)))
      exact wD (Ends.shutN2 (.inr rfl) (Ent.refl _) rfl rfl rfl rfl)
    · exact absurd h4 (by simp [h3])
  · (apply wP; exact (call_op rfl (entersB_of Tryz.func51 (by kernel_rfl)) rfl ((id_no h1).at [2, 3, 4, 5, 6, 7, 9] ⟨lend_tx (t := ⟨kind, height, ins, outs, fwds, par, cert, claim⟩) (lend_ro0 rfl rfl) (lend_ro0 rfl rfl) (lend_ro0 rfl rfl) (lend_ro0 rfl rfl) (lend_ro0 rfl rfl) (lend_ro0 rfl rfl), trivial⟩ ⟨lend_ext (c := 9) rfl rfl, trivial⟩)); ((conv => arg 5; whnf); repeat (refine xS ?_; conv => arg 5; whnf)))
    exact wD (Ends.shutN2 (.inr rfl) (Ent.refl _) rfl rfl rfl rfl)
theorem claimID_eq (c : ClaimM) : dig 120 [claimEncB c] = claimID c := rfl
def tkSt1 (L : List SideM) (S : USet) (c : ClaimM) (h : Int64) : St :=
  ⟨[some (XV.sv (.ptr 0 0 0 0)), some (XV.sv (.ptr 1 0 0 0)), none, some (XV.int .i64 h.toInt), none, none, none, none, none, some (XV.sv (.ptr 10 0 0 0)), none, some (XV.sv (.ptr 11 0 0 0))] ++ List.replicate 93 none,
   [(0, .abs (pReg L)), (1, .abs (usetP S)), (9, .ext stepsP), (10, .cells 29 ((claimID c).cells.map .raw)), (11, .cells 46 (c.cells.map .raw))], 12⟩
def tkSt2 (L : List SideM) (S : USet) (c : ClaimM) (x : SideM) : St :=
  ⟨[some (XV.sv (.ptr 0 0 0 0)), none, none, none, none, none, none, none, none, none, none, some (XV.sv (.ptr 10 0 0 0)), none, none, none, some (XV.sv (.ptr 11 0 0 0))] ++ List.replicate 89 none,
   [(0, .abs (pReg L)), (1, .abs (usetP S)), (10, .cells 46 (c.cells.map .raw)), (11, .cells 68 (sideSlc x 12 13 14 15)), (12, .vec 29 8 x.par.keys.length (keysF x.par.keys)), (13, .vec 59 9 x.cert.outs.length (outsF x.cert.outs)), (14, .vec 192 282 x.cert.sigs.length (sgdsF x.cert.sigs)), (15, .vec 3 1 x.used.length (intsF x.used))], 16⟩
set_option maxHeartbeats 8000000 in
theorem take_can (L : List SideM) (S : USet) (c : ClaimM) (h : Int64) (hL : ∀ i, i < L.length → (L.getD i default).Sized) (hl : L.length ≤ 1000) (hS : S.steps.length < 900000) (hu : ∀ i, i < L.length → Rising (L.getD i default).used ∧ (L.getD i default).used.length < 900000) :
    Does Tryz.prog 20 [(.abs (pReg L), .abs (pReg (takeE L S c h).1.1)), (.abs (usetP S), .abs (usetP (takeE L S c h).1.2))] [.box (claimTx c).ac, .plain (.one (.raw (.int .i64 h.toInt)))] [stepsP] (XV.int .i64 (takeE L S c h).2) none := by
  have hmay := mayC_can c
  cases hb : claimOK c with
  | false =>
    rw [hb] at hmay
    have he : checkE L c = 4 := by rw [checkE, if_pos hb]
    have ht : takeE L S c h = ((L, S), 4) := by rw [takeE, he, if_neg (by decide)]
    rw [ht]
    exact take_form L S h (.inr (enc_bad hmay))
  | true =>
    rw [hb] at hmay
    obtain ⟨⟨s1, s2⟩, ⟨a1, a2⟩, w1, ⟨m1, m2⟩, n1, n2⟩ := claimOK_iff.1 hb
    have hid := id_of (enc5 (t := claimTx c) rfl hb hmay) (by rw [claimEncB_len]; decide)
    rw [show (claimTx c).claim = c from rfl, claimID_eq] at hid
    refine Does.of Tryz.T_ok Tryz.func20 rfl _ _ _ _ _ rfl rfl rfl 0 (fun C hC => ?_)
    (replace hC : C.n0 = 10 := hC; change Tri _ _ _ ⟨_, _, 10⟩ _)
    (refine Tri.cut 5 Tryz.mixed Tryz.T_ok ?_; ((conv => arg 5; whnf); repeat (refine xS ?_; conv => arg 5; whnf)))
    (apply wP; exact (call_op rfl (entersB_of Tryz.func51 (by kernel_rfl)) rfl (hid.at [2, 3, 4, 5, 6, 7, 9] ⟨lend_tx (t := claimTx c) (lend_ro0 rfl rfl) (lend_ro0 rfl rfl) (lend_ro0 rfl rfl) (lend_ro0 rfl rfl) (lend_ro0 rfl rfl) (lend_ro0 rfl rfl), trivial⟩ ⟨lend_ext (c := 9) rfl rfl, trivial⟩)); ((conv => arg 5; whnf); repeat (refine xS ?_; conv => arg 5; whnf)))
    (refine wFd rfl ?_; refine wGo ?_; ((conv => arg 5; whnf); repeat (refine xS ?_; conv => arg 5; whnf)))
    (apply wP; exact (call_op rfl (entersB_of Tryz.func42 (by kernel_rfl)) rfl ((check_can L c hL hl).at [9] rfl rfl rfl ⟨lend_plain rfl, trivial⟩ ⟨lend_ext (c := 9) rfl rfl, trivial⟩)); ((conv => arg 5; whnf); repeat (refine xS ?_; conv => arg 5; whnf)))
    refine wC (fun h1 => ?_) (fun h1 => ?_)
    · have h1' : checkE L c ≠ 0 := by simpa using h1
      have ht : takeE L S c h = ((L, S), checkE L c) := by rw [takeE, if_neg h1']
      rw [ht]
      (refine wGo ?_; ((conv => arg 5; whnf); repeat (refine xS ?_; conv => arg 5; whnf)))
      exact wD <| cutR <| Ends.shutN2 (.inr rfl) (Ent.refl _) rfl rfl rfl rfl
    have h1' : checkE L c = 0 := by simpa using h1
    have ht : takeE L S c h = if (outsGo (claimID c) h false S 0 [claimPay c]).2 = 0 then ((L.set c.side.toNat (takeX (L.getD c.side.toNat default) c), (outsGo (claimID c) h false S 0 [claimPay c]).1), 0) else ((L, (outsGo (claimID c) h false S 0 [claimPay c]).1), (outsGo (claimID c) h false S 0 [claimPay c]).2) := by rw [takeE, if_pos h1']
    rw [ht]
    (refine wGo ?_; ((conv => arg 5; whnf); repeat (refine xS ?_; conv => arg 5; whnf)))
    refine wD <| cutG <| Tri.ent (S' := tkSt1 L S c h) ?_ ?_
    · unfold tkSt1
      ((try dsimp only); refine Ent.renC [0, 1, 2, 3, 4, 5, 6, 7, 8, 9, 17, 37] hC ?_ ?_ <;> repeat' (first | exact trivial | exact rfl | exact ⟨_, rfl, rfl, rfl, Nat.le_refl _, fun _ _ => rfl⟩ | exact ⟨_, rfl, rfl, rfl, fun _ _ => rfl⟩ | exact ⟨_, rfl, rfl, rfl⟩ | exact ⟨_, rfl, rfl⟩ | refine ⟨_, rfl, rfl, rfl, by omega, fun k hk => ?_⟩ | refine ⟨?_, ?_⟩ | fail))
    unfold tkSt1
    have hout := outs_can S (claimID c) [claimPay c] h false (show 1 ≤ 1000 by decide) hS
    obtain ⟨⟨S', e⟩, ho⟩ : ∃ p, outsGo (claimID c) h false S 0 [claimPay c] = p := ⟨_, rfl⟩
    rw [ho] at hout ⊢
    dsimp only at hout ⊢
    (refine Tri.cut 2 Tryz.mixed Tryz.T_ok ?_; ((conv => arg 5; whnf); repeat (refine xS ?_; conv => arg 5; whnf)))
    have hamt : (claimPay c).amt.toInt = c.st.amt := amt64 hb
    (apply wP; exact (call_op rfl (entersB_of Tryz.func52 (by kernel_rfl)) rfl (hout.at [19] rfl rfl rfl ⟨lend_plain rfl, lend_vecN (lo := 0) rfl rfl rfl (Nat.le_refl _) (fun i hi => by obtain rfl := Nat.lt_one_iff.1 hi; show (claimPay c).cells = _; rw [OutM.cells, show i64 (claimPay c).amt = .int .i64 c.st.amt from congrArg _ hamt]; rfl), lend_plain rfl, lend_plain rfl, trivial⟩ trivial)); ((conv => arg 5; whnf); repeat (refine xS ?_; conv => arg 5; whnf)))
    refine wC (fun h2 => ?_) (fun h2 => ?_)
    · have h2' : e ≠ 0 := by simpa using h2
      rw [if_neg h2']
      (refine wGo ?_; ((conv => arg 5; whnf); repeat (refine xS ?_; conv => arg 5; whnf)))
      exact wD <| cutR <| Ends.shutN2 (.inr rfl) (Ent.refl _) rfl rfl rfl rfl
    have h2' : e = 0 := by simpa using h2
    rw [if_pos h2']
    have hi : c.side.toNat < L.length := by
      rcases Nat.lt_or_ge c.side.toNat L.length with h | h
      · exact h
      · rw [checkE, if_neg (by rw [hb]; simp), if_pos (by omega)] at h1'; cases h1'
    have hx0 : checkX (L.getD c.side.toNat default) c = 0 := by
      rw [checkE, if_neg (by rw [hb]; simp), if_neg (by omega)] at h1'; exact h1'
    obtain ⟨q1, q2, q3, q4⟩ := checkX_zero hx0
    obtain ⟨hr, hlu⟩ := hu _ hi
    have hz := hL _ hi
    have hin := side_in L c.side.toNat hi hz
    have hset := regSet_can L c.side.toNat hi (takeX (L.getD c.side.toNat default) c)
    rw [Int.toNat_of_nonneg s1] at hin hset
    generalize L.getD c.side.toNat default = x at hin hz hr hlu q2 hset ⊢
    replace hset := hset ⟨hz.keys, hz.outs, hz.sigs, by show (insU x.used c.acct).length ≤ _; rw [insU_len]; omega⟩
    (refine wGo ?_; ((conv => arg 5; whnf); repeat (refine xS ?_; conv => arg 5; whnf)))
    refine wD <| cutG <| ?_
    (refine Tri.cut 1 Tryz.mixed Tryz.T_ok ?_; ((conv => arg 5; whnf); repeat (refine xS ?_; conv => arg 5; whnf)))
    (apply wP; exact (call_op rfl (entersB_of Tryz.func22 (by kernel_rfl)) rfl (hin.at1 [] rfl rfl rfl ⟨lend_plain rfl, trivial⟩ trivial)); ((conv => arg 5; whnf); repeat (refine xS ?_; conv => arg 5; whnf)))
    refine wD <| cutG <| Tri.ent (Ent.unpack (c := 32) (l := sideRows x) rfl) <| Tri.ent (S' := tkSt2 L S' c x) ?_ ?_
    · unfold tkSt2
      ((try dsimp only); refine Ent.renC [0, 1, 2, 3, 4, 5, 6, 7, 8, 9, 11, 36, 39, 40, 41, 42] hC ?_ ?_ <;> repeat' (first | exact trivial | exact rfl | exact ⟨_, rfl, rfl, rfl, Nat.le_refl _, fun _ _ => rfl⟩ | exact ⟨_, rfl, rfl, rfl, fun _ _ => rfl⟩ | exact ⟨_, rfl, rfl, rfl⟩ | exact ⟨_, rfl, rfl⟩ | refine ⟨_, rfl, rfl, rfl, by omega, fun k hk => ?_⟩ | refine ⟨?_, ?_⟩ | fail))
    unfold tkSt2
    refine Tri.of Tryz.mixed Tryz.T_ok ?_
    (refine wBegin ?_; ((conv => arg 5; whnf); repeat (refine xS ?_; conv => arg 5; whnf)))
    (apply wP; exact (call_op rfl (entersB_of Tryz.func53 (by kernel_rfl)) rfl ((bsearch_can c.acct x.used (by omega) hr q2).at [15] ⟨lend_vecN (lo := 0) rfl rfl rfl (Nat.le_of_eq (Nat.zero_add _)) (fun i _ => by rw [Nat.zero_add]), lend_plain rfl, trivial⟩ trivial)); ((conv => arg 5; whnf); repeat (refine xS ?_; conv => arg 5; whnf)))
    (apply wP; exact (call_op rfl (entersB_of Tryz.func54 (by kernel_rfl)) rfl (insert_spec Tryz.insInt x.used (posU x.used c.acct) c.acct (posU_le _ _) (by omega) (he := rfl) rfl rfl rfl rfl rfl)); ((conv => arg 5; whnf); repeat (refine xS ?_; conv => arg 5; whnf)))
    rw [← insU_eq, ← insU_len x.used c.acct]
    have e1 : ∀ p : List Int, intF p = intsF p := fun _ => rfl
    simp only [e1]
    (apply wP; exact (call_op rfl (entersB_of Tryz.func49 (by kernel_rfl)) rfl (hset.at [12, 13, 14, 48] rfl rfl rfl ⟨lend_plain rfl, lend_side (x := takeX x c) (lend_vecN (lo := 0) rfl rfl rfl (Nat.le_of_eq (Nat.zero_add _)) (fun i _ => by rw [Nat.zero_add]; rfl)) (lend_vecN (lo := 0) rfl rfl rfl (Nat.le_of_eq (Nat.zero_add _)) (fun i _ => by rw [Nat.zero_add]; rfl)) (lend_vecN (lo := 0) rfl rfl rfl (Nat.le_of_eq (Nat.zero_add _)) (fun i _ => by rw [Nat.zero_add]; rfl)) (lend_vecN (lo := 0) rfl rfl rfl (Nat.le_of_eq (Nat.zero_add _)) (fun i _ => by rw [Nat.zero_add]; rfl)), trivial⟩ trivial)); ((conv => arg 5; whnf); repeat (refine xS ?_; conv => arg 5; whnf)))
    exact wD (Ends.shutN2 (.inr rfl) (Ent.refl _) rfl rfl rfl rfl)
end Go.Proofs.YtnpkdoggfnlapaaGreatDoor
namespace Go.Proofs.YtnpkdoggfnlapaaGreatDoor
set_option maxRecDepth 100000
open Go.Sx
def amtN (a : AcsM) : Nat → Int
  | 0 => 0
  | n + 1 => amtN a n + (accA a n).amt
theorem amtN_mono {a : AcsM} {i j : Nat} (h : i ≤ j) : amtN a i + (j - i : Nat) ≤ amtN a j := by
  induction j with
  | zero => obtain rfl : i = 0 := by omega
            simp
  | succ j ih =>
    have := (accA_amt a j).1
    by_cases e : i = j + 1
    · subst e; simp
    · have := ih (by omega)
      rw [amtN]; omega
theorem amtN_le (a : AcsM) (n : Nat) : 0 ≤ amtN a n ∧ amtN a n ≤ 65536 * n := by
  induction n with
  | zero => simp [amtN]
  | succ n ih =>
    have := accA_amt a n
    rw [amtN]; omega
def TakenP (n t i k : Nat) : Prop := (t ≤ k ∧ k < t + i) ∨ k + n < t + i
def doneA (a : AcsM) (n t i : Nat) : Int := if t + i ≤ n then amtN a (t + i) - amtN a t else amtN a n - amtN a t + amtN a (t + i - n)
structure AllI (a : AcsM) (rest : Int) (t i : Nat) (x : SideM) (S : USet) : Prop where
  keep : KeepI (amtN a a.pl.length + rest) x S
  ceased : x.ceased = true
  root : x.root = rootA a
  bal : x.bal = amtN a a.pl.length + rest - doneA a a.pl.length t i
  used : ∀ k, k < a.pl.length → ((plA a k : Int) ∈ x.used ↔ TakenP a.pl.length t i k)
  many : x.used.length = i
  coins : ∀ k, k < a.pl.length → S.has (ptAt (claimID (claimN a k)) 0) = true → TakenP a.pl.length t i k
def nextK (n t i : Nat) : Nat := (t + i) % n
theorem nextK_lt {n t i : Nat} (hn : 0 < n) : nextK n t i < n := Nat.mod_lt _ hn
theorem nextK_eq {n t i : Nat} (ht : t < n) (hi : i < n) : nextK n t i = if t + i < n then t + i else t + i - n := by
  unfold nextK
  split
  · rw [Nat.mod_eq_of_lt (by assumption)]
  · rw [Nat.mod_eq_sub_mod (by omega), Nat.mod_eq_of_lt (by omega)]
theorem taken_next {n t i k : Nat} (ht : t < n) (hi : i < n) (hk : k < n) : TakenP n t (i + 1) k ↔ (TakenP n t i k ∨ k = nextK n t i) := by
  rw [nextK_eq ht hi]
  unfold TakenP
  split <;> omega
theorem not_taken {n t i : Nat} (ht : t < n) (hi : i < n) : ¬ TakenP n t i (nextK n t i) := by
  rw [nextK_eq ht hi]
  unfold TakenP
  split <;> omega
theorem done_next {a : AcsM} {n t i : Nat} (ht : t < n) (hi : i < n) : doneA a n t (i + 1) = doneA a n t i + (accA a (nextK n t i)).amt := by
  rw [nextK_eq ht hi]
  unfold doneA
  by_cases h : t + i < n
  · rw [if_pos h, if_pos (by omega), if_pos (by omega), ← Nat.add_assoc, amtN]; omega
  · rw [if_neg h]
    by_cases h2 : t + i = n
    · rw [if_neg (by omega), if_pos (by omega), show t + (i + 1) - n = 0 + 1 by omega, h2, Nat.sub_self, amtN, amtN]; omega
    · rw [if_neg (by omega), if_neg (by omega), show t + (i + 1) - n = t + i - n + 1 by omega, amtN]; omega
theorem done_le {a : AcsM} {n t i : Nat} (ht : t < n) (hi : i ≤ n) : doneA a n t i ≤ amtN a n := by
  unfold doneA
  split
  · have := amtN_mono (a := a) (i := t + i) (j := n) (by omega)
    have := (amtN_le a t).1
    omega
  · have := amtN_mono (a := a) (i := t + i - n) (j := t) (by omega)
    omega
theorem done_all {a : AcsM} {n t : Nat} (ht : t < n) : doneA a n t n = amtN a n := by
  unfold doneA
  split
  · obtain rfl : t = 0 := by omega
    simp [amtN]
  · rw [show t + n - n = t by omega]; omega
theorem AllI.step {a : AcsM} {rest : Int} {t i : Nat} {x : SideM} {S : USet} (h : AllI a rest t i x S) (hf : Fair a) (hr : 0 ≤ rest ∧ rest ≤ 100000) (ht : t < a.pl.length) (hi : i < a.pl.length) (ids : ∀ j k, j < a.pl.length → k < a.pl.length → claimID (claimN a j) = claimID (claimN a k) → j = k) (H : Int64) :
    ∃ x' S', takeE [x] S (claimN a (nextK a.pl.length t i)) H = (([x'], S'), 0) ∧ takeE [x'] S' (claimN a (nextK a.pl.length t i)) H = (([x'], S'), 13) ∧ AllI a rest t (i + 1) x' S' ∧
      S'.has (ptAt (claimID (claimN a (nextK a.pl.length t i))) 0) = true ∧ S'.get (ptAt (claimID (claimN a (nextK a.pl.length t i))) 0) = ⟨(accA a (nextK a.pl.length t i)).owner, Int64.ofInt (accA a (nextK a.pl.length t i)).amt, H, false⟩ ∧
      S'.steps.length = S.steps.length + 1 ∧ x'.par = x.par ∧ x'.cert = x.cert := by
  obtain ⟨k, hk⟩ : ∃ k, nextK a.pl.length t i = k := ⟨_, rfl⟩
  have hkl : k < a.pl.length := by rw [← hk]; exact nextK_lt (by omega)
  have hnt : ¬ TakenP a.pl.length t i k := by rw [← hk]; exact not_taken ht hi
  have hd := done_next (a := a) ht hi
  have hdl := done_le (a := a) (n := a.pl.length) (t := t) (i := i + 1) ht hi
  rw [hk] at hd ⊢
  have h1 := claimN_ok (a := a) hkl
  have h2 := claimN_side (a := a) hkl
  have e1 := claimN_acct (a := a) hkl
  have e2 := claimN_st (a := a) hkl
  have ham := accA_amt a k
  have hsl := amtN_le a a.pl.length
  have hfew := hf.few
  have hbal := h.bal
  have hk0 := h.keep.sum
  have hb0 := h.keep.bal
  have hc0 := h.keep.clm
  have htot := h.keep.tot
  have h3 : checkX x (claimN a k) = 0 := checkX_good h.ceased (by rw [e1, h.used k hkl]; exact hnt) (by rw [h.root]; exact claimN_proof hf hkl) (by rw [e2]; omega)
  have h4 : S.has (ptAt (claimID (claimN a k)) 0) = false := by
    cases hh : S.has (ptAt (claimID (claimN a k)) 0) with
    | false => rfl
    | true => exact absurd (h.coins k hkl hh) hnt
  have h64 : (Int64.ofInt (claimN a k).st.amt).toInt = (claimN a k).st.amt := amt64 h1
  have h5 : S.okB (ptAt (claimID (claimN a k)) 0) ⟨(claimN a k).st.owner, Int64.ofInt (claimN a k).st.amt, H, false⟩ = true := okB_of h4 rfl (by show 1 ≤ (Int64.ofInt (claimN a k).st.amt).toInt; rw [h64, e2]; exact ham.1) (by omega) (by show S.total + (Int64.ofInt (claimN a k).st.amt).toInt ≤ _; rw [h64, e2]; omega)
  have hp := h.keep.paid (by omega) h1 h3 (k := ⟨(claimN a k).st.owner, Int64.ofInt (claimN a k).st.amt, H, false⟩) h4 h64
  refine ⟨_, _, take_paid h1 h2 h3 h4 h5, ?_, ⟨hp.1, h.ceased, h.root, ?_, fun j hj => ?_, ?_, fun j hj hh => ?_⟩, ?_, ?_, ?_, rfl, rfl⟩
  · refine take_bad ?_ (by decide)
    rw [checkE_one h1 h2, checkX, if_neg (by show ¬ x.ceased = false; rw [h.ceased]; simp), if_pos (show (claimN a k).acct ∈ (takeX x (claimN a k)).used from mem_insU.2 (.inl rfl))]
  · rw [hp.2.1, e2, hbal, hd]; omega
  · show (plA a j : Int) ∈ insU x.used (claimN a k).acct ↔ _
    rw [mem_insU, taken_next ht hi hj, hk, h.used j hj, e1]
    constructor
    · rintro (h6 | h6)
      · exact .inr (hf.apart k j hkl hj (by omega))
      · exact .inl h6
    · rintro (h6 | h6)
      · exact .inr h6
      · exact .inl (by rw [h6])
  · show (insU x.used (claimN a k).acct).length = _
    rw [insU_len, h.many]
  · rw [taken_next ht hi hj, hk]
    by_cases e : claimID (claimN a j) = claimID (claimN a k)
    · exact .inr (ids j k hj hkl e)
    · refine .inl (h.coins j hj ?_)
      have hne : ptAt (claimID (claimN a j)) 0 ≠ ptAt (claimID (claimN a k)) 0 := fun e' => e (congrArg Pt.tx e')
      have : (mget (mput S.coins (ptAt (claimID (claimN a k)) 0) _) (ptAt (claimID (claimN a j)) 0)).isSome = true := hh
      rwa [mget_put_ne hne] at this
  · show (mget (mput S.coins _ _) _).isSome = true
    rw [mget_put_self]; rfl
  · show (mget (mput S.coins _ _) _).getD coin0 = _
    rw [mget_put_self, e2]; rfl
  · show (S.steps ++ [_]).length = _
    rw [List.length_append]; rfl
theorem AllI.done {a : AcsM} {rest : Int} {t : Nat} {x : SideM} {S : USet} (h : AllI a rest t a.pl.length x S) (ht : t < a.pl.length) : x.clm = amtN a a.pl.length ∧ x.bal = rest ∧ x.used.length = a.pl.length ∧ S.total = amtN a a.pl.length := by
  have h1 := h.bal
  have h2 := h.keep.sum
  have h3 := h.keep.tot
  rw [done_all ht] at h1
  exact ⟨by omega, by omega, h.many, by omega⟩
structure MoneyI (a : AcsM) (n : Int) (used : Nat → Bool) (x : SideM) (S : USet) : Prop where
  keep : KeepI n x S
  ceased : x.ceased = true
  root : x.root = rootA a
  used : ∀ k, k < a.pl.length → ((plA a k : Int) ∈ x.used ↔ used k = true)
theorem MoneyI.step {a : AcsM} {n : Int} {used : Nat → Bool} {x : SideM} {S : USet} (h : MoneyI a n used x S) (hf : Fair a) (hn : n ≤ 1000) {k : Nat} (hk : k < a.pl.length) (H : Int64) :
    ∃ x' S' e, takeE [x] S (claimN a k) H = (([x'], S'), e) ∧ (used k = true → e = 13) ∧ (used k = false → x.bal < (accA a k).amt → e = 5) ∧ (e ≠ 0 → x' = x ∧ S' = S) ∧
      (e = 0 → x'.bal = x.bal - (accA a k).amt) ∧ MoneyI a n (fun j => if e = 0 ∧ j = k then true else used j) x' S' ∧ S'.steps.length ≤ S.steps.length + 1 ∧ x'.used.length ≤ x.used.length + 1 ∧ x'.par = x.par ∧ x'.cert = x.cert := by
  have h1 := claimN_ok (a := a) hk
  have h2 := claimN_side (a := a) hk
  have e1 := claimN_acct (a := a) hk
  have e2 := claimN_st (a := a) hk
  have same : ∀ e : Int, e ≠ 0 → MoneyI a n (fun j => if e = 0 ∧ j = k then true else used j) x S := fun e he => by
    have : (fun j => if e = 0 ∧ j = k then true else used j) = used := funext fun j => if_neg fun h => he h.1
    rw [this]; exact h
  cases hu : used k with
  | true =>
    have hb : checkE [x] (claimN a k) = 13 := by
      rw [checkE_one h1 h2, checkX, if_neg (by rw [h.ceased]; simp), if_pos (by rw [e1]; exact (h.used k hk).2 hu)]
    exact ⟨x, S, 13, take_bad hb (by decide), fun _ => rfl, fun h => (by cases h), fun _ => ⟨rfl, rfl⟩, fun h => (by cases h), same 13 (by decide), Nat.le_succ _, Nat.le_succ _, rfl, rfl⟩
  | false =>
    have hnu : (claimN a k).acct ∉ x.used := by rw [e1, h.used k hk, hu]; simp
    have hpr : proofOK x.root (claimN a k) = true := by rw [h.root]; exact claimN_proof hf hk
    by_cases hm : x.bal < (accA a k).amt
    · have hb : checkE [x] (claimN a k) = 5 := by
        rw [checkE_one h1 h2, checkX, if_neg (by rw [h.ceased]; simp), if_neg hnu, if_neg (by rw [hpr]; simp), if_pos (by rw [e2]; exact hm)]
      exact ⟨x, S, 5, take_bad hb (by decide), fun h => (by cases h), fun _ _ => rfl, fun _ => ⟨rfl, rfl⟩, fun h => (by cases h), same 5 (by decide), Nat.le_succ _, Nat.le_succ _, rfl, rfl⟩
    · rcases takeE_cases x S (claimN a k) H with ⟨e, he, h3⟩ | ⟨h3, _, h4, h5, _⟩
      · exact ⟨x, S, e, h3, fun h => (by cases h), fun _ h => absurd h hm, fun _ => ⟨rfl, rfl⟩, fun h => absurd h he, same e he, Nat.le_succ _, Nat.le_succ _, rfl, rfl⟩
      · have hp := h.keep.paid (k := ⟨(claimN a k).st.owner, Int64.ofInt (claimN a k).st.amt, H, false⟩) (by omega) h1 h4 h5 (amt64 h1)
        refine ⟨_, _, 0, h3, fun h => (by cases h), fun _ h => absurd h hm, fun h => absurd rfl h, fun _ => by rw [hp.2.1, e2], ⟨hp.1, h.ceased, h.root, fun j hj => ?_⟩, ?_, ?_, rfl, rfl⟩
        · show (plA a j : Int) ∈ insU x.used (claimN a k).acct ↔ _
          rw [mem_insU, h.used j hj, e1]
          by_cases e : j = k
          · subst e; simp
          · rw [if_neg (by intro h; exact e h.2)]
            constructor
            · rintro (h6 | h6)
              · exact absurd (hf.apart k j hk hj (by omega)) e
              · exact h6
            · exact fun h6 => .inr h6
        · show (S.steps ++ [_]).length ≤ _
          rw [List.length_append]; exact Nat.le_refl _
        · show (insU x.used (claimN a k).acct).length ≤ _
          rw [insU_len]; exact Nat.le_refl _
end Go.Proofs.YtnpkdoggfnlapaaGreatDoor

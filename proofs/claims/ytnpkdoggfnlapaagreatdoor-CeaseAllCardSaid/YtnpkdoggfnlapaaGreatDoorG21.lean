/- Parts Ys Yu Yv Zg Zh Zi Vt. -/
import Derived.Test.YtnpkdoggfnlapaaGreatDoorG20
import Derived.Test.YtnpkdoggfnlapaaGreatDoorG17
import Derived.Test.YtnpkdoggfnlapaaGreatDoorG18
import Derived.Test.YtnpkdoggfnlapaaGreatDoorG19
import Derived.Test.YtnpkdoggfnlapaaGreatDoorG16
import Derived.Shelf.Lays2
import Derived.Ground.Names2Prog
import Derived.Test.YtnpkdoggfnlapaaGreatDoorProg
set_option linter.unusedSimpArgs false
set_option linter.unusedVariables false
namespace Go.Proofs.YtnpkdoggfnlapaaGreatDoor
set_option maxRecDepth 100000
open Go.Sx
theorem u8_is {b c : UInt8} {n : Int} (h : n = (c.toNat : Int)) : (((b.toNat : Nat) : Int) == n) = decide (b = c) := by
  rw [Bool.eq_iff_iff, beq_iff_eq, decide_eq_true_eq, h, ← UInt8.toNat_inj]
  omega
def claimTx (c : ClaimM) : TxM := ⟨5, 0, [], [], [], par0, cert0, c⟩
def claimTxC (c : ClaimM) : List SV := txCells (claimTx c) nilV nilV nilV nilV nilV nilV
theorem raws_all (vs : List Value) (p : Nat → Bool) : (vs.map SV.raw).all (SV.ok p) = true := by
  rw [List.all_map, List.all_eq_true]; intro x _; rfl
theorem claimTxC_ok (c : ClaimM) : (claimTxC c).all (SV.ok fun _ => false) = true := by
  unfold claimTxC txCells parCells certCells
  simp only [List.all_cons, List.all_append, List.all_nil, raws_all, SV.ok, Bool.and_true]
theorem claimTxX_ok (c : ClaimM) : XV.ok (fun _ => false) (.cv (.agg (claimTxC c))) = true := claimTxC_ok c
def clSt (b : UInt8) (c : ClaimM) : St :=
  ⟨[none, none, some (XV.val (u8 b)), none, none, none, some (XV.sv (.ptr 4 0 0 0)), some (XV.sv (.ptr 5 0 0 0))] ++ List.replicate 71 none, [(4, .cells 48 (txCells ⟨0, 0, [], [], [], par0, cert0, claim0⟩ nilV nilV nilV nilV nilV nilV)), (5, .cells 46 (c.cells.map .raw))], 6⟩
def txC5 (vs : List Value) : List SV := .raw (.int .i64 5) :: .raw (.int .i64 0) :: nilV :: nilV :: nilV :: (parCells par0 nilV ++ (certCells cert0 nilV nilV ++ vs.map .raw))
theorem bend3 (c : ClaimM) : (bendC 3 c).cells = c.cells.set 36 (.int .u8 (bitI .xor .u8 ((c.proof 3).b0.toNat : Int) 1)) := by
  have e : u8 (byteI (bitI .xor .u8 ((c.proof 3).b0.toNat : Int) 1)) = .int .u8 (bitI .xor .u8 ((c.proof 3).b0.toNat : Int) 1) := u8_byteI _
  rw [← e]; rfl
theorem bend4 (c : ClaimM) : (bendC 4 c).cells = c.cells.set 4 (.int .u8 (bitI .xor .u8 (c.st.owner.b2.toNat : Int) 1)) := by
  have e : u8 (byteI (bitI .xor .u8 (c.st.owner.b2.toNat : Int) 1)) = .int .u8 (bitI .xor .u8 (c.st.owner.b2.toNat : Int) 1) := u8_byteI _
  rw [← e]; rfl
set_option maxHeartbeats 8000000 in
theorem claim16_can (a : AcsM) (hf : Fair a) (i : Nat) (hi : i < 1000) (b : UInt8) : Reads Tryz.prog 17 [.box a.ac, .plain (.one (.raw (.int .i64 i))), .plain (.one (.raw (u8 b)))] [] (.cv (.agg (claimTxC (bendC b (claimN a i))))) := by
  have f1 := hf.few
  have f2 := hf.le
  refine Reads.of Tryz.T_ok Tryz.func17 rfl _ _ _ rfl (claimTxX_ok (bendC b (claimN a i))) (fun C hC => ?_)
  (replace hC : C.n0 = 4 := hC; change Tri _ _ _ ⟨_, _, 4⟩ _)
  (refine Tri.cut 2 Tryz.mixed Tryz.T_ok ?_; ((conv => arg 5; whnf); repeat (refine xS ?_; conv => arg 5; whnf)))
  refine wD <| cutG <| Tri.merge (clSt b (claimN a i)) (Tri.of Tryz.mixed Tryz.T_ok ?_) ?_
  · (refine wBegin ?_; ((conv => arg 5; whnf); repeat (refine xS ?_; conv => arg 5; whnf)))
    refine wC (fun h1 => ?_) (fun h1 => ?_)
    · have h1' : i < a.pl.length := (by (try simp only [ww] at *); omega)
      have hpl := (a.pl.getD i 0).toNat_lt
      have e2 : IntKind.i64.wrap (((a.pl.getD i 0).toNat : Nat) : Int) = ((plA a i : Nat) : Int) := by
        show IntKind.i64.wrap (((a.pl.getD i 0).toNat : Nat) : Int) = (((a.pl.getD i 0).toNat : Nat) : Int)
        exact (by (try simp only [ww] at *); omega)
      have htl := treeN_len a a.pl.length
      (refine wGo ?_; ((conv => arg 5; whnf); repeat (refine xS ?_; conv => arg 5; whnf)))
      (repeat (refine wN ?_ ?_; exact (by (try simp only [ww] at *); omega); refine wGo ?_; ((conv => arg 5; whnf); repeat (refine xS ?_; conv => arg 5; whnf))))
      simp only [Nat.zero_add, Int.toNat_natCast, e2]
      (apply wP; exact (call_op rfl (entersB_of Tryz.func15 (by kernel_rfl)) rfl ((state_can a i (by omega) (by omega)).at [0, 1] ⟨lend_acs (lend_ro0 rfl rfl) (lend_ro0 rfl rfl), lend_plain rfl, trivial⟩ trivial)); ((conv => arg 5; whnf); repeat (refine xS ?_; conv => arg 5; whnf)))
      (apply wP; exact (call_op rfl (entersB_of Tryz.func46 (by kernel_rfl)) rfl ((tree16_can a hf).at [0, 1] ⟨lend_acs (lend_ro0 rfl rfl) (lend_ro0 rfl rfl), trivial⟩ trivial)); ((conv => arg 5; whnf); repeat (refine xS ?_; conv => arg 5; whnf)))
      (apply wP; exact (call_op rfl (entersB_of Tryz.func47 (by kernel_rfl)) rfl ((prv_can (treeN a a.pl.length) (by omega) (treeN_placed a _) (plA a i) (plA_lt a i)).at [] rfl rfl rfl ⟨lend_plain rfl, trivial⟩ trivial)); ((conv => arg 5; whnf); repeat (refine xS ?_; conv => arg 5; whnf)))
      refine wD ⟨rfl, ?_⟩
      rw [claimN, if_pos h1']
      unfold clSt
      ((try dsimp only); refine Ent.renC [0, 1, 2, 3, 5, 7] hC ?_ ?_ <;> repeat' (first | exact trivial | exact rfl | exact ⟨_, rfl, rfl, rfl, Nat.le_refl _, fun _ _ => rfl⟩ | exact ⟨_, rfl, rfl, rfl, fun _ _ => rfl⟩ | exact ⟨_, rfl, rfl, rfl⟩ | exact ⟨_, rfl, rfl⟩ | refine ⟨_, rfl, rfl, rfl, by omega, fun k hk => ?_⟩ | refine ⟨?_, ?_⟩ | fail))
    · have h1' : ¬ i < a.pl.length := (by (try simp only [ww] at *); omega)
      (refine wGo ?_; ((conv => arg 5; whnf); repeat (refine xS ?_; conv => arg 5; whnf)))
      refine wD ⟨rfl, ?_⟩
      rw [claimN, if_neg h1']
      unfold clSt
      ((try dsimp only); refine Ent.renC [0, 1, 2, 3, 5, 7] hC ?_ ?_ <;> repeat' (first | exact trivial | exact rfl | exact ⟨_, rfl, rfl, rfl, Nat.le_refl _, fun _ _ => rfl⟩ | exact ⟨_, rfl, rfl, rfl, fun _ _ => rfl⟩ | exact ⟨_, rfl, rfl, rfl⟩ | exact ⟨_, rfl, rfl⟩ | refine ⟨_, rfl, rfl, rfl, by omega, fun k hk => ?_⟩ | refine ⟨?_, ?_⟩ | fail))
  · generalize claimN a i = c
    unfold clSt
    refine Tri.of Tryz.mixed Tryz.T_ok ?_
    (refine wBegin ?_; ((conv => arg 5; whnf); repeat (refine xS ?_; conv => arg 5; whnf)))
    simp only [u8_is (show (1 : Int) = (((1 : UInt8).toNat : Nat) : Int) from rfl)]
    refine wC (fun h1 => ?_) (fun h1 => ?_)
    · obtain rfl := of_decide_eq_true h1
      (refine wGo ?_; ((conv => arg 5; whnf); repeat (refine xS ?_; conv => arg 5; whnf)))
      exact wD (Ends.plain (.inr rfl) rfl rfl)
    (refine wGo ?_; ((conv => arg 5; whnf); repeat (refine xS ?_; conv => arg 5; whnf)))
    simp only [u8_is (show (2 : Int) = (((2 : UInt8).toNat : Nat) : Int) from rfl)]
    refine wC (fun h2 => ?_) (fun h2 => ?_)
    · obtain rfl := of_decide_eq_true h2
      (refine wGo ?_; ((conv => arg 5; whnf); repeat (refine xS ?_; conv => arg 5; whnf)))
      exact wD (Ends.plain (.inr rfl) rfl rfl)
    (refine wGo ?_; ((conv => arg 5; whnf); repeat (refine xS ?_; conv => arg 5; whnf)))
    simp only [u8_is (show (3 : Int) = (((3 : UInt8).toNat : Nat) : Int) from rfl)]
    refine wC (fun h3 => ?_) (fun h3 => ?_)
    · obtain rfl := of_decide_eq_true h3
      (refine wGo ?_; ((conv => arg 5; whnf); repeat (refine xS ?_; conv => arg 5; whnf)))
      (repeat (refine wN ?_ ?_; exact (by (try simp only [ww] at *); omega); refine wGo ?_; ((conv => arg 5; whnf); repeat (refine xS ?_; conv => arg 5; whnf))))
      exact wD (Ends.plain (.inr rfl) rfl (congrArg (fun vs => XV.cv (.agg (txC5 vs))) (bend3 c).symm))
    (refine wGo ?_; ((conv => arg 5; whnf); repeat (refine xS ?_; conv => arg 5; whnf)))
    simp only [u8_is (show (4 : Int) = (((4 : UInt8).toNat : Nat) : Int) from rfl)]
    refine wC (fun h4 => ?_) (fun h4 => ?_)
    · obtain rfl := of_decide_eq_true h4
      (refine wGo ?_; ((conv => arg 5; whnf); repeat (refine xS ?_; conv => arg 5; whnf)))
      (repeat (refine wN ?_ ?_; exact (by (try simp only [ww] at *); omega); refine wGo ?_; ((conv => arg 5; whnf); repeat (refine xS ?_; conv => arg 5; whnf))))
      exact wD (Ends.plain (.inr rfl) rfl (congrArg (fun vs => XV.cv (.agg (txC5 vs))) (bend4 c).symm))
    (refine wGo ?_; ((conv => arg 5; whnf); repeat (refine xS ?_; conv => arg 5; whnf)))
    simp only [u8_is (show (5 : Int) = (((5 : UInt8).toNat : Nat) : Int) from rfl)]
    refine wC (fun h5 => ?_) (fun h5 => ?_)
    · obtain rfl := of_decide_eq_true h5
      (refine wGo ?_; ((conv => arg 5; whnf); repeat (refine xS ?_; conv => arg 5; whnf)))
      exact wD (Ends.plain (.inr rfl) rfl rfl)
    · have hb : bendC b c = c := by
        rw [bendC, if_neg (of_decide_eq_false h1), if_neg (of_decide_eq_false h2), if_neg (of_decide_eq_false h3), if_neg (of_decide_eq_false h4), if_neg (of_decide_eq_false h5)]
      rw [hb]
      (refine wGo ?_; ((conv => arg 5; whnf); repeat (refine xS ?_; conv => arg 5; whnf)))
      exact wD (Ends.plain (.inr rfl) rfl rfl)
def fairN (a : AcsM) : Bool := decide (a.pl.length ≤ 12) && (decide (a.pl.length ≤ a.am.length) && decide (a.am.length ≤ 50))
theorem fairB_eq (a : AcsM) : fairB a = (fairN a && (List.range a.pl.length).all (apartB a)) := by
  rw [fairB, fairN, Bool.and_assoc, Bool.and_assoc]
theorem u16_eq (a : AcsM) (i k : Nat) : (((a.pl.getD k 0).toNat : Int) == ((a.pl.getD i 0).toNat : Int)) = decide (plA a k = plA a i) := by
  rw [Bool.eq_iff_iff, beq_iff_eq, decide_eq_true_eq]
  show ((plA a k : Nat) : Int) = ((plA a i : Nat) : Int) ↔ _
  omega
def fairM (a : AcsM) : Mem := acsM a ++ [(2, .cells 24 [.slc 0 1 0 a.pl.length, .slc 1 1 0 a.am.length])]
set_option maxHeartbeats 4000000 in
theorem fair_can (a : AcsM) (hl1 : a.pl.length ≤ maxLen) (hl2 : a.am.length ≤ maxLen) : Reads Tryz.prog 14 [.box a.ac] [] (XV.bool (fairB a)) := by
  refine Reads.of Tryz.T_ok Tryz.func14 rfl _ _ _ rfl rfl (fun C hC => ?_)
  (replace hC : C.n0 = 2 := hC; change Tri _ _ _ ⟨_, _, 2⟩ _)
  rw [fairB_eq]
  have no : fairN a = false → XV.bool false = XV.bool (fairN a && (List.range a.pl.length).all (apartB a)) := fun h => by rw [h, Bool.false_and]
  simp only [maxLen] at hl1 hl2
  (refine Tri.cut 2 Tryz.mixed Tryz.T_ok ?_; ((conv => arg 5; whnf); repeat (refine xS ?_; conv => arg 5; whnf)))
  refine wC (fun h1 => ?_) (fun h1 => ?_)
  · (refine wGo ?_; ((conv => arg 5; whnf); repeat (refine xS ?_; conv => arg 5; whnf)))
    exact wD <| cutR <| Ends.plain (.inr rfl) rfl (no (by rw [fairN, decide_eq_false (show ¬ a.pl.length ≤ 12 by simp only [decide_eq_true_eq] at h1; omega), Bool.false_and]))
  (refine wGo ?_; ((conv => arg 5; whnf); repeat (refine xS ?_; conv => arg 5; whnf)))
  refine wC (fun h2 => ?_) (fun h2 => ?_)
  · (refine wGo ?_; ((conv => arg 5; whnf); repeat (refine xS ?_; conv => arg 5; whnf)))
    exact wD <| cutR <| Ends.plain (.inr rfl) rfl (no (by rw [fairN, decide_eq_false (show ¬ a.pl.length ≤ a.am.length by simp only [decide_eq_true_eq] at h2; omega), Bool.false_and, Bool.and_false]))
  (refine wGo ?_; ((conv => arg 5; whnf); repeat (refine xS ?_; conv => arg 5; whnf)))
  refine wC (fun h3 => ?_) (fun h3 => ?_)
  · (refine wGo ?_; ((conv => arg 5; whnf); repeat (refine xS ?_; conv => arg 5; whnf)))
    exact wD <| cutR <| Ends.plain (.inr rfl) rfl (no (by rw [fairN, decide_eq_false (show ¬ a.am.length ≤ 50 by simp only [decide_eq_true_eq] at h3; omega), Bool.and_false, Bool.and_false]))
  have hN : fairN a = true := by
    simp only [decide_eq_false_iff_not] at h1 h2 h3
    rw [fairN, decide_eq_true (show a.pl.length ≤ 12 by omega), decide_eq_true (show a.pl.length ≤ a.am.length by omega), decide_eq_true (show a.am.length ≤ 50 by omega)]; rfl
  have hpl : a.pl.length ≤ 12 := by simp only [decide_eq_false_iff_not] at h1; omega
  rw [hN, Bool.true_and]
  (refine wGo ?_; ((conv => arg 5; whnf); repeat (refine xS ?_; conv => arg 5; whnf)))
  refine wD <| cutG <| Tri.seq ?_
  (refine Tri.cut 1 Tryz.mixed Tryz.T_ok ?_; ((conv => arg 5; whnf); repeat (refine xS ?_; conv => arg 5; whnf)))
  refine wD <| cutG <| Tri.block ?_
  refine Tri.loop (α := { i : Nat // i ≤ a.pl.length ∧ (List.range i).all (apartB a) = true }) (fun i => ⟨[none, some (XV.sv (.ptr 2 0 0 0)), none, some (XV.int .i64 i.1)] ++ List.replicate 43 none, fairM a, 3⟩) (fun i => a.pl.length - i.1) ⟨0, Nat.zero_le _, rfl⟩ ?_ ?_
  · unfold fairM acsM
    ((try dsimp only); refine Ent.renC [0, 1, 2] hC ?_ ?_ <;> repeat' (first | exact trivial | exact rfl | exact ⟨_, rfl, rfl, rfl, Nat.le_refl _, fun _ _ => rfl⟩ | exact ⟨_, rfl, rfl, rfl, fun _ _ => rfl⟩ | exact ⟨_, rfl, rfl, rfl⟩ | exact ⟨_, rfl, rfl⟩ | refine ⟨_, rfl, rfl, rfl, by omega, fun k hk => ?_⟩ | refine ⟨?_, ?_⟩ | fail))
  rintro ⟨i, hi, ha⟩
  dsimp only
  unfold fairM acsM
  (refine Tri.cut 1 Tryz.mixed Tryz.T_ok ?_; ((conv => arg 5; whnf); repeat (refine xS ?_; conv => arg 5; whnf)))
  refine wC (fun k1 => ?_) (fun k1 => ?_)
  · (refine wGo ?_; ((conv => arg 5; whnf); repeat (refine xS ?_; conv => arg 5; whnf)))
    have h1' : i < a.pl.length := (by (try simp only [ww] at *); omega)
    have hs := range_all_succ (apartB a) i
    have hw : IntKind.i64.wrap ((i : Int) + 1) = ((i + 1 : Nat) : Int) := (by (try simp only [ww] at *); omega)
    have bad : apartB a i = false → XV.bool false = XV.bool ((List.range a.pl.length).all (apartB a)) := fun h => by rw [range_all_false h1' h]
    refine wD <| cutG <| Tri.seq <| Tri.block ?_
    refine Tri.seq (Tri.of Tryz.mixed Tryz.T_ok ?_)
    (refine wBegin ?_; ((conv => arg 5; whnf); repeat (refine xS ?_; conv => arg 5; whnf)))
    refine wD <| cutG <| Tri.block ?_
    refine Tri.loop (α := { k : Nat // k ≤ i ∧ (List.range k).all (fun k => !decide (plA a k = plA a i)) = true }) (fun k => ⟨[none, some (XV.sv (.ptr 2 0 0 0)), none, some (XV.int .i64 i), some (XV.int .i64 k.1)] ++ List.replicate 42 none, fairM a, 3⟩) (fun k => i - k.1) ⟨0, Nat.zero_le _, rfl⟩ ?_ ?_
    · unfold fairM acsM
      ((try dsimp only); refine Ent.renC [0, 1, 2] hC ?_ ?_ <;> repeat' (first | exact trivial | exact rfl | exact ⟨_, rfl, rfl, rfl, Nat.le_refl _, fun _ _ => rfl⟩ | exact ⟨_, rfl, rfl, rfl, fun _ _ => rfl⟩ | exact ⟨_, rfl, rfl, rfl⟩ | exact ⟨_, rfl, rfl⟩ | refine ⟨_, rfl, rfl, rfl, by omega, fun k hk => ?_⟩ | refine ⟨?_, ?_⟩ | fail))
    rintro ⟨k, hk, hka⟩
    dsimp only
    unfold fairM acsM
    (refine Tri.cut 1 Tryz.mixed Tryz.T_ok ?_; ((conv => arg 5; whnf); repeat (refine xS ?_; conv => arg 5; whnf)))
    refine wC (fun k2 => ?_) (fun k2 => ?_)
    · (refine wGo ?_; ((conv => arg 5; whnf); repeat (refine xS ?_; conv => arg 5; whnf)))
      have h2' : k < i := (by (try simp only [ww] at *); omega)
      have hw2 : IntKind.i64.wrap ((k : Int) + 1) = ((k + 1 : Nat) : Int) := (by (try simp only [ww] at *); omega)
      have hsk := range_all_succ (fun k => !decide (plA a k = plA a i)) k
      refine wD <| cutG <| Tri.seq <| Tri.block <| Tri.of Tryz.mixed Tryz.T_ok ?_
      (refine wBegin ?_; ((conv => arg 5; whnf); repeat (refine xS ?_; conv => arg 5; whnf)))
      (repeat (refine wN ?_ ?_; exact (by (try simp only [ww] at *); omega); refine wGo ?_; ((conv => arg 5; whnf); repeat (refine xS ?_; conv => arg 5; whnf))))
      simp only [Nat.zero_add, Int.toNat_natCast, u16_eq]
      refine wC (fun k3 => ?_) (fun k3 => ?_)
      · (refine wGo ?_; ((conv => arg 5; whnf); repeat (refine xS ?_; conv => arg 5; whnf)))
        exact wD <| blockR <| cutR <| loopR <| blockR <| blockR <| cutR <| loopR <| blockR <| cutR <| Ends.plain (.inr rfl) rfl (bad (by rw [apartB, range_all_false h2' (by rw [k3]; rfl)]))
      · (refine wGo ?_; ((conv => arg 5; whnf); repeat (refine xS ?_; conv => arg 5; whnf)))
        refine wD <| blockN <| cutG <| Tri.of Tryz.mixed Tryz.T_ok ?_
        (refine wBegin ?_; ((conv => arg 5; whnf); repeat (refine xS ?_; conv => arg 5; whnf)))
        refine wD <| loopN ⟨⟨k + 1, h2', by rw [hsk, hka, k3]; rfl⟩, by dsimp only; omega, ?_⟩
        rw [hw2]
        ((try dsimp only); refine Ent.renC [0, 1, 2] hC ?_ ?_ <;> repeat' (first | exact trivial | exact rfl | exact ⟨_, rfl, rfl, rfl, Nat.le_refl _, fun _ _ => rfl⟩ | exact ⟨_, rfl, rfl, rfl, fun _ _ => rfl⟩ | exact ⟨_, rfl, rfl, rfl⟩ | exact ⟨_, rfl, rfl⟩ | refine ⟨_, rfl, rfl, rfl, by omega, fun k hk => ?_⟩ | refine ⟨?_, ?_⟩ | fail))
    · (refine wGo ?_; ((conv => arg 5; whnf); repeat (refine xS ?_; conv => arg 5; whnf)))
      have h2' : k = i := (by (try simp only [ww] at *); omega)
      subst h2'
      refine wD <| cutE <| loopX <| blockX <| blockN <| cutG <| Tri.of Tryz.mixed Tryz.T_ok ?_
      (refine wBegin ?_; ((conv => arg 5; whnf); repeat (refine xS ?_; conv => arg 5; whnf)))
      refine wD <| loopN ⟨⟨k + 1, h1', by rw [hs, ha, apartB, hka]; rfl⟩, by dsimp only; omega, ?_⟩
      rw [hw]
      ((try dsimp only); refine Ent.renC [0, 1, 2] hC ?_ ?_ <;> repeat' (first | exact trivial | exact rfl | exact ⟨_, rfl, rfl, rfl, Nat.le_refl _, fun _ _ => rfl⟩ | exact ⟨_, rfl, rfl, rfl, fun _ _ => rfl⟩ | exact ⟨_, rfl, rfl, rfl⟩ | exact ⟨_, rfl, rfl⟩ | refine ⟨_, rfl, rfl, rfl, by omega, fun k hk => ?_⟩ | refine ⟨?_, ?_⟩ | fail))
  · (refine wGo ?_; ((conv => arg 5; whnf); repeat (refine xS ?_; conv => arg 5; whnf)))
    have h1' : i = a.pl.length := (by (try simp only [ww] at *); omega)
    subst h1'
    refine wD <| cutE <| loopX <| blockX <| cutG <| Tri.of Tryz.mixed Tryz.T_ok ?_
    (refine wBegin ?_; ((conv => arg 5; whnf); repeat (refine xS ?_; conv => arg 5; whnf)))
    exact wD (Ends.plain (.inr rfl) rfl (by rw [ha]))
end Go.Proofs.YtnpkdoggfnlapaaGreatDoor
namespace Go.Proofs.YtnpkdoggfnlapaaGreatDoor
set_option maxRecDepth 100000
open Go.Sx
theorem nanI_can (a : Int) : Reads Tryz.prog 156 [.plain (.one (.raw (.int .i64 a)))] [] (XV.bool false) := by
  refine Reads.of Tryz.T_ok Tryz.func156 rfl _ _ _ rfl rfl (fun C hC => ?_)
  (replace hC : C.n0 = 1 := hC; change Tri _ _ _ ⟨_, _, 1⟩ _)
  refine Tri.of Tryz.mixed Tryz.T_ok ?_
  (refine wBegin ?_; ((conv => arg 5; whnf); repeat (refine xS ?_; conv => arg 5; whnf)))
  exact wD (Ends.plain (.inr rfl) rfl (by simp))
theorem nanS_can (a : Int) : Reads Tryz.prog 101 [.plain (.one (.raw (.int .i64 a)))] [] (XV.bool false) := by
  refine Reads.of Tryz.T_ok Tryz.func101 rfl _ _ _ rfl rfl (fun C hC => ?_)
  (replace hC : C.n0 = 1 := hC; change Tri _ _ _ ⟨_, _, 1⟩ _)
  refine Tri.of Tryz.mixed Tryz.T_ok ?_
  (refine wBegin ?_; ((conv => arg 5; whnf); repeat (refine xS ?_; conv => arg 5; whnf)))
  exact wD (Ends.plain (.inr rfl) rfl (by simp))
theorem lessI_can (a b : Int) : Reads Tryz.prog 100 [.plain (.one (.raw (.int .i64 a))), .plain (.one (.raw (.int .i64 b)))] [] (XV.bool (decide (a < b))) := by
  refine Reads.of Tryz.T_ok Tryz.func100 rfl _ _ _ rfl rfl (fun C hC => ?_)
  (replace hC : C.n0 = 2 := hC; change Tri _ _ _ ⟨_, _, 2⟩ _)
  refine Tri.of Tryz.mixed Tryz.T_ok ?_
  (refine wBegin ?_; ((conv => arg 5; whnf); repeat (refine xS ?_; conv => arg 5; whnf)))
  (apply wP; exact (call_op rfl (entersB_of Tryz.func156 (by kernel_rfl)) rfl ((nanI_can a).at [] ⟨lend_plain rfl, trivial⟩ trivial)); ((conv => arg 5; whnf); repeat (refine xS ?_; conv => arg 5; whnf)))
  (repeat (refine wN ?_ ?_; exact (by (try simp only [ww] at *); omega); refine wGo ?_; ((conv => arg 5; whnf); repeat (refine xS ?_; conv => arg 5; whnf))))
  exact wD (Ends.plain (.inr rfl) rfl rfl)
theorem mid_eq {i j : Nat} (h : i + j < 4611686018427387904) : IntKind.i64.wrap (shrI .u64 (IntKind.u64.wrap (IntKind.i64.wrap ((i : Int) + (j : Int)))) 1) = (((i + j) / 2 : Nat) : Int) := by
  have e1 : IntKind.i64.wrap ((i : Int) + (j : Int)) = ((i + j : Nat) : Int) := by rw [IntKind.wrap_i64]; omega
  have e2 : IntKind.u64.wrap ((i + j : Nat) : Int) = ((i + j : Nat) : Int) := by show ((i + j : Nat) : Int) % 2 ^ 64 = _; omega
  rw [e1, e2, show (1 : Int) = ((1 : Nat) : Int) from rfl, shr_nat .u64 (i + j) 1 (by decide), IntKind.wrap_i64]
  omega
def bsSt (l : List Int) (a : Int) (i j : Nat) : St :=
  ⟨[some (XV.sv (.slc 0 1 0 l.length)), some (XV.int .i64 a), none, none, none, none, some (XV.int .i64 l.length), some (XV.int .i64 i), some (XV.int .i64 j)] ++ List.replicate 45 none, [(0, .ro 1 l.length (intsF l))], 2⟩
theorem bsearch_can (a : Int) (l : List Int) (hl : l.length ≤ 1000000) (hr : Rising l) (ha : a ∉ l) : Reads Tryz.prog 53 [.row 1 l.length (intsF l), .plain (.one (.raw (.int .i64 a)))] [] (.tup [.one (.raw (.int .i64 (posU l a))), .one (.raw (.bool false))]) := by
  have hget : ∀ i, i < l.length → l.getD i 0 ≠ a := fun i hi he => ha (by rw [← he, List.getD_eq_getElem?_getD, List.getElem?_eq_getElem hi]; exact List.getElem_mem hi)
  refine Reads.of Tryz.T_ok Tryz.func53 rfl _ _ _ rfl rfl (fun C hC => ?_)
  (replace hC : C.n0 = 2 := hC; change Tri _ _ _ ⟨_, _, 2⟩ _)
  (refine Tri.cut 3 Tryz.mixed Tryz.T_ok ?_; ((conv => arg 5; whnf); repeat (refine xS ?_; conv => arg 5; whnf)))
  refine wD <| cutG <| Tri.seq ?_
  (refine Tri.cut 1 Tryz.mixed Tryz.T_ok ?_; ((conv => arg 5; whnf); repeat (refine xS ?_; conv => arg 5; whnf)))
  refine wD <| cutG <| Tri.block ?_
  refine Tri.loop (α := { p : Nat × Nat // p.1 ≤ p.2 ∧ p.2 ≤ l.length ∧ (∀ k, k < p.1 → l.getD k 0 < a) ∧ (p.2 < l.length → ¬ l.getD p.2 0 < a) }) (fun p => bsSt l a p.1.1 p.1.2) (fun p => p.1.2 - p.1.1) ⟨(0, l.length), Nat.zero_le _, Nat.le_refl _, fun k hk => absurd hk (Nat.not_lt_zero k), fun h => absurd h (Nat.lt_irrefl _)⟩ ?_ ?_
  · unfold bsSt
    ((try dsimp only); refine Ent.renC [0, 1] hC ?_ ?_ <;> repeat' (first | exact trivial | exact rfl | exact ⟨_, rfl, rfl, rfl, Nat.le_refl _, fun _ _ => rfl⟩ | exact ⟨_, rfl, rfl, rfl, fun _ _ => rfl⟩ | exact ⟨_, rfl, rfl, rfl⟩ | exact ⟨_, rfl, rfl⟩ | refine ⟨_, rfl, rfl, rfl, by omega, fun k hk => ?_⟩ | refine ⟨?_, ?_⟩ | fail))
  rintro ⟨⟨i, j⟩, h1, h2, h3, h4⟩
  dsimp only at h1 h2 h3 h4
  unfold bsSt
  dsimp only
  (refine Tri.cut 2 Tryz.mixed Tryz.T_ok ?_; ((conv => arg 5; whnf); repeat (refine xS ?_; conv => arg 5; whnf)))
  refine wC (fun hc => ?_) (fun hc => ?_)
  · (refine wGo ?_; ((conv => arg 5; whnf); repeat (refine xS ?_; conv => arg 5; whnf)))
    have hij : i < j := (by (try simp only [ww] at *); omega)
    refine wD <| cutG <| Tri.block <| Tri.of Tryz.mixed Tryz.T_ok ?_
    (refine wBegin ?_; ((conv => arg 5; whnf); repeat (refine xS ?_; conv => arg 5; whnf)))
    have hm := mid_eq (i := i) (j := j) (by omega)
    obtain ⟨m, hm'⟩ : ∃ m, (i + j) / 2 = m := ⟨_, rfl⟩
    rw [hm'] at hm
    have k1 : i ≤ m := by omega
    have k2 : m < j := by omega
    rw [hm]
    (repeat (refine wN ?_ ?_; exact (by (try simp only [ww] at *); omega); refine wGo ?_; ((conv => arg 5; whnf); repeat (refine xS ?_; conv => arg 5; whnf))))
    simp only [Nat.zero_add, Int.toNat_natCast]
    (apply wP; exact (call_op rfl (entersB_of Tryz.func100 (by kernel_rfl)) rfl ((lessI_can (l.getD m 0) a).at [] ⟨lend_plain rfl, lend_plain rfl, trivial⟩ trivial)); ((conv => arg 5; whnf); repeat (refine xS ?_; conv => arg 5; whnf)))
    refine wC (fun h5 => ?_) (fun h5 => ?_)
    · (refine wGo ?_; ((conv => arg 5; whnf); repeat (refine xS ?_; conv => arg 5; whnf)))
      have h5' : l.getD m 0 < a := of_decide_eq_true h5
      have hw : IntKind.i64.wrap ((m : Int) + 1) = ((m + 1 : Nat) : Int) := (by (try simp only [ww] at *); omega)
      refine wD <| blockN <| loopN ⟨⟨(m + 1, j), by omega, h2, fun k hk => ?_, h4⟩, by dsimp only; omega, ?_⟩
      · by_cases e : k = m
        · rw [e]; exact h5'
        · have := rising_get hr (show k < m by omega) (by omega); omega
      · rw [hw]
        ((try dsimp only); refine Ent.renC [0, 1] hC ?_ ?_ <;> repeat' (first | exact trivial | exact rfl | exact ⟨_, rfl, rfl, rfl, Nat.le_refl _, fun _ _ => rfl⟩ | exact ⟨_, rfl, rfl, rfl, fun _ _ => rfl⟩ | exact ⟨_, rfl, rfl, rfl⟩ | exact ⟨_, rfl, rfl⟩ | refine ⟨_, rfl, rfl, rfl, by omega, fun k hk => ?_⟩ | refine ⟨?_, ?_⟩ | fail))
    · (refine wGo ?_; ((conv => arg 5; whnf); repeat (refine xS ?_; conv => arg 5; whnf)))
      have h5' : ¬ l.getD m 0 < a := of_decide_eq_false h5
      refine wD <| blockN <| loopN ⟨⟨(i, m), k1, by omega, h3, fun _ => h5'⟩, by dsimp only; omega, ?_⟩
      ((try dsimp only); refine Ent.renC [0, 1] hC ?_ ?_ <;> repeat' (first | exact trivial | exact rfl | exact ⟨_, rfl, rfl, rfl, Nat.le_refl _, fun _ _ => rfl⟩ | exact ⟨_, rfl, rfl, rfl, fun _ _ => rfl⟩ | exact ⟨_, rfl, rfl, rfl⟩ | exact ⟨_, rfl, rfl⟩ | refine ⟨_, rfl, rfl, rfl, by omega, fun k hk => ?_⟩ | refine ⟨?_, ?_⟩ | fail))
  · (refine wGo ?_; ((conv => arg 5; whnf); repeat (refine xS ?_; conv => arg 5; whnf)))
    obtain rfl : i = j := (by (try simp only [ww] at *); omega)
    have hp := posU_of h2 h3 h4
    rw [hp]
    refine wD <| cutE <| loopX <| blockX <| cutG <| Tri.of Tryz.mixed Tryz.T_ok ?_
    (refine wBegin ?_; ((conv => arg 5; whnf); repeat (refine xS ?_; conv => arg 5; whnf)))
    refine wC (fun h5 => ?_) (fun h5 => ?_)
    · have h5' : i < l.length := (by (try simp only [ww] at *); omega)
      (refine wGo ?_; ((conv => arg 5; whnf); repeat (refine xS ?_; conv => arg 5; whnf)))
      (repeat (refine wN ?_ ?_; exact (by (try simp only [ww] at *); omega); refine wGo ?_; ((conv => arg 5; whnf); repeat (refine xS ?_; conv => arg 5; whnf))))
      simp only [Nat.zero_add, Int.toNat_natCast]
      refine wFd (by simpa using hget i h5') ?_
      (refine wGo ?_; ((conv => arg 5; whnf); repeat (refine xS ?_; conv => arg 5; whnf)))
      (repeat (refine wN ?_ ?_; exact (by (try simp only [ww] at *); omega); refine wGo ?_; ((conv => arg 5; whnf); repeat (refine xS ?_; conv => arg 5; whnf))))
      simp only [Nat.zero_add, Int.toNat_natCast]
      (apply wP; exact (call_op rfl (entersB_of Tryz.func101 (by kernel_rfl)) rfl ((nanS_can (l.getD i 0)).at [] ⟨lend_plain rfl, trivial⟩ trivial)); ((conv => arg 5; whnf); repeat (refine xS ?_; conv => arg 5; whnf)))
      exact wD (Ends.plain (.inr rfl) rfl rfl)
    · (refine wGo ?_; ((conv => arg 5; whnf); repeat (refine xS ?_; conv => arg 5; whnf)))
      exact wD (Ends.plain (.inr rfl) rfl rfl)
end Go.Proofs.YtnpkdoggfnlapaaGreatDoor
namespace Go.Proofs.YtnpkdoggfnlapaaGreatDoor
set_option maxRecDepth 100000
open Go.Sx
theorem claimTx_sized (c : ClaimM) : Sized (claimTx c) := ⟨Nat.zero_le _, Nat.zero_le _, Nat.zero_le _, Nat.zero_le _, Nat.zero_le _, Nat.zero_le _⟩
theorem claimTx_bare (c : ClaimM) : emptyB (claimTx c).bare5 = true := by
  show emptyB (claimTx claim0) = true
  decide
theorem mayC_can (c : ClaimM) : Reads Tryz.prog 82 [.box (claimTx c).ac] [] (XV.bool (claimOK c)) := by
  have h := may5_can (claimTx c) rfl (claimTx_sized c)
  rw [claimTx_bare, Bool.and_true] at h
  exact h
theorem anyI_mem (a : Int) (l : List Int) : l.any (eqI a) = decide (a ∈ l) := by
  rw [Bool.eq_iff_iff, List.any_eq_true, decide_eq_true_eq]
  constructor
  · rintro ⟨x, hx, h⟩
    rw [eqI, beq_iff_eq] at h
    rw [h]; exact hx
  · exact fun h => ⟨a, h, by rw [eqI, beq_iff_eq]⟩
def sideSlc (x : SideM) (a b d e : Nat) : List SV := sideCells x (.slc a 8 0 x.par.keys.length) (.slc b 9 0 x.cert.outs.length) (.slc d 282 0 x.cert.sigs.length) (.slc e 1 0 x.used.length)
def chkSt (L : List SideM) (c : ClaimM) (x : SideM) : St :=
  ⟨[some (XV.sv (.ptr 0 0 0 0)), none, none, some (XV.sv (.ptr 3 0 0 0)), none, some (XV.sv (.ptr 4 0 0 0)), some (XV.bool true)] ++ List.replicate 49 none,
   [(0, .abs (pReg L)), (2, .ext stepsP), (3, .cells 46 (c.cells.map .raw)), (4, .cells 68 (sideSlc x 5 6 7 8)), (5, .vec 29 8 x.par.keys.length (keysF x.par.keys)), (6, .vec 59 9 x.cert.outs.length (outsF x.cert.outs)), (7, .vec 192 282 x.cert.sigs.length (sgdsF x.cert.sigs)), (8, .vec 3 1 x.used.length (intsF x.used))], 9⟩
set_option maxHeartbeats 4000000 in
theorem check_can (L : List SideM) (c : ClaimM) (hL : ∀ i, i < L.length → (L.getD i default).Sized) (hl : L.length ≤ 1000) : Acts Tryz.prog 42 (.abs (pReg L)) (.abs (pReg L)) [.plain c.x] [stepsP] (XV.int .i64 (checkE L c)) := by
  refine Acts.of Tryz.T_ok Tryz.func42 rfl _ _ _ _ _ rfl rfl rfl (fun C hC => ?_)
  (replace hC : C.n0 = 3 := hC; change Tri _ _ _ ⟨_, _, 3⟩ _)
  have hmay := mayC_can c
  cases hb : claimOK c with
  | false =>
    rw [hb] at hmay
    have he : checkE L c = 4 := by rw [checkE, if_pos hb]
    rw [he]
    refine Tri.of Tryz.mixed Tryz.T_ok ?_
    (refine wBegin ?_; ((conv => arg 5; whnf); repeat (refine xS ?_; conv => arg 5; whnf)))
    (apply wP; exact (call_op rfl (entersB_of Tryz.func82 (by kernel_rfl)) rfl (hmay.at [] ⟨lend_tx (t := claimTx c) (lend_nil _ _) (lend_nil _ _) (lend_nil _ _) (lend_nil _ _) (lend_nil _ _) (lend_nil _ _), trivial⟩ trivial)); ((conv => arg 5; whnf); repeat (refine xS ?_; conv => arg 5; whnf)))
    exact wD (Ends.shutN (.inr rfl) (Ent.refl _) rfl rfl rfl)
  | true =>
    rw [hb] at hmay
    obtain ⟨⟨s1, s2⟩, ⟨a1, a2⟩, w1, ⟨m1, m2⟩, n1, n2⟩ := claimOK_iff.1 hb
    (refine Tri.cut 3 Tryz.mixed Tryz.T_ok ?_; ((conv => arg 5; whnf); repeat (refine xS ?_; conv => arg 5; whnf)))
    (apply wP; exact (call_op rfl (entersB_of Tryz.func82 (by kernel_rfl)) rfl (hmay.at [] ⟨lend_tx (t := claimTx c) (lend_nil _ _) (lend_nil _ _) (lend_nil _ _) (lend_nil _ _) (lend_nil _ _) (lend_nil _ _), trivial⟩ trivial)); ((conv => arg 5; whnf); repeat (refine xS ?_; conv => arg 5; whnf)))
    by_cases h8 : (L.length : Int) ≤ c.side
    · have he : checkE L c = 8 := by rw [checkE, if_neg (by rw [hb]; simp), if_pos h8]
      rw [he]
      have ho := side_out L c.side (by rw [inB, decide_eq_false (show ¬ c.side < (L.length : Int) by omega), Bool.and_false])
      (apply wP; exact (call_op rfl (entersB_of Tryz.func22 (by kernel_rfl)) rfl (ho.at1 [] rfl rfl rfl ⟨lend_plain rfl, trivial⟩ trivial)); ((conv => arg 5; whnf); repeat (refine xS ?_; conv => arg 5; whnf)))
      refine wD <| cutG <| Tri.of Tryz.mixed Tryz.T_ok ?_
      (refine wBegin ?_; ((conv => arg 5; whnf); repeat (refine xS ?_; conv => arg 5; whnf)))
      exact wD (Ends.shutN (.inr rfl) (Ent.refl _) rfl rfl rfl)
    have hi : c.side.toNat < L.length := by omega
    have hz := hL _ hi
    have hin := side_in L c.side.toNat hi hz
    rw [Int.toNat_of_nonneg s1] at hin
    have he : checkE L c = checkX (L.getD c.side.toNat default) c := by rw [checkE, if_neg (by rw [hb]; simp), if_neg h8]
    rw [he]
    generalize L.getD c.side.toNat default = x at hin hz ⊢
    (apply wP; exact (call_op rfl (entersB_of Tryz.func22 (by kernel_rfl)) rfl (hin.at1 [] rfl rfl rfl ⟨lend_plain rfl, trivial⟩ trivial)); ((conv => arg 5; whnf); repeat (refine xS ?_; conv => arg 5; whnf)))
    refine wD <| cutG <| Tri.ent (Ent.unpack (c := 16) (l := sideRows x) rfl) <| Tri.ent (S' := chkSt L c x) ?_ ?_
    · unfold chkSt
      ((try dsimp only); refine Ent.renC [0, 1, 2, 3, 20, 23, 24, 25, 26] hC ?_ ?_ <;> repeat' (first | exact trivial | exact rfl | exact ⟨_, rfl, rfl, rfl, Nat.le_refl _, fun _ _ => rfl⟩ | exact ⟨_, rfl, rfl, rfl, fun _ _ => rfl⟩ | exact ⟨_, rfl, rfl, rfl⟩ | exact ⟨_, rfl, rfl⟩ | refine ⟨_, rfl, rfl, rfl, by omega, fun k hk => ?_⟩ | refine ⟨?_, ?_⟩ | fail))
    unfold chkSt
    refine Tri.of Tryz.mixed Tryz.T_ok ?_
    (refine wBegin ?_; ((conv => arg 5; whnf); repeat (refine xS ?_; conv => arg 5; whnf)))
    refine wC (fun h1 => ?_) (fun h1 => ?_)
    · have h1' : x.ceased = false := by simpa using h1
      (refine wGo ?_; ((conv => arg 5; whnf); repeat (refine xS ?_; conv => arg 5; whnf)))
      exact wD (Ends.shutN (.inr rfl) (Ent.refl _) rfl rfl (by rw [checkX, if_pos h1']))
    have h1' : x.ceased = true := by simpa using h1
    (refine wGo ?_; ((conv => arg 5; whnf); repeat (refine xS ?_; conv => arg 5; whnf)))
    (apply wP; exact (call_op rfl (entersB_of Tryz.func83 (by kernel_rfl)) rfl ((containsI_can c.acct x.used (by have := hz.used; omega)).at [8] ⟨lend_vecN (lo := 0) rfl rfl rfl (Nat.le_of_eq (Nat.zero_add _)) (fun i _ => by rw [Nat.zero_add]), lend_plain rfl, trivial⟩ trivial)); ((conv => arg 5; whnf); repeat (refine xS ?_; conv => arg 5; whnf)))
    rw [anyI_mem]
    refine wC (fun h2 => ?_) (fun h2 => ?_)
    · have h2' : c.acct ∈ x.used := of_decide_eq_true h2
      (refine wGo ?_; ((conv => arg 5; whnf); repeat (refine xS ?_; conv => arg 5; whnf)))
      exact wD (Ends.shutN (.inr rfl) (Ent.refl _) rfl rfl (by rw [checkX, if_neg (by rw [h1']; simp), if_pos h2']))
    have h2' : c.acct ∉ x.used := of_decide_eq_false h2
    (refine wGo ?_; ((conv => arg 5; whnf); repeat (refine xS ?_; conv => arg 5; whnf)))
    (apply wP; exact (call_op rfl (entersB_of Tryz.func85 (by kernel_rfl)) rfl ((leafP_can c.acct c.st ⟨⟨a1, a2⟩, w1, ⟨by omega, by omega⟩, ⟨n1, n2⟩⟩).at [2] ⟨lend_plain rfl, lend_plain rfl, trivial⟩ ⟨lend_ext (c := 2) rfl rfl, trivial⟩)); ((conv => arg 5; whnf); repeat (refine xS ?_; conv => arg 5; whnf)))
    have hsc := scheck_can x.root (leafA c.acct c.st) c.acct.toNat (by omega) c.proof
    rw [Int.toNat_of_nonneg a1] at hsc
    (apply wP; exact (call_op rfl (entersB_of Tryz.func84 (by kernel_rfl)) rfl (hsc.at [2] ⟨lend_plain rfl, lend_plain rfl, lend_plain rfl, lend_plain rfl, trivial⟩ ⟨lend_ext (c := 2) rfl rfl, trivial⟩)); ((conv => arg 5; whnf); repeat (refine xS ?_; conv => arg 5; whnf)))
    have hpf : decide (upS (leafA c.acct c.st) c.acct.toNat c.proof 16 = x.root) = proofOK x.root c := rfl
    rw [hpf]
    refine wC (fun h3 => ?_) (fun h3 => ?_)
    · have h3' : proofOK x.root c = false := by simpa using h3
      (refine wGo ?_; ((conv => arg 5; whnf); repeat (refine xS ?_; conv => arg 5; whnf)))
      exact wD (Ends.shutN (.inr rfl) (Ent.refl _) rfl rfl (by rw [checkX, if_neg (by rw [h1']; simp), if_neg h2', if_pos h3']))
    have h3' : proofOK x.root c = true := by simpa using h3
    (refine wGo ?_; ((conv => arg 5; whnf); repeat (refine xS ?_; conv => arg 5; whnf)))
    refine wC (fun h4 => ?_) (fun h4 => ?_)
    · have h4' : x.bal < c.st.amt := of_decide_eq_true h4
      (refine wGo ?_; ((conv => arg 5; whnf); repeat (refine xS ?_; conv => arg 5; whnf)))
      exact wD (Ends.shutN (.inr rfl) (Ent.refl _) rfl rfl (by rw [checkX, if_neg (by rw [h1']; simp), if_neg h2', if_neg (by rw [h3']; simp), if_pos h4']))
    have h4' : ¬ x.bal < c.st.amt := of_decide_eq_false h4
    (refine wGo ?_; ((conv => arg 5; whnf); repeat (refine xS ?_; conv => arg 5; whnf)))
    exact wD (Ends.shutN (.inr rfl) (Ent.refl _) rfl rfl (by rw [checkX, if_neg (by rw [h1']; simp), if_neg h2', if_neg (by rw [h3']; simp), if_neg h4']))
end Go.Proofs.YtnpkdoggfnlapaaGreatDoor
namespace Go.Proofs.YtnpkdoggfnlapaaGreatDoor
set_option maxRecDepth 100000
open Go.Sx
def claimB0 (c : ClaimM) : List UInt8 := numL c.side 1 ++ numL c.acct 2 ++ c.st.owner.l ++ numL c.st.amt 7 ++ numL c.st.nonce 1
def claimBs (c : ClaimM) (i : Nat) : List UInt8 := claimB0 c ++ (hashesL c.proof i).flatten
theorem claimB0_len (c : ClaimM) : (claimB0 c).length = 19 := by simp only [claimB0, List.length_append, numL_length, H8.l_len]
theorem claimBs_len (c : ClaimM) (i : Nat) : (claimBs c i).length = 19 + 8 * i := by rw [claimBs, List.length_append, claimB0_len, hashesL_flat]
theorem claimBs_succ (c : ClaimM) (i : Nat) : claimBs c (i + 1) = claimBs c i ++ (c.proof i).l := by simp [claimBs, hashesL_succ]
theorem claimBs_all (c : ClaimM) : claimBs c 16 = (claimP c).flatten := by simp [claimBs, claimB0, claimP]
theorem claim_cells_p (c : ClaimM) : c.cells = (.int .i64 c.side :: .int .i64 c.acct :: c.st.cells) ++ (tabF (hashF c.proof) 0 16 ++ []) := by simp [ClaimM.cells]
def rclSt (c : ClaimM) (i : Nat) : St :=
  ⟨[none, some (XV.sv (.ptr 1 0 0 0)), none, some (XV.sv (.slc 2 1 0 (19 + 8 * i))), some (XV.int .i64 i)] ++ List.replicate 33 none, [(1, .cells 46 (c.cells.map .raw)), (2, .vec 5 1 (19 + 8 * i) (rowB (claimBs c i)))], 3⟩
set_option maxHeartbeats 4000000 in
theorem rclaimB_can (c : ClaimM) : Makes Tryz.prog 94 [.plain c.x] [] (XV.sv (.slc 0 1 0 147)) (.vec 5 1 147 (rowB (claimP c).flatten)) := by
  refine Makes.of Tryz.T_ok Tryz.func94 rfl _ _ _ _ rfl rfl rfl rfl 2 (fun C hC => ?_)
  (replace hC : C.n0 = 1 := hC; change Tri _ _ _ ⟨_, _, 1⟩ _)
  (refine Tri.cut 3 Tryz.mixed Tryz.T_ok ?_; ((conv => arg 5; whnf); repeat (refine xS ?_; conv => arg 5; whnf)))
  (apply wP; exact (call_op rfl (entersB_of Tryz.func72 (by kernel_rfl)) rfl ((num_can c.side 1 (by decide)).at [] ⟨lend_plain rfl, lend_plain rfl, trivial⟩ trivial)); ((conv => arg 5; whnf); repeat (refine xS ?_; conv => arg 5; whnf)))
  (apply wP; exact (call_op rfl (entersB_of Tryz.func72 (by kernel_rfl)) rfl ((num_can c.acct 2 (by decide)).at [] ⟨lend_plain rfl, lend_plain rfl, trivial⟩ trivial)); ((conv => arg 5; whnf); repeat (refine xS ?_; conv => arg 5; whnf)))
  (refine wP _ _ (append_op Tryz.T_ok rfl rfl rfl rfl rfl [5, 8] (old_vec rfl rfl (Nat.le_refl _) rfl) (new_vec (lo := 0) rfl rfl (Nat.le_of_eq (Nat.zero_add _)) rfl) rfl (fun _ _ => rfl) (by simp only [maxLen]; omega) (by dsimp only; omega)) ?_; ((conv => arg 5; whnf); repeat (refine xS ?_; conv => arg 5; whnf)))
  (refine wP _ _ (append_op Tryz.T_ok rfl rfl rfl rfl rfl [9, 1] (old_vec rfl rfl (Nat.le_refl _) rfl) (new_sla (g := rowB c.st.owner.l) rfl rfl rfl (fun _ _ => rfl) rfl) rfl (fun _ _ => rfl) (by simp only [maxLen]; omega) (by dsimp only; omega)) ?_; ((conv => arg 5; whnf); repeat (refine xS ?_; conv => arg 5; whnf)))
  (apply wP; exact (call_op rfl (entersB_of Tryz.func72 (by kernel_rfl)) rfl ((num_can c.st.amt 7 (by decide)).at [] ⟨lend_plain rfl, lend_plain rfl, trivial⟩ trivial)); ((conv => arg 5; whnf); repeat (refine xS ?_; conv => arg 5; whnf)))
  (refine wP _ _ (append_op Tryz.T_ok rfl rfl rfl rfl rfl [13, 19] (old_vec rfl rfl (Nat.le_refl _) rfl) (new_vec (lo := 0) rfl rfl (Nat.le_of_eq (Nat.zero_add _)) rfl) rfl (fun _ _ => rfl) (by simp only [maxLen]; omega) (by dsimp only; omega)) ?_; ((conv => arg 5; whnf); repeat (refine xS ?_; conv => arg 5; whnf)))
  (apply wP; exact (call_op rfl (entersB_of Tryz.func72 (by kernel_rfl)) rfl ((num_can c.st.nonce 1 (by decide)).at [] ⟨lend_plain rfl, lend_plain rfl, trivial⟩ trivial)); ((conv => arg 5; whnf); repeat (refine xS ?_; conv => arg 5; whnf)))
  (refine wP _ _ (append_op Tryz.T_ok rfl rfl rfl rfl rfl [20, 24] (old_vec rfl rfl (Nat.le_refl _) rfl) (new_vec (lo := 0) rfl rfl (Nat.le_of_eq (Nat.zero_add _)) rfl) rfl (fun _ _ => rfl) (by simp only [maxLen]; omega) (by dsimp only; omega)) ?_; ((conv => arg 5; whnf); repeat (refine xS ?_; conv => arg 5; whnf)))
  refine wD <| cutG <| Tri.seq ?_
  (refine Tri.cut 1 Tryz.mixed Tryz.T_ok ?_; ((conv => arg 5; whnf); repeat (refine xS ?_; conv => arg 5; whnf)))
  refine wD <| cutG <| Tri.block ?_
  refine Tri.loop (α := { i : Nat // i ≤ 16 }) (fun i => rclSt c i.1) (fun i => 16 - i.1) ⟨0, Nat.zero_le _⟩ ?_ ?_
  · dsimp only
    rw [rclSt]
    ((try dsimp only); refine Ent.renC [0, 1, 25] hC ?_ ?_ <;> repeat' (first | exact trivial | exact rfl | exact ⟨_, rfl, rfl, rfl, Nat.le_refl _, fun _ _ => rfl⟩ | exact ⟨_, rfl, rfl, rfl, fun _ _ => rfl⟩ | exact ⟨_, rfl, rfl, rfl⟩ | exact ⟨_, rfl, rfl⟩ | refine ⟨_, rfl, rfl, rfl, by omega, fun k hk => ?_⟩ | refine ⟨?_, ?_⟩ | fail))
    rw [show claimBs c 0 = claimB0 c by rw [claimBs, hashesL_zero]; exact List.append_nil _, claimB0]
    simp only [Nat.zero_add]
    refine rowB_joinL (by simp only [List.length_append, numL_length, H8.l_len]; rfl) (rowB_joinL (by simp only [List.length_append, numL_length, H8.l_len]; rfl) (rowB_joinL (by simp only [List.length_append, numL_length, H8.l_len]) (rowB_joinL (numL_length _ _).symm (fun _ _ => rfl) (fun _ _ => rfl)) (fun _ _ => rfl)) (fun _ _ => rfl)) (fun _ _ => rfl) k ?_
    simp only [List.length_append, numL_length, H8.l_len]
    exact hk
  rintro ⟨i, hi⟩
  dsimp only
  have hl := claimBs_len c i
  (refine Tri.cut 1 Tryz.mixed Tryz.T_ok ?_; ((conv => arg 5; whnf); repeat (refine xS ?_; conv => arg 5; whnf)))
  refine wC (fun h1 => ?_) (fun h1 => ?_)
  · (refine wGo ?_; ((conv => arg 5; whnf); repeat (refine xS ?_; conv => arg 5; whnf)))
    have h1' : i < 16 := (by (try simp only [ww] at *); omega)
    have hw : IntKind.i64.wrap ((i : Int) + 1) = ((i + 1 : Nat) : Int) := (by (try simp only [ww] at *); omega)
    refine wD <| cutG <| Tri.seq <| Tri.block <| Tri.of Tryz.mixed Tryz.T_ok ?_
    (refine wBegin ?_; ((conv => arg 5; whnf); repeat (refine xS ?_; conv => arg 5; whnf)))
    (repeat (refine wN ?_ ?_; exact (by (try simp only [ww] at *); omega); refine wGo ?_; ((conv => arg 5; whnf); repeat (refine xS ?_; conv => arg 5; whnf))))
    simp only [Nat.zero_add, Int.toNat_natCast]
    (refine wP _ _ (append_op Tryz.T_ok rfl rfl rfl rfl rfl [2, 1] (old_vec rfl rfl (Nat.le_refl _) rfl) (new_sla (g := rowB (c.proof i).l) rfl rfl rfl (fun _ _ => rfl) (tab_hash_at c.proof 12 (claim_cells_p c) h1' rfl (by omega) rfl)) rfl (fun _ _ => rfl) (by simp only [maxLen]; omega) (by dsimp only; omega)) ?_; ((conv => arg 5; whnf); repeat (refine xS ?_; conv => arg 5; whnf)))
    refine wD <| blockN <| cutG <| Tri.of Tryz.mixed Tryz.T_ok ?_
    (refine wBegin ?_; ((conv => arg 5; whnf); repeat (refine xS ?_; conv => arg 5; whnf)))
    refine wD <| loopN ⟨⟨i + 1, h1'⟩, by dsimp only; omega, ?_⟩
    rw [hw]
    dsimp only
    rw [rclSt, claimBs_succ]
    ((try dsimp only); refine Ent.renC [0, 1, 10] hC ?_ ?_ <;> repeat' (first | exact trivial | exact rfl | exact ⟨_, rfl, rfl, rfl, Nat.le_refl _, fun _ _ => rfl⟩ | exact ⟨_, rfl, rfl, rfl, fun _ _ => rfl⟩ | exact ⟨_, rfl, rfl, rfl⟩ | exact ⟨_, rfl, rfl⟩ | refine ⟨_, rfl, rfl, rfl, by omega, fun k hk => ?_⟩ | refine ⟨?_, ?_⟩ | fail))
    all_goals try exact Nat.le_refl _
    exact rowB_join hl.symm (fun _ _ => rfl) (fun _ _ => rfl) (by rw [hl]; exact hk)
  · (refine wGo ?_; ((conv => arg 5; whnf); repeat (refine xS ?_; conv => arg 5; whnf)))
    have h1' : i = 16 := (by (try simp only [ww] at *); omega)
    subst h1'
    refine wD <| cutE <| loopX <| blockX <| cutG <| Tri.of Tryz.mixed Tryz.T_ok ?_
    (refine wBegin ?_; ((conv => arg 5; whnf); repeat (refine xS ?_; conv => arg 5; whnf)))
    rw [← claimBs_all]
    exact wD (Ends.made (.inr rfl) (Ent.refl _) rfl (Nat.le_of_ble_eq_true rfl) rfl)
end Go.Proofs.YtnpkdoggfnlapaaGreatDoor
namespace Go.Proofs.YtnpkdoggfnlapaaGreatDoor
set_option maxRecDepth 100000
open Go.Sx
set_option maxHeartbeats 4000000 in
theorem rmayClaim_can (c : ClaimM) : Reads Tryz.prog 86 [.plain c.x] [] (XV.bool (claimOK c)) := by
  have bad : (claimOK c = true → False) → XV.bool false = XV.bool (claimOK c) := fun h => by
    cases hc : claimOK c with
    | false => rfl
    | true => exact (h hc).elim
  have hz := rzero_can c.st.owner
  refine Reads.of Tryz.T_ok Tryz.func86 rfl _ _ _ rfl rfl (fun C hC => ?_)
  (replace hC : C.n0 = 1 := hC; change Tri _ _ _ ⟨_, _, 1⟩ _)
  refine Tri.of Tryz.mixed Tryz.T_ok ?_
  (refine wBegin ?_; ((conv => arg 5; whnf); repeat (refine xS ?_; conv => arg 5; whnf)))
  refine wC (fun h1 => ?_) (fun h1 => ?_)
  rotate_left
  · (refine wGo ?_; ((conv => arg 5; whnf); repeat (refine xS ?_; conv => arg 5; whnf)))
    exact wD (Ends.plain (.inr rfl) rfl (bad fun h => by have := claimOK_iff.1 h; simp only [decide_eq_false_iff_not] at h1; omega))
  (refine wGo ?_; ((conv => arg 5; whnf); repeat (refine xS ?_; conv => arg 5; whnf)))
  refine wC (fun h2 => ?_) (fun h2 => ?_)
  rotate_left
  · (refine wGo ?_; ((conv => arg 5; whnf); repeat (refine xS ?_; conv => arg 5; whnf)))
    exact wD (Ends.plain (.inr rfl) rfl (bad fun h => by have := claimOK_iff.1 h; simp only [decide_eq_false_iff_not] at h2; omega))
  (refine wGo ?_; ((conv => arg 5; whnf); repeat (refine xS ?_; conv => arg 5; whnf)))
  refine wC (fun h3 => ?_) (fun h3 => ?_)
  rotate_left
  · (refine wGo ?_; ((conv => arg 5; whnf); repeat (refine xS ?_; conv => arg 5; whnf)))
    exact wD (Ends.plain (.inr rfl) rfl (bad fun h => by have := claimOK_iff.1 h; simp only [decide_eq_false_iff_not] at h3; omega))
  (refine wGo ?_; ((conv => arg 5; whnf); repeat (refine xS ?_; conv => arg 5; whnf)))
  refine wC (fun h4 => ?_) (fun h4 => ?_)
  rotate_left
  · (refine wGo ?_; ((conv => arg 5; whnf); repeat (refine xS ?_; conv => arg 5; whnf)))
    exact wD (Ends.plain (.inr rfl) rfl (bad fun h => by have := claimOK_iff.1 h; simp only [decide_eq_false_iff_not] at h4; omega))
  (refine wGo ?_; ((conv => arg 5; whnf); repeat (refine xS ?_; conv => arg 5; whnf)))
  (apply wP; exact (call_op rfl (entersB_of Tryz.func147 (by kernel_rfl)) rfl (hz.at [] ⟨lend_plain rfl, trivial⟩ trivial)); ((conv => arg 5; whnf); repeat (refine xS ?_; conv => arg 5; whnf)))
  refine wC (fun h5 => ?_) (fun h5 => ?_)
  rotate_left
  · (refine wGo ?_; ((conv => arg 5; whnf); repeat (refine xS ?_; conv => arg 5; whnf)))
    exact wD (Ends.plain (.inr rfl) rfl (bad fun h => by have := (claimOK_iff.1 h).2.2.1; rw [this] at h5; cases h5))
  (refine wGo ?_; ((conv => arg 5; whnf); repeat (refine xS ?_; conv => arg 5; whnf)))
  refine wC (fun h6 => ?_) (fun h6 => ?_)
  rotate_left
  · (refine wGo ?_; ((conv => arg 5; whnf); repeat (refine xS ?_; conv => arg 5; whnf)))
    exact wD (Ends.plain (.inr rfl) rfl (bad fun h => by have := claimOK_iff.1 h; simp only [decide_eq_false_iff_not] at h6; omega))
  (refine wGo ?_; ((conv => arg 5; whnf); repeat (refine xS ?_; conv => arg 5; whnf)))
  refine wC (fun h7 => ?_) (fun h7 => ?_)
  rotate_left
  · (refine wGo ?_; ((conv => arg 5; whnf); repeat (refine xS ?_; conv => arg 5; whnf)))
    exact wD (Ends.plain (.inr rfl) rfl (bad fun h => by have := claimOK_iff.1 h; simp only [decide_eq_false_iff_not] at h7; omega))
  (refine wGo ?_; ((conv => arg 5; whnf); repeat (refine xS ?_; conv => arg 5; whnf)))
  refine wC (fun h8 => ?_) (fun h8 => ?_)
  rotate_left
  · (refine wGo ?_; ((conv => arg 5; whnf); repeat (refine xS ?_; conv => arg 5; whnf)))
    exact wD (Ends.plain (.inr rfl) rfl (bad fun h => by have := claimOK_iff.1 h; simp only [decide_eq_false_iff_not] at h8; omega))
  (refine wGo ?_; ((conv => arg 5; whnf); repeat (refine xS ?_; conv => arg 5; whnf)))
  have e : decide (c.st.nonce ≤ 255) = claimOK c := by
    simp only [decide_eq_true_eq, Bool.not_eq_true'] at h1 h2 h3 h4 h5 h6 h7 h8
    rw [Bool.eq_iff_iff, decide_eq_true_eq, claimOK_iff]
    exact ⟨fun h => ⟨⟨by omega, by omega⟩, ⟨by omega, by omega⟩, h5, ⟨by omega, by omega⟩, by omega, by omega⟩, fun h => h.2.2.2.2.2⟩
  exact wD (Ends.plain (.inr rfl) rfl (congrArg (fun b : Bool => XV.bool b) e))
theorem noPar0 : Reads Tryz.prog 108 [.box par0.ac] [] (XV.bool true) := noPar_can par0 (Nat.zero_le _)
theorem noCert0 : Reads Tryz.prog 109 [.box cert0.ac] [] (XV.bool true) := by
  have h := noCert_can cert0 (Nat.zero_le _) (Nat.zero_le _)
  rw [show certZ cert0 = true by decide] at h
  exact h
set_option maxHeartbeats 4000000 in
theorem rmay5_can (c : ClaimM) : Reads Tryz.prog 57 [.box (claimTx c).ac] [] (XV.bool (claimOK c)) := by
  refine Reads.of Tryz.T_ok Tryz.func57 rfl _ _ _ rfl rfl (fun C hC => ?_)
  (replace hC : C.n0 = 6 := hC; change Tri _ _ _ ⟨_, _, 6⟩ _)
  refine Tri.of Tryz.mixed Tryz.T_ok ?_
  (refine wBegin ?_; ((conv => arg 5; whnf); repeat (refine xS ?_; conv => arg 5; whnf)))
  repeat (first | (refine wFd rfl ?_; refine wGo ?_; ((conv => arg 5; whnf); repeat (refine xS ?_; conv => arg 5; whnf))) | (refine wTd rfl ?_; refine wGo ?_; ((conv => arg 5; whnf); repeat (refine xS ?_; conv => arg 5; whnf))))
  (apply wP; exact (call_op rfl (entersB_of Tryz.func108 (by kernel_rfl)) rfl (noPar0.at [3] ⟨lend_par (p := par0) (lend_ro0 rfl rfl), trivial⟩ trivial)); ((conv => arg 5; whnf); repeat (refine xS ?_; conv => arg 5; whnf)))
  repeat (first | (refine wFd rfl ?_; refine wGo ?_; ((conv => arg 5; whnf); repeat (refine xS ?_; conv => arg 5; whnf))) | (refine wTd rfl ?_; refine wGo ?_; ((conv => arg 5; whnf); repeat (refine xS ?_; conv => arg 5; whnf))))
  (apply wP; exact (call_op rfl (entersB_of Tryz.func109 (by kernel_rfl)) rfl (noCert0.at [4, 5] ⟨lend_cert (c := cert0) (lend_ro0 rfl rfl) (lend_ro0 rfl rfl), trivial⟩ trivial)); ((conv => arg 5; whnf); repeat (refine xS ?_; conv => arg 5; whnf)))
  repeat (first | (refine wFd rfl ?_; refine wGo ?_; ((conv => arg 5; whnf); repeat (refine xS ?_; conv => arg 5; whnf))) | (refine wTd rfl ?_; refine wGo ?_; ((conv => arg 5; whnf); repeat (refine xS ?_; conv => arg 5; whnf))))
  (apply wP; exact (call_op rfl (entersB_of Tryz.func86 (by kernel_rfl)) rfl ((rmayClaim_can c).at [] ⟨lend_plain rfl, trivial⟩ trivial)); ((conv => arg 5; whnf); repeat (refine xS ?_; conv => arg 5; whnf)))
  exact wD (Ends.plain (.inr rfl) rfl rfl)
end Go.Proofs.YtnpkdoggfnlapaaGreatDoor
namespace Go.Proofs.YtnpkdoggfnlapaaGreatDoor
set_option maxRecDepth 100000
open Go.Sx
theorem claimEnc_len (c : ClaimM) : (claimEnc c).length = 148 := claimEncB_len c
theorem claimEnc_eq (c : ClaimM) : claimEnc c = numL 5 1 ++ (claimP c).flatten := rfl
theorem claimP_len (c : ClaimM) : (claimP c).flatten.length = 147 := by rw [← claimBs_all, claimBs_len]
set_option maxHeartbeats 4000000 in
theorem rencode5_can (c : ClaimM) (hc : claimOK c = true) : Makes Tryz.prog 44 [.box (claimTx c).ac] [] (.tup [.one (.slc 0 1 0 148), .one (.raw (.int .i64 0))]) (.vec 5 1 148 (rowB (claimEnc c))) := by
  have hmay := rmay5_can c
  rw [hc] at hmay
  refine Makes.of Tryz.T_ok Tryz.func44 rfl _ _ _ _ rfl rfl rfl rfl 30 (fun C hC => ?_)
  (replace hC : C.n0 = 6 := hC; change Tri _ _ _ ⟨_, _, 6⟩ _)
  refine Tri.of Tryz.mixed Tryz.T_ok ?_
  (refine wBegin ?_; ((conv => arg 5; whnf); repeat (refine xS ?_; conv => arg 5; whnf)))
  (apply wP; exact (call_op rfl (entersB_of Tryz.func57 (by kernel_rfl)) rfl (hmay.at [0, 1, 2, 3, 4, 5] ⟨lend_tx (t := claimTx c) (lend_ro0 rfl rfl) (lend_ro0 rfl rfl) (lend_ro0 rfl rfl) (lend_ro0 rfl rfl) (lend_ro0 rfl rfl) (lend_ro0 rfl rfl), trivial⟩ trivial)); ((conv => arg 5; whnf); repeat (refine xS ?_; conv => arg 5; whnf)))
  (apply wP; exact (call_op rfl (entersB_of Tryz.func72 (by kernel_rfl)) rfl ((num_can 5 1 (by decide)).at [] ⟨lend_plain rfl, lend_plain rfl, trivial⟩ trivial)); ((conv => arg 5; whnf); repeat (refine xS ?_; conv => arg 5; whnf)))
  repeat (first | (refine wFd rfl ?_; refine wGo ?_; ((conv => arg 5; whnf); repeat (refine xS ?_; conv => arg 5; whnf))) | (refine wTd rfl ?_; refine wGo ?_; ((conv => arg 5; whnf); repeat (refine xS ?_; conv => arg 5; whnf))))
  (apply wP; exact (call_op rfl (entersB_of Tryz.func94 (by kernel_rfl)) rfl ((rclaimB_can c).at [] ⟨lend_plain rfl, trivial⟩ trivial)); ((conv => arg 5; whnf); repeat (refine xS ?_; conv => arg 5; whnf)))
  (refine wP _ _ (append_op Tryz.T_ok rfl rfl rfl rfl rfl [14, 29] (old_vec rfl rfl (Nat.le_refl _) rfl) (new_vec (lo := 0) rfl rfl (Nat.le_of_eq (Nat.zero_add _)) rfl) rfl (fun _ _ => rfl) (by simp only [maxLen]; omega) (by dsimp only; omega)) ?_; ((conv => arg 5; whnf); repeat (refine xS ?_; conv => arg 5; whnf)))
  refine wD (Ends.made (.inr rfl) (Ent.chg0 (c := 30) (g := rowB (claimEnc c)) rfl ?_) rfl (Nat.le_of_ble_eq_true rfl) rfl)
  rw [claimEnc_eq]
  simp only [Nat.zero_add]
  intro k hk
  refine rowB_joinL (numL_length _ _).symm (fun _ _ => rfl) (fun _ _ => rfl) k ?_
  rw [List.length_append, numL_length, claimP_len]
  exact hk
set_option maxHeartbeats 4000000 in
theorem rid5_can (c : ClaimM) (hc : claimOK c = true) : Reads Tryz.prog 16 [.box (claimTx c).ac] [] (.tup [(claimID c).x, .one (.raw (.bool true))]) := by
  have hl := claimEnc_len c
  have hen := rencode5_can c hc
  rw [← hl] at hen
  refine Reads.of Tryz.T_ok Tryz.func16 rfl _ _ _ rfl rfl (fun C hC => ?_)
  (replace hC : C.n0 = 6 := hC; change Tri _ _ _ ⟨_, _, 6⟩ _)
  refine Tri.of Tryz.mixed Tryz.T_ok ?_
  (refine wBegin ?_; ((conv => arg 5; whnf); repeat (refine xS ?_; conv => arg 5; whnf)))
  (apply wP; exact (call_op rfl (entersB_of Tryz.func44 (by kernel_rfl)) rfl (hen.at [0, 1, 2, 3, 4, 5] ⟨lend_tx (t := claimTx c) (lend_ro0 rfl rfl) (lend_ro0 rfl rfl) (lend_ro0 rfl rfl) (lend_ro0 rfl rfl) (lend_ro0 rfl rfl) (lend_ro0 rfl rfl), trivial⟩ trivial)); ((conv => arg 5; whnf); repeat (refine xS ?_; conv => arg 5; whnf)))
  (refine wP _ _ (cellsNew_op Tryz.T_ok rfl rfl rfl) ?_; ((conv => arg 5; whnf); repeat (refine xS ?_; conv => arg 5; whnf)))
  (apply wP; exact (call_op rfl (entersB_of Tryz.func45 (by kernel_rfl)) rfl ((digest_can 120 [claimEnc c] (short1 _ _ (by omega))).at [10, 19] ⟨lend_plain rfl, lend_parts [claimEnc c] rfl rfl rfl ⟨lend_vec0 rfl rfl, trivial⟩, trivial⟩ trivial)); ((conv => arg 5; whnf); repeat (refine xS ?_; conv => arg 5; whnf)))
  exact wD (Ends.plain (.inr rfl) rfl rfl)
end Go.Proofs.YtnpkdoggfnlapaaGreatDoor
namespace Go.Proofs
open Go.Shelf
def Tryz.insInt_ren : Go.Shelf.Ren := ⟨fun | 21 => 54 | 27 => 102 | 28 => 103 | 35 => 157 | 39 => 192 | n => n, fun | 22 => 66 | 3 => 3 | 4 => 4 | 0 => 0 | n => n, fun | n => n⟩
theorem Tryz.insInt : Go.Proofs.Lays2.n21 Tryz.prog Tryz.insInt_ren := {
  mixed := by kernel_rfl
  f21 := Tryz.func54.trans (congrArg some (by kernel_rfl))
  f27 := Tryz.func102.trans (congrArg some (by kernel_rfl))
  f28 := Tryz.func103.trans (congrArg some (by kernel_rfl))
  f35 := Tryz.func157.trans (congrArg some (by kernel_rfl))
  f39 := Tryz.func192.trans (congrArg some (by kernel_rfl))
  t0 := Tryz.underlying0
  a0 := Tryz.isAgg0
  z0 := Tryz.sizeOf0
  v0 := Tryz.zeroValue0
  t3 := Tryz.underlying3
  a3 := Tryz.isAgg3
  z3 := Tryz.sizeOf3
  v3 := Tryz.zeroValue3
  t4 := Tryz.underlying4
  a4 := Tryz.isAgg4
  z4 := Tryz.sizeOf4
  v4 := Tryz.zeroValue4
  t22 := Tryz.underlying66
  a22 := Tryz.isAgg66
  z22 := Tryz.sizeOf66
  v22 := Tryz.zeroValue66
  i3 := by kernel_rfl }
end Go.Proofs

/- Parts Zg Zh Zi Px Ur Ui Uj Uk Um. -/
import Derived.Test.YtnpkdoggfnlapaaGreatDoorG24
import Derived.Test.YtnpkdoggfnlapaaGreatDoorG22
import Derived.Test.YtnpkdoggfnlapaaGreatDoorG16
import Derived.Test.YtnpkdoggfnlapaaGreatDoorG13
import Derived.Test.YtnpkdoggfnlapaaGreatDoorG06
import Derived.Sort.Statements
set_option linter.unusedSimpArgs false
set_option linter.unusedVariables false
namespace Go.Proofs.YtnpkdoggfnlapaaGreatDoor
set_option maxRecDepth 100000
open Go.Sx
def claimB0 (c : ClaimM) : List UInt8 := numL c.side 1 ++ numL c.acct 2 ++ c.st.owner.l ++ numL c.st.amt 7 ++ numL c.st.nonce 1
def claimBs (c : ClaimM) (i : Nat) : List UInt8 := claimB0 c ++ (hashesL c.proof i).flatten
theorem claimB0_len (c : ClaimM) : (claimB0 c).length = 19 := by simp only [claimB0, List.length_append, numL_length, H8.l_len]
theorem claimBs_len (c : ClaimM) (i : Nat) : (claimBs c i).length = 19 + 8 * i := by rw [claimBs, List.length_append, claimB0_len, hashesL_flat]
theorem claimBs_succ (c : ClaimM) (i : Nat) : claimBs c (i + 1) = claimBs c i ++ (c.proof i).l := by simp [claimBs, hashesL_succ]
theorem claimBs_all (c : ClaimM) : claimBs c 16 = (claimP c).flatten := by simp [claimBs, claimB0, claimP]
theorem claim_cells_p (c : ClaimM) : c.cells = (.int .i64 c.side :: .int .i64 c.acct :: c.st.cells) ++ (tabF (hashF c.proof) 0 16 ++ []) := by simp [ClaimM.cells]
def rclSt (c : ClaimM) (i : Nat) : St :=
  ⟨[none, some (XV.sv (.ptr 1 0 0 0)), none, some (XV.sv (.slc 2 1 0 (19 + 8 * i))), some (XV.int .i64 i)] ++ List.replicate 33 none, [(1, .cells 46 (c.cells.map .raw)), (2, .vec 5 1 (19 + 8 * i) (rowB (claimBs c i)))], 3⟩
set_option maxHeartbeats 4000000 in
theorem rclaimB_can (c : ClaimM) : Makes Tryz.prog 94 [.plain c.x] [] (XV.sv (.slc 0 1 0 147)) (.vec 5 1 147 (rowB (claimP c).flatten)) := by
  refine Makes.of Tryz.T_ok Tryz.func94 rfl _ _ _ _ rfl rfl rfl rfl 2 (fun C hC => ?_)
  (replace hC : C.n0 = 1 := hC; change Tri _ _ _ ⟨_, _, 1⟩ _)
  (refine Tri.cut 3 Tryz.mixed Tryz.T_ok ?_; ((conv => arg 5; whnf); repeat (refine xS ?_; conv => arg 5; whnf)))
  (apply wP; exact (call_op rfl (entersB_of Tryz.func72 (by kernel_rfl)) rfl ((num_can c.side 1 (by decide)).at [] ⟨lend_plain rfl, lend_plain rfl, trivial⟩ trivial)); ((conv => arg 5; whnf); repeat (refine xS ?_; conv => arg 5; whnf)))
  (apply wP; exact (call_op rfl (entersB_of Tryz.func72 (by kernel_rfl)) rfl ((num_can c.acct 2 (by decide)).at [] ⟨lend_plain rfl, lend_plain rfl, trivial⟩ trivial)); ((conv => arg 5; whnf); repeat (refine xS ?_; conv => arg 5; whnf)))
  (refine wP _ _ (append_op Tryz.T_ok rfl rfl rfl rfl rfl [5, 8] (old_vec rfl rfl (Nat.le_refl _) rfl) (new_vec (lo := 0) rfl rfl (Nat.le_of_eq (Nat.zero_add _)) rfl) rfl (fun _ _ => rfl) (by simp only [maxLen]; omega) (by dsimp only; omega)) ?_; ((conv => arg 5; whnf); repeat (refine xS ?_; conv => arg 5; whnf)))
  (refine wP _ _ (append_op Tryz.T_ok rfl rfl rfl rfl rfl [9, 1] (old_vec rfl rfl (Nat.le_refl _) rfl) (new_sla (g := rowB c.st.owner.l) rfl rfl rfl (fun _ _ => rfl) rfl) rfl (fun _ _ => rfl) (by simp only [maxLen]; omega) (by dsimp only; omega)) ?_; ((conv => arg 5; whnf); repeat (refine xS ?_; conv => arg 5; whnf)))
  (apply wP; exact (call_op rfl (entersB_of Tryz.func72 (by kernel_rfl)) rfl ((num_can c.st.amt 7 (by decide)).at [] ⟨lend_plain rfl, lend_plain rfl, trivial⟩ trivial)); ((conv => arg 5; whnf); repeat (refine xS ?_; conv => arg 5; whnf)))
  (refine wP _ _ (append_op Tryz.T_ok rfl rfl rfl rfl rfl [13, 19] (old_vec rfl rfl (Nat.le_refl _) rfl) (new_vec (lo := 0) rfl rfl (Nat.le_of_eq (Nat.zero_add _)) rfl) rfl (fun _ _ => rfl) (by simp only [maxLen]; omega) (by dsimp only; omega)) ?_; ((conv => arg 5; whnf); repeat (refine xS ?_; conv => arg 5; whnf)))
  (apply wP; exact (call_op rfl (entersB_of Tryz.func72 (by kernel_rfl)) rfl ((num_can c.st.nonce 1 (by decide)).at [] ⟨lend_plain rfl, lend_plain rfl, trivial⟩ trivial)); ((conv => arg 5; whnf); repeat (refine xS ?_; conv => arg 5; whnf)))
  (refine wP _ _ (append_op Tryz.T_ok rfl rfl rfl rfl rfl [20, 24] (old_vec rfl rfl (Nat.le_refl _) rfl) (new_vec (lo := 0) rfl rfl (Nat.le_of_eq (Nat.zero_add _)) rfl) rfl (fun _ _ => rfl) (by simp only [maxLen]; omega) (by dsimp only; omega)) ?_; ((conv => arg 5; whnf); repeat (refine xS ?_; conv => arg 5; whnf)))
  refine wD <| cutG <| Tri.seq ?_
  (refine Tri.cut 1 Tryz.mixed Tryz.T_ok ?_; ((conv => arg 5; whnf); repeat (refine xS ?_; conv => arg 5; whnf)))
  refine wD <| cutG <| Tri.block ?_
  refine Tri.loop (α := { i : Nat // i ≤ 16 }) (fun i => rclSt c i.1) (fun i => 16 - i.1) ⟨0, Nat.zero_le _⟩ ?_ ?_
  · dsimp only
    rw [rclSt]
    ((try dsimp only); refine Ent.renC [0, 1, 25] hC ?_ ?_ <;> repeat' (first | exact trivial | exact rfl | exact ⟨_, rfl, rfl, rfl, Nat.le_refl _, fun _ _ => rfl⟩ | exact ⟨_, rfl, rfl, rfl, fun _ _ => rfl⟩ | exact ⟨_, rfl, rfl, rfl⟩ | exact ⟨_, rfl, rfl⟩ | refine ⟨_, rfl, rfl, rfl, by omega, fun k hk => ?_⟩ | refine ⟨?_, ?_⟩ | fail))
    rw [show claimBs c 0 = claimB0 c by rw [claimBs, hashesL_zero]; exact List.append_nil _, claimB0]
    simp only [Nat.zero_add]
    refine rowB_joinL (by simp only [List.length_append, numL_length, H8.l_len]; rfl) (rowB_joinL (by simp only [List.length_append, numL_length, H8.l_len]; rfl) (rowB_joinL (by simp only [List.length_append, numL_length, H8.l_len]) (rowB_joinL (numL_length _ _).symm (fun _ _ => rfl) (fun _ _ => rfl)) (fun _ _ => rfl)) (fun _ _ => rfl)) (fun _ _ => rfl) k ?_
    simp only [List.length_append, numL_length, H8.l_len]
    exact hk
  rintro ⟨i, hi⟩
  dsimp only
  have hl := claimBs_len c i
  (refine Tri.cut 1 Tryz.mixed Tryz.T_ok ?_; ((conv => arg 5; whnf); repeat (refine xS ?_; conv => arg 5; whnf)))
  refine wC (fun h1 => ?_) (fun h1 => ?_)
  · (refine wGo ?_; ((conv => arg 5; whnf); repeat (refine xS ?_; conv => arg 5; whnf)))
    have h1' : i < 16 := (by (try simp only [ww] at *); omega)
    have hw : IntKind.i64.wrap ((i : Int) + 1) = ((i + 1 : Nat) : Int) := (by (try simp only [ww] at *); omega)
    refine wD <| cutG <| Tri.seq <| Tri.block <| Tri.of Tryz.mixed Tryz.T_ok ?_
    (refine wBegin ?_; ((conv => arg 5; whnf); repeat (refine xS ?_; conv => arg 5; whnf)))
    (repeat (refine wN ?_ ?_; exact (by (try simp only [ww] at *); omega); refine wGo ?_; ((conv => arg 5; whnf); repeat (refine xS ?_; conv => arg 5; whnf))))
    simp only [Nat.zero_add, Int.toNat_natCast]
    (refine wP _ _ (append_op Tryz.T_ok rfl rfl rfl rfl rfl [2, 1] (old_vec rfl rfl (Nat.le_refl _) rfl) (new_sla (g := rowB (c.proof i).l) rfl rfl rfl (fun _ _ => rfl) (tab_hash_at c.proof 12 (claim_cells_p c) h1' rfl (by omega) rfl)) rfl (fun _ _ => rfl) (by simp only [maxLen]; omega) (by dsimp only; omega)) ?_; ((conv => arg 5; whnf); repeat (refine xS ?_; conv => arg 5; whnf)))
    refine wD <| blockN <| cutG <| Tri.of Tryz.mixed Tryz.T_ok ?_
    (refine wBegin ?_; ((conv => arg 5; whnf); repeat (refine xS ?_; conv => arg 5; whnf)))
    refine wD <| loopN ⟨⟨i + 1, h1'⟩, by dsimp only; omega, ?_⟩
    rw [hw]
    dsimp only
    rw [rclSt, claimBs_succ]
    ((try dsimp only); refine Ent.renC [0, 1, 10] hC ?_ ?_ <;> repeat' (first | exact trivial | exact rfl | exact ⟨_, rfl, rfl, rfl, Nat.le_refl _, fun _ _ => rfl⟩ | exact ⟨_, rfl, rfl, rfl, fun _ _ => rfl⟩ | exact ⟨_, rfl, rfl, rfl⟩ | exact ⟨_, rfl, rfl⟩ | refine ⟨_, rfl, rfl, rfl, by omega, fun k hk => ?_⟩ | refine ⟨?_, ?_⟩ | fail))
    all_goals try exact Nat.le_refl _
    exact rowB_join hl.symm (fun _ _ => rfl) (fun _ _ => rfl) (by rw [hl]; exact hk)
  · (refine wGo ?_; ((conv => arg 5; whnf); repeat (refine xS ?_; conv => arg 5; whnf)))
    have h1' : i = 16 := (by (try simp only [ww] at *); omega)
    subst h1'
    refine wD <| cutE <| loopX <| blockX <| cutG <| Tri.of Tryz.mixed Tryz.T_ok ?_
    (refine wBegin ?_; ((conv => arg 5; whnf); repeat (refine xS ?_; conv => arg 5; whnf)))
    rw [← claimBs_all]
    exact wD (Ends.made (.inr rfl) (Ent.refl _) rfl (Nat.le_of_ble_eq_true rfl) rfl)
end Go.Proofs.YtnpkdoggfnlapaaGreatDoor
namespace Go.Proofs.YtnpkdoggfnlapaaGreatDoor
set_option maxRecDepth 100000
open Go.Sx
set_option maxHeartbeats 4000000 in
theorem rmayClaim_can (c : ClaimM) : Reads Tryz.prog 86 [.plain c.x] [] (XV.bool (claimOK c)) := by
  have bad : (claimOK c = true → False) → XV.bool false = XV.bool (claimOK c) := fun h => by
    cases hc : claimOK c with
    | false => rfl
    | true => exact (h hc).elim
  have hz := rzero_can c.st.owner
  refine Reads.of Tryz.T_ok Tryz.func86 rfl _ _ _ rfl rfl (fun C hC => ?_)
  (replace hC : C.n0 = 1 := hC; change Tri _ _ _ ⟨_, _, 1⟩ _)
  refine Tri.of Tryz.mixed Tryz.T_ok ?_
  (refine wBegin ?_; ((conv => arg 5; whnf); repeat (refine xS ?_; conv => arg 5; whnf)))
  refine wC (fun h1 => ?_) (fun h1 => ?_)
  rotate_left
  · (refine wGo ?_; ((conv => arg 5; whnf); repeat (refine xS ?_; conv => arg 5; whnf)))
    exact wD (Ends.plain (.inr rfl) rfl (bad fun h => by have := claimOK_iff.1 h; simp only [decide_eq_false_iff_not] at h1; omega))
  (refine wGo ?_; ((conv => arg 5; whnf); repeat (refine xS ?_; conv => arg 5; whnf)))
  refine wC (fun h2 => ?_) (fun h2 => ?_)
  rotate_left
  · (refine wGo ?_; ((conv => arg 5; whnf); repeat (refine xS ?_; conv => arg 5; whnf)))
    exact wD (Ends.plain (.inr rfl) rfl (bad fun h => by have := claimOK_iff.1 h; simp only [decide_eq_false_iff_not] at h2; omega))
  (refine wGo ?_; ((conv => arg 5; whnf); repeat (refine xS ?_; conv => arg 5; whnf)))
  refine wC (fun h3 => ?_) (fun h3 => ?_)
  rotate_left
  · (refine wGo ?_; ((conv => arg 5; whnf); repeat (refine xS ?_; conv => arg 5; whnf)))
    exact wD (Ends.plain (.inr rfl) rfl (bad fun h => by have := claimOK_iff.1 h; simp only [decide_eq_false_iff_not] at h3; omega))
  (refine wGo ?_; ((conv => arg 5; whnf); repeat (refine xS ?_; conv => arg 5; whnf)))
  refine wC (fun h4 => ?_) (fun h4 => ?_)
  rotate_left
  · (refine wGo ?_; ((conv => arg 5; whnf); repeat (refine xS ?_; conv => arg 5; whnf)))
    exact wD (Ends.plain (.inr rfl) rfl (bad fun h => by have := claimOK_iff.1 h; simp only [decide_eq_false_iff_not] at h4; omega))
  (refine wGo ?_; ((conv => arg 5; whnf); repeat (refine xS ?_; conv => arg 5; whnf)))
  (apply wP; exact (call_op rfl (entersB_of Tryz.func147 (by kernel_rfl)) rfl (hz.at [] ⟨lend_plain rfl, trivial⟩ trivial)); ((conv => arg 5; whnf); repeat (refine xS ?_; conv => arg 5; whnf)))
  refine wC (fun h5 => ?_) (fun h5 => ?_)
  rotate_left
  · (refine wGo ?_; ((conv => arg 5; whnf); repeat (refine xS ?_; conv => arg 5; whnf)))
    exact wD (Ends.plain (.inr rfl) rfl (bad fun h => by have := (claimOK_iff.1 h).2.2.1; rw [this] at h5; cases h5))
  (refine wGo ?_; ((conv => arg 5; whnf); repeat (refine xS ?_; conv => arg 5; whnf)))
  refine wC (fun h6 => ?_) (fun h6 => ?_)
  rotate_left
  · (refine wGo ?_; ((conv => arg 5; whnf); repeat (refine xS ?_; conv => arg 5; whnf)))
    exact wD (Ends.plain (.inr rfl) rfl (bad fun h => by have := claimOK_iff.1 h; simp only [decide_eq_false_iff_not] at h6; omega))
  (refine wGo ?_; ((conv => arg 5; whnf); repeat (refine xS ?_; conv => arg 5; whnf)))
  refine wC (fun h7 => ?_) (fun h7 => ?_)
  rotate_left
  · (refine wGo ?_; ((conv => arg 5; whnf); repeat (refine xS ?_; conv => arg 5; whnf)))
    exact wD (Ends.plain (.inr rfl) rfl (bad fun h => by have := claimOK_iff.1 h; simp only [decide_eq_false_iff_not] at h7; omega))
  (refine wGo ?_; ((conv => arg 5; whnf); repeat (refine xS ?_; conv => arg 5; whnf)))
  refine wC (fun h8 => ?_) (fun h8 => ?_)
  rotate_left
  · (refine wGo ?_; ((conv => arg 5; whnf); repeat (refine xS ?_; conv => arg 5; whnf)))
    exact wD (Ends.plain (.inr rfl) rfl (bad fun h => by have := claimOK_iff.1 h; simp only [decide_eq_false_iff_not] at h8; omega))
  (refine wGo ?_; ((conv => arg 5; whnf); repeat (refine xS ?_; conv => arg 5; whnf)))
  have e : decide (c.st.nonce ≤ 255) = claimOK c := by
    simp only [decide_eq_true_eq, Bool.not_eq_true'] at h1 h2 h3 h4 h5 h6 h7 h8
    rw [Bool.eq_iff_iff, decide_eq_true_eq, claimOK_iff]
    exact ⟨fun h => ⟨⟨by omega, by omega⟩, ⟨by omega, by omega⟩, h5, ⟨by omega, by omega⟩, by omega, by omega⟩, fun h => h.2.2.2.2.2⟩
  exact wD (Ends.plain (.inr rfl) rfl (congrArg (fun b : Bool => XV.bool b) e))
theorem noPar0 : Reads Tryz.prog 108 [.box par0.ac] [] (XV.bool true) := noPar_can par0 (Nat.zero_le _)
theorem noCert0 : Reads Tryz.prog 109 [.box cert0.ac] [] (XV.bool true) := by
  have h := noCert_can cert0 (Nat.zero_le _) (Nat.zero_le _)
  rw [show certZ cert0 = true by decide] at h
  exact h
set_option maxHeartbeats 4000000 in
theorem rmay5_can (c : ClaimM) : Reads Tryz.prog 57 [.box (claimTx c).ac] [] (XV.bool (claimOK c)) := by
  refine Reads.of Tryz.T_ok Tryz.func57 rfl _ _ _ rfl rfl (fun C hC => ?_)
  (replace hC : C.n0 = 6 := hC; change Tri _ _ _ ⟨_, _, 6⟩ _)
  refine Tri.of Tryz.mixed Tryz.T_ok ?_
  (refine wBegin ?_; ((conv => arg 5; whnf); repeat (refine xS ?_; conv => arg 5; whnf)))
  repeat (first | (refine wFd rfl ?_; refine wGo ?_; ((conv => arg 5; whnf); repeat (refine xS ?_; conv => arg 5; whnf))) | (refine wTd rfl ?_; refine wGo ?_; ((conv => arg 5; whnf); repeat (refine xS ?_; conv => arg 5; whnf))))
  (apply wP; exact (call_op rfl (entersB_of Tryz.func108 (by kernel_rfl)) rfl (noPar0.at [3] ⟨lend_par (p := par0) (lend_ro0 rfl rfl), trivial⟩ trivial)); ((conv => arg 5; whnf); repeat (refine xS ?_; conv => arg 5; whnf)))
  repeat (first | (refine wFd rfl ?_; refine wGo ?_; ((conv => arg 5; whnf); repeat (refine xS ?_; conv => arg 5; whnf))) | (refine wTd rfl ?_; refine wGo ?_; ((conv => arg 5; whnf); repeat (refine xS ?_; conv => arg 5; whnf))))
  (apply wP; exact (call_op rfl (entersB_of Tryz.func109 (by kernel_rfl)) rfl (noCert0.at [4, 5] ⟨lend_cert (c := cert0) (lend_ro0 rfl rfl) (lend_ro0 rfl rfl), trivial⟩ trivial)); ((conv => arg 5; whnf); repeat (refine xS ?_; conv => arg 5; whnf)))
  repeat (first | (refine wFd rfl ?_; refine wGo ?_; ((conv => arg 5; whnf); repeat (refine xS ?_; conv => arg 5; whnf))) | (refine wTd rfl ?_; refine wGo ?_; ((conv => arg 5; whnf); repeat (refine xS ?_; conv => arg 5; whnf))))
  (apply wP; exact (call_op rfl (entersB_of Tryz.func86 (by kernel_rfl)) rfl ((rmayClaim_can c).at [] ⟨lend_plain rfl, trivial⟩ trivial)); ((conv => arg 5; whnf); repeat (refine xS ?_; conv => arg 5; whnf)))
  exact wD (Ends.plain (.inr rfl) rfl rfl)
end Go.Proofs.YtnpkdoggfnlapaaGreatDoor
namespace Go.Proofs.YtnpkdoggfnlapaaGreatDoor
set_option maxRecDepth 100000
open Go.Sx
theorem claimEnc_len (c : ClaimM) : (claimEnc c).length = 148 := claimEncB_len c
theorem claimEnc_eq (c : ClaimM) : claimEnc c = numL 5 1 ++ (claimP c).flatten := rfl
theorem claimP_len (c : ClaimM) : (claimP c).flatten.length = 147 := by rw [← claimBs_all, claimBs_len]
set_option maxHeartbeats 4000000 in
theorem rencode5_can (c : ClaimM) (hc : claimOK c = true) : Makes Tryz.prog 44 [.box (claimTx c).ac] [] (.tup [.one (.slc 0 1 0 148), .one (.raw (.int .i64 0))]) (.vec 5 1 148 (rowB (claimEnc c))) := by
  have hmay := rmay5_can c
  rw [hc] at hmay
  refine Makes.of Tryz.T_ok Tryz.func44 rfl _ _ _ _ rfl rfl rfl rfl 30 (fun C hC => ?_)
  (replace hC : C.n0 = 6 := hC; change Tri _ _ _ ⟨_, _, 6⟩ _)
  refine Tri.of Tryz.mixed Tryz.T_ok ?_
  (refine wBegin ?_; ((conv => arg 5; whnf); repeat (refine xS ?_; conv => arg 5; whnf)))
  (apply wP; exact (call_op rfl (entersB_of Tryz.func57 (by kernel_rfl)) rfl (hmay.at [0, 1, 2, 3, 4, 5] ⟨lend_tx (t := claimTx c) (lend_ro0 rfl rfl) (lend_ro0 rfl rfl) (lend_ro0 rfl rfl) (lend_ro0 rfl rfl) (lend_ro0 rfl rfl) (lend_ro0 rfl rfl), trivial⟩ trivial)); ((conv => arg 5; whnf); repeat (refine xS ?_; conv => arg 5; whnf)))
  (apply wP; exact (call_op rfl (entersB_of Tryz.func72 (by kernel_rfl)) rfl ((num_can 5 1 (by decide)).at [] ⟨lend_plain rfl, lend_plain rfl, trivial⟩ trivial)); ((conv => arg 5; whnf); repeat (refine xS ?_; conv => arg 5; whnf)))
  repeat (first | (refine wFd rfl ?_; refine wGo ?_; ((conv => arg 5; whnf); repeat (refine xS ?_; conv => arg 5; whnf))) | (refine wTd rfl ?_; refine wGo ?_; ((conv => arg 5; whnf); repeat (refine xS ?_; conv => arg 5; whnf))))
  (apply wP; exact (call_op rfl (entersB_of Tryz.func94 (by kernel_rfl)) rfl ((rclaimB_can c).at [] ⟨lend_plain rfl, trivial⟩ trivial)); ((conv => arg 5; whnf); repeat (refine xS ?_; conv => arg 5; whnf)))
  (refine wP _ _ (append_op Tryz.T_ok rfl rfl rfl rfl rfl [14, 29] (old_vec rfl rfl (Nat.le_refl _) rfl) (new_vec (lo := 0) rfl rfl (Nat.le_of_eq (Nat.zero_add _)) rfl) rfl (fun _ _ => rfl) (by simp only [maxLen]; omega) (by dsimp only; omega)) ?_; ((conv => arg 5; whnf); repeat (refine xS ?_; conv => arg 5; whnf)))
  refine wD (Ends.made (.inr rfl) (Ent.chg0 (c := 30) (g := rowB (claimEnc c)) rfl ?_) rfl (Nat.le_of_ble_eq_true rfl) rfl)
  rw [claimEnc_eq]
  simp only [Nat.zero_add]
  intro k hk
  refine rowB_joinL (numL_length _ _).symm (fun _ _ => rfl) (fun _ _ => rfl) k ?_
  rw [List.length_append, numL_length, claimP_len]
  exact hk
set_option maxHeartbeats 4000000 in
theorem rid5_can (c : ClaimM) (hc : claimOK c = true) : Reads Tryz.prog 16 [.box (claimTx c).ac] [] (.tup [(claimID c).x, .one (.raw (.bool true))]) := by
  have hl := claimEnc_len c
  have hen := rencode5_can c hc
  rw [← hl] at hen
  refine Reads.of Tryz.T_ok Tryz.func16 rfl _ _ _ rfl rfl (fun C hC => ?_)
  (replace hC : C.n0 = 6 := hC; change Tri _ _ _ ⟨_, _, 6⟩ _)
  refine Tri.of Tryz.mixed Tryz.T_ok ?_
  (refine wBegin ?_; ((conv => arg 5; whnf); repeat (refine xS ?_; conv => arg 5; whnf)))
  (apply wP; exact (call_op rfl (entersB_of Tryz.func44 (by kernel_rfl)) rfl (hen.at [0, 1, 2, 3, 4, 5] ⟨lend_tx (t := claimTx c) (lend_ro0 rfl rfl) (lend_ro0 rfl rfl) (lend_ro0 rfl rfl) (lend_ro0 rfl rfl) (lend_ro0 rfl rfl) (lend_ro0 rfl rfl), trivial⟩ trivial)); ((conv => arg 5; whnf); repeat (refine xS ?_; conv => arg 5; whnf)))
  (refine wP _ _ (cellsNew_op Tryz.T_ok rfl rfl rfl) ?_; ((conv => arg 5; whnf); repeat (refine xS ?_; conv => arg 5; whnf)))
  (apply wP; exact (call_op rfl (entersB_of Tryz.func45 (by kernel_rfl)) rfl ((digest_can 120 [claimEnc c] (short1 _ _ (by omega))).at [10, 19] ⟨lend_plain rfl, lend_parts [claimEnc c] rfl rfl rfl ⟨lend_vec0 rfl rfl, trivial⟩, trivial⟩ trivial)); ((conv => arg 5; whnf); repeat (refine xS ?_; conv => arg 5; whnf)))
  exact wD (Ends.plain (.inr rfl) rfl rfl)
end Go.Proofs.YtnpkdoggfnlapaaGreatDoor
namespace Go.Proofs.YtnpkdoggfnlapaaGreatDoor
set_option maxRecDepth 100000
open Go.Lib Go.Sort
def bigL : List UInt8 → Nat
  | [] => 0
  | x :: r => x.toNat * 256 ^ r.length + bigL r
theorem bigL_lt : ∀ l : List UInt8, bigL l < 256 ^ l.length
  | [] => by simp [bigL]
  | x :: r => by
    have := bigL_lt r
    have h := x.toNat_lt
    simp only [bigL, List.length_cons, Nat.pow_succ]
    have : (x.toNat + 1) * 256 ^ r.length ≤ 256 * 256 ^ r.length := Nat.mul_le_mul_right _ (by omega)
    rw [Nat.add_mul, Nat.one_mul] at this
    omega
theorem num_step (x y : UInt8) (m a b : Nat) (ha : a < m) (hb : b < m) : (x.toNat * m + a < y.toNat * m + b ↔ x.toNat < y.toNat ∨ (x = y ∧ a < b)) ∧ (x.toNat * m + a = y.toNat * m + b ↔ x = y ∧ a = b) := by
  rcases Nat.lt_trichotomy x.toNat y.toNat with h | h | h
  · have h1 : (x.toNat + 1) * m ≤ y.toNat * m := Nat.mul_le_mul_right _ h
    rw [Nat.add_mul, Nat.one_mul] at h1
    have hne : x ≠ y := fun e => by rw [e] at h; omega
    exact ⟨⟨fun _ => .inl h, fun _ => by omega⟩, ⟨fun e => by omega, fun e => absurd e.1 hne⟩⟩
  · have e : x = y := UInt8.toNat_inj.1 h
    subst e
    exact ⟨⟨fun h => .inr ⟨rfl, by omega⟩, fun h => by rcases h with h | h <;> omega⟩, ⟨fun h => ⟨rfl, by omega⟩, fun h => by omega⟩⟩
  · have h1 : (y.toNat + 1) * m ≤ x.toNat * m := Nat.mul_le_mul_right _ h
    rw [Nat.add_mul, Nat.one_mul] at h1
    have hne : x ≠ y := fun e => by rw [e] at h; omega
    exact ⟨⟨fun _ => by omega, fun e => by rcases e with e | e; omega; exact absurd e.1 hne⟩, ⟨fun e => by omega, fun e => absurd e.1 hne⟩⟩
theorem bigL_inj : ∀ {a b : List UInt8}, a.length = b.length → bigL a = bigL b → a = b
  | [], [], _, _ => rfl
  | x :: a, y :: b, hl, h => by
    have hl' : a.length = b.length := by simpa using hl
    simp only [bigL, hl'] at h
    obtain ⟨rfl, h2⟩ := (num_step x y _ _ _ (hl' ▸ bigL_lt a) (bigL_lt b)).2.1 h
    rw [bigL_inj hl' h2]
theorem ltL_num : ∀ {a b : List UInt8}, a.length = b.length → (ltL a b = true ↔ bigL a < bigL b)
  | [], [], _ => by simp [ltL, bigL]
  | x :: a, y :: b, hl => by
    have hl' : a.length = b.length := by simpa using hl
    have h := (num_step x y _ _ _ (hl' ▸ bigL_lt a) (bigL_lt b)).1
    simp only [ltL, bigL, hl', h]
    by_cases e : x = y
    · subst e; simp [ltL_num hl']
    · simp [e, UInt8.lt_iff_toNat_lt]
def Pt.num (p : Pt) : Nat := bigL p.tx.l
theorem Pt.num_tx {p q : Pt} : p.num = q.num ↔ p.tx = q.tx := by
  constructor
  · intro h
    have h := bigL_inj (a := p.tx.l) (b := q.tx.l) rfl h
    obtain ⟨⟨_, _, _, _, _, _, _, _⟩, _⟩ := p
    obtain ⟨⟨_, _, _, _, _, _, _, _⟩, _⟩ := q
    simp only [H8.l, List.cons.injEq, and_true] at h
    obtain ⟨rfl, rfl, rfl, rfl, rfl, rfl, rfl, rfl⟩ := h
    rfl
  · intro h; simp only [Pt.num, h]
theorem ltPt_num (p q : Pt) : ltPt p q = true ↔ p.num < q.num ∨ (p.num = q.num ∧ p.no.toInt < q.no.toInt) := by
  unfold ltPt
  simp only [Bool.or_eq_true, Bool.and_eq_true, decide_eq_true_eq, ltL_num (a := p.tx.l) (b := q.tx.l) rfl, Pt.num_tx]
  rfl
theorem ltPt_false (p q : Pt) : ltPt p q = false ↔ ¬ (p.num < q.num ∨ (p.num = q.num ∧ p.no.toInt < q.no.toInt)) := by
  rw [← ltPt_num]; simp
theorem ltPt_swo : SWO ltPt where
  irrefl x := by rw [ltPt_false]; omega
  trans x y z h1 h2 := by rw [ltPt_num] at *; omega
  ntrans x y z h1 h2 := by rw [ltPt_false] at *; omega
theorem Pt.eq_of {p q : Pt} (h1 : p.num = q.num) (h2 : p.no.toInt = q.no.toInt) : p = q := by
  have h1 := Pt.num_tx.1 h1
  have h2 := Int64.toInt_inj.1 h2
  obtain ⟨_, _⟩ := p
  obtain ⟨_, _⟩ := q
  subst h1 h2
  rfl
theorem ltPt_total (x y : Pt) (h1 : ltPt x y = false) (h2 : ltPt y x = false) : x = y := by
  rw [ltPt_false] at *
  exact Pt.eq_of (by omega) (by omega)
end Go.Proofs.YtnpkdoggfnlapaaGreatDoor
namespace Go.Proofs.YtnpkdoggfnlapaaGreatDoor
set_option maxRecDepth 100000
open Go.Sx
theorem wrap_i64 {n : Int} (h1 : -9223372036854775808 ≤ n) (h2 : n < 9223372036854775808) : IntKind.i64.wrap n = n := by
  have e1 : IntKind.i64.bits = 64 := rfl
  have e2 : IntKind.i64.signed = true := rfl
  simp only [IntKind.wrap, e1, e2, Bool.true_and]
  split <;> rename_i h <;> simp only [ge_iff_le, decide_eq_true_eq] at h <;> omega
structure RC where
  P : List Pt
  C : List Coin
def RC.mem (R : RC) : Mem := [(0, .cells 78 [.slc 1 9 0 R.P.length, .slc 2 11 0 R.C.length]), (1, .vec 65 9 R.P.length fun i => (R.P.getD i default).cells), (2, .vec 162 11 R.C.length fun i => (R.C.getD i default).cells)]
def rcP (R : RC) : AbsP := packP R.mem True
def RC.empty : RC := ⟨[], []⟩
end Go.Proofs.YtnpkdoggfnlapaaGreatDoor
namespace Go.Proofs.YtnpkdoggfnlapaaGreatDoor
set_option maxRecDepth 100000
open Go.Sx
def RC.root (R : RC) (i1 i2 : Nat) : Chunk := .cells 78 [.slc i1 9 0 R.P.length, .slc i2 11 0 R.C.length]
def RC.vecP (R : RC) : Chunk := .vec 65 9 R.P.length fun i => (R.P.getD i default).cells
def RC.vecC (R : RC) : Chunk := .vec 162 11 R.C.length fun i => (R.C.getD i default).cells
theorem RC.mem_get {R : RC} {i : Nat} {ch : Chunk} (h : R.mem.get i = some ch) : (i = 0 ∧ ch = R.root 1 2) ∨ (i = 1 ∧ ch = R.vecP) ∨ (i = 2 ∧ ch = R.vecC) := by
  simp only [RC.mem, Mem.get, nbeq] at h
  by_cases h0 : 0 = i
  · subst h0; simp at h; exact .inl ⟨rfl, h.symm⟩
  · by_cases h1 : 1 = i
    · subst h1; simp at h; exact .inr (.inl ⟨rfl, h.symm⟩)
    · by_cases h2 : 2 = i
      · subst h2; simp at h; exact .inr (.inr ⟨rfl, h.symm⟩)
      · simp [h0, h1, h2] at h
theorem rc_reads {f : FuncId} {fn : Func} {body : Code} (hf : Tryz.prog.funcs[f]? = some fn) (hb : fn.body = some body) (R : RC) (Xl : List CV) (X : XV) (hXl : Xl.all (CV.ok fun _ => false) = true) (hX : X.ok (fun _ => false) = true) {M : Mem} {c i1 i2 d : Nat}
    (k0 : M.get c = some (R.root i1 i2)) (k1 : M.get i1 = some R.vecP) (k2 : M.get i2 = some R.vecC) (hdist : (Nat.beq c i1 || Nat.beq c i2 || Nat.beq i1 i2) = false) (hd : (Nat.beq d c || Nat.beq d i1 || Nat.beq d i2) = false)
    (h : ∀ C : Ctx, C.n0 = 3 → Tri Tryz.prog C body ⟨slots0 fn.ntmps (.cv (.one (.ptr 0 0 0 0)) :: Xl.map .cv), R.mem, 3⟩ (Sx.Ends C Tryz.T fn.results.toList 3 3 ⟨X, R.mem, none⟩)) :
    CallSpec Tryz.prog f (.one (.ptr c 0 0 0) :: Xl) M d { v := X, upd := [(c, R.root i1 i2), (i1, R.vecP), (i2, R.vecC)], wr := [c, i1, i2] } [c, i1, i2] := by
  simp only [Bool.or_eq_false_iff, nbeq, decide_eq_false_iff_not] at hdist hd
  obtain ⟨⟨n1, n2⟩, n3⟩ := hdist
  obtain ⟨⟨m1, m2⟩, m3⟩ := hd
  refine spec_of_open (ids := [c, i1, i2]) (rids := []) (k1 := 3) (n0 := 3) (Xl := .one (.ptr 0 0 0 0) :: Xl) (M0 := R.mem) (out := ⟨X, R.mem, none⟩) Tryz.T_ok hf hb (by simp [n1, n2, n3]) rfl rfl (by simp [m1, m2, m3]) ?_ (fun i ch hi => ?_) (fun i ch hi => ?_) (fun i ch hi => by cases hi) (XV.ok_mono (fun _ h => by cases h) hX) h ?_ (XV.ren_closed hX).symm rfl (fun q ch hq => ?_)
  · simp only [List.all_cons, Bool.and_eq_true]
    refine ⟨by simp [CV.ok, SV.ok], ?_⟩
    simp only [List.all_eq_true] at hXl ⊢
    exact fun s hs => CV.ok_mono (fun _ h => by cases h) (hXl s hs)
  · rcases RC.mem_get hi with ⟨rfl, rfl⟩ | ⟨rfl, rfl⟩ | ⟨rfl, rfl⟩
    · exact ⟨by decide, rfl, fun h => by omega, fun ci hci => by simp at hci; subst hci; exact k0⟩
    · exact ⟨by decide, rfl, fun h => by omega, fun ci hci => by simp at hci; subst hci; exact k1⟩
    · exact ⟨by decide, rfl, fun h => by omega, fun ci hci => by simp at hci; subst hci; exact k2⟩
  · rcases RC.mem_get hi with ⟨rfl, rfl⟩ | ⟨rfl, rfl⟩ | ⟨rfl, rfl⟩ <;> exact ⟨rfl, rfl⟩
  · simp only [List.map_cons, CVs.ren_closed hXl]
    rfl
  · simp only [Mem.get, nbeq] at hq
    by_cases e0 : c = q
    · subst e0; simp at hq; subst hq; exact ⟨R.root 1 2, rfl, .inl ⟨0, rfl, rfl⟩⟩
    · by_cases e1 : i1 = q
      · subst e1; simp [e0] at hq; subst hq; exact ⟨R.vecP, rfl, .inl ⟨1, rfl, rfl⟩⟩
      · by_cases e2 : i2 = q
        · subst e2; simp [e0, e1] at hq; subst hq; exact ⟨R.vecC, rfl, .inl ⟨2, rfl, rfl⟩⟩
        · simp [e0, e1, e2] at hq
def RC.sumN (R : RC) : Nat → Int
  | 0 => 0
  | i + 1 => IntKind.i64.wrap (R.sumN i + (R.C.getD i default).amt.toInt)
def rcTotalSt (R : RC) (i : Nat) : St := ⟨[some (XV.sv (.ptr 0 0 0 0)), none, none, some (XV.int .i64 (R.sumN i)), some (XV.int .i64 i)] ++ List.replicate 21 none, R.mem, 3⟩
set_option maxHeartbeats 1000000 in
set_option maxRecDepth 100000 in
theorem rcTotal_spec (R : RC) (hlen : R.C.length < 1000000) {M : Mem} {c i1 i2 d : Nat} (k0 : M.get c = some (R.root i1 i2)) (k1 : M.get i1 = some R.vecP) (k2 : M.get i2 = some R.vecC) (hdist : (Nat.beq c i1 || Nat.beq c i2 || Nat.beq i1 i2) = false) (hd : (Nat.beq d c || Nat.beq d i1 || Nat.beq d i2) = false) :
    CallSpec Tryz.prog 80 [.one (.ptr c 0 0 0)] M d { v := XV.int .i64 (R.sumN R.C.length), upd := [(c, R.root i1 i2), (i1, R.vecP), (i2, R.vecC)], wr := [c, i1, i2] } [c, i1, i2] := by
  refine rc_reads Tryz.func80 rfl R [] _ rfl rfl k0 k1 k2 hdist hd (fun C hC => ?_)
  have hC0 : ∀ i, i < C.n0 → ([0, 1, 2] : List Nat)[i]? = some i := fun i hi => by
    rw [hC] at hi
    match i, hi with
    | 0, _ => rfl
    | 1, _ => rfl
    | 2, _ => rfl
  have hC1 : C.n0 ≤ 3 := by rw [hC]; decide
  (refine Tri.cut 2 Tryz.mixed Tryz.T_ok ?_; ((conv => arg 5; whnf); repeat (refine xS ?_; conv => arg 5; whnf)))
  refine wD <| cutG <| Tri.seq ?_
  (refine Tri.cut 1 Tryz.mixed Tryz.T_ok ?_; ((conv => arg 5; whnf); repeat (refine xS ?_; conv => arg 5; whnf)))
  refine wD <| cutG <| Tri.block ?_
  refine Tri.loop (α := { i : Nat // i ≤ R.C.length }) (fun i => rcTotalSt R i.1) (fun i => R.C.length - i.1) ⟨0, Nat.zero_le _⟩ ?_ ?_
  · exact Ent.ren [0, 1, 2] (by decide) rfl hC0 hC1 rfl ⟨rfl, rfl, rfl, trivial⟩ ⟨⟨_, rfl, rfl, rfl⟩, ⟨_, rfl, rfl, rfl, Nat.le_refl _, fun _ _ => rfl⟩, ⟨_, rfl, rfl, rfl, Nat.le_refl _, fun _ _ => rfl⟩, trivial⟩
  rintro ⟨i, hi⟩
  dsimp only
  (refine Tri.cut 1 Tryz.mixed Tryz.T_ok ?_; ((conv => arg 5; whnf); repeat (refine xS ?_; conv => arg 5; whnf)))
  refine wC (fun h1 => ?_) (fun h1 => ?_)
  · (refine wGo ?_; ((conv => arg 5; whnf); repeat (refine xS ?_; conv => arg 5; whnf)))
    have h1' : i < R.C.length := by simp only [decide_eq_true_eq] at h1; omega
    refine wD <| cutG <| Tri.seq <| Tri.block <| Tri.of Tryz.mixed Tryz.T_ok ?_
    (refine wBegin ?_; ((conv => arg 5; whnf); repeat (refine xS ?_; conv => arg 5; whnf)))
    refine wN ⟨by omega, by omega⟩ ?_
    (refine wGo ?_; ((conv => arg 5; whnf); repeat (refine xS ?_; conv => arg 5; whnf)))
    refine wN (by omega) ?_
    (refine wGo ?_; ((conv => arg 5; whnf); repeat (refine xS ?_; conv => arg 5; whnf)))
    refine wD <| blockN <| cutG <| Tri.of Tryz.mixed Tryz.T_ok ?_
    (refine wBegin ?_; ((conv => arg 5; whnf); repeat (refine xS ?_; conv => arg 5; whnf)))
    have hw : IntKind.i64.wrap ((i : Int) + 1) = ((i + 1 : Nat) : Int) := by rw [wrap_i64 (by omega) (by omega)]; omega
    have hg : R.C.getD (0 + ((i : Nat) : Int).toNat) default = R.C.getD i default := by simp
    have hsum : IntKind.i64.wrap (R.sumN i + (R.C.getD (0 + ((i : Nat) : Int).toNat) default).amt.toInt) = R.sumN (i + 1) := by rw [hg]; rfl
    refine wD <| loopN ⟨⟨i + 1, h1'⟩, by dsimp only; omega, ?_⟩
    exact Ent.ren [0, 1, 2] (by decide) rfl hC0 hC1 rfl ⟨rfl, congrArg (fun n : Int => some (XV.int .i64 n)) hsum, congrArg (fun n : Int => some (XV.int .i64 n)) hw, trivial⟩ ⟨⟨_, rfl, rfl, rfl⟩, ⟨_, rfl, rfl, rfl, Nat.le_refl _, fun _ _ => rfl⟩, ⟨_, rfl, rfl, rfl, Nat.le_refl _, fun _ _ => rfl⟩, trivial⟩
  · (refine wGo ?_; ((conv => arg 5; whnf); repeat (refine xS ?_; conv => arg 5; whnf)))
    have h1' : i = R.C.length := by simp only [decide_eq_false_iff_not] at h1; omega
    subst h1'
    refine wD <| cutE <| loopX <| blockX <| cutG <| Tri.of Tryz.mixed Tryz.T_ok ?_
    (refine wBegin ?_; ((conv => arg 5; whnf); repeat (refine xS ?_; conv => arg 5; whnf)))
    refine wD ⟨.inr rfl, _, Ent.refl _, rfl, fun j ch hj => ?_, fun j ch hj => by cases hj⟩
    rcases RC.mem_get hj with ⟨rfl, rfl⟩ | ⟨rfl, rfl⟩ | ⟨rfl, rfl⟩ <;> exact ⟨by decide, rfl⟩
def posIn (p : Pt) : List Pt → Nat
  | [] => 0
  | q :: r => if ltPt q p = true then posIn p r + 1 else 0
def RC.pos (R : RC) (p : Pt) : Nat := posIn p R.P
def RC.isAt (R : RC) (p : Pt) : Bool := decide (R.pos p < R.P.length) && decide (R.P.getD (R.pos p) default = p)
def rcAtSt (R : RC) (p : Pt) (i : Nat) : St := ⟨[some (XV.sv (.ptr 0 0 0 0)), none, none, some (XV.sv (.ptr 3 0 0 0)), some (XV.int .i64 (0 : Int)), some (XV.bool false), some (XV.int .i64 i)] ++ List.replicate 34 none, R.mem ++ [(3, .cells 65 (p.cells.map .raw))], 4⟩
set_option maxHeartbeats 1000000 in
set_option maxRecDepth 100000 in
theorem rcAt_spec (R : RC) (p : Pt) (hlen : R.P.length < 1000000) {M : Mem} {c i1 i2 d : Nat} (k0 : M.get c = some (R.root i1 i2)) (k1 : M.get i1 = some R.vecP) (k2 : M.get i2 = some R.vecC) (hdist : (Nat.beq c i1 || Nat.beq c i2 || Nat.beq i1 i2) = false) (hd : (Nat.beq d c || Nat.beq d i1 || Nat.beq d i2) = false) :
    CallSpec Tryz.prog 159 [.one (.ptr c 0 0 0), p.cv] M d { v := .tup [.one (.raw (.int .i64 (R.pos p))), .one (.raw (.bool (R.isAt p)))], upd := [(c, R.root i1 i2), (i1, R.vecP), (i2, R.vecC)], wr := [c, i1, i2] } [c, i1, i2] := by
  refine rc_reads Tryz.func159 rfl R [p.cv] _ rfl rfl k0 k1 k2 hdist hd (fun C hC => ?_)
  have hC0 : ∀ i, i < C.n0 → ([0, 1, 2, 3] : List Nat)[i]? = some i := fun i hi => by
    rw [hC] at hi
    match i, hi with
    | 0, _ => rfl
    | 1, _ => rfl
    | 2, _ => rfl
  have hC1 : C.n0 ≤ 4 := by rw [hC]; decide
  (refine Tri.cut 1 Tryz.mixed Tryz.T_ok ?_; ((conv => arg 5; whnf); repeat (refine xS ?_; conv => arg 5; whnf)))
  refine wD <| cutG <| Tri.seq ?_
  (refine Tri.cut 1 Tryz.mixed Tryz.T_ok ?_; ((conv => arg 5; whnf); repeat (refine xS ?_; conv => arg 5; whnf)))
  refine wD <| cutG <| Tri.block ?_
  refine Tri.loop (α := { i : Nat // i ≤ R.P.length ∧ R.pos p = i + posIn p (R.P.drop i) }) (fun i => rcAtSt R p i.1) (fun i => R.P.length - i.1) ⟨0, Nat.zero_le _, by simp [RC.pos]⟩ ?_ ?_
  · exact Ent.ren [0, 1, 2, 3] (by decide) rfl hC0 hC1 rfl ⟨rfl, rfl, rfl, rfl, rfl, trivial⟩ ⟨⟨_, rfl, rfl, rfl⟩, ⟨_, rfl, rfl, rfl, Nat.le_refl _, fun _ _ => rfl⟩, ⟨_, rfl, rfl, rfl, Nat.le_refl _, fun _ _ => rfl⟩, ⟨_, rfl, rfl, rfl⟩, trivial⟩
  rintro ⟨i, hi, hpos⟩
  dsimp only
  (refine Tri.cut 1 Tryz.mixed Tryz.T_ok ?_; ((conv => arg 5; whnf); repeat (refine xS ?_; conv => arg 5; whnf)))
  refine wC (fun h1 => ?_) (fun h1 => ?_)
  · (refine wGo ?_; ((conv => arg 5; whnf); repeat (refine xS ?_; conv => arg 5; whnf)))
    have h1' : i < R.P.length := by simp only [decide_eq_true_eq] at h1; omega
    have hdrop : R.P.drop i = R.P.getD i default :: R.P.drop (i + 1) := by
      rw [List.drop_eq_getElem_cons h1']
      simp [List.getD_eq_getElem?_getD, h1']
    have hg : R.P.getD (0 + ((i : Nat) : Int).toNat) default = R.P.getD i default := by simp
    refine wD <| cutG <| Tri.seq <| Tri.block <| Tri.of Tryz.mixed Tryz.T_ok ?_
    (refine wBegin ?_; ((conv => arg 5; whnf); repeat (refine xS ?_; conv => arg 5; whnf)))
    refine wN ⟨by omega, by omega⟩ ?_
    (refine wGo ?_; ((conv => arg 5; whnf); repeat (refine xS ?_; conv => arg 5; whnf)))
    refine wN (by omega) ?_
    (refine wGo ?_; ((conv => arg 5; whnf); repeat (refine xS ?_; conv => arg 5; whnf)))
    (apply wP; exact (call_op rfl (entersB_of Tryz.func193 (by kernel_rfl)) rfl (lessPoint_spec (R.P.getD (0 + ((i : Nat) : Int).toNat) default) p _ _)); ((conv => arg 5; whnf); repeat (refine xS ?_; conv => arg 5; whnf)))
    refine wC (fun h2 => ?_) (fun h2 => ?_)
    · (refine wGo ?_; ((conv => arg 5; whnf); repeat (refine xS ?_; conv => arg 5; whnf)))
      refine wN ⟨by omega, by omega⟩ ?_
      (refine wGo ?_; ((conv => arg 5; whnf); repeat (refine xS ?_; conv => arg 5; whnf)))
      refine wN (by omega) ?_
      (refine wGo ?_; ((conv => arg 5; whnf); repeat (refine xS ?_; conv => arg 5; whnf)))
      (refine wP _ _ (eq_op ptE rfl (R.P.getD (0 + ((i : Nat) : Int).toNat) default) p rfl rfl) ?_; ((conv => arg 5; whnf); repeat (refine xS ?_; conv => arg 5; whnf)))
      simp only [Bool.not_eq_true'] at h2
      rw [hg] at h2
      have hp : R.pos p = i := by rw [hpos, hdrop, posIn, if_neg (by rw [h2]; simp)]; rfl
      refine wD <| blockR <| cutR <| loopR <| blockR <| cutR ⟨.inr rfl, _, Ent.refl _, ?_, fun j ch hj => ?_, fun j ch hj => by cases hj⟩
      · have hx : R.isAt p = decide (R.P.getD (0 + ((i : Nat) : Int).toNat) default = p) := by simp only [RC.isAt, hp, hg, h1', decide_true, Bool.true_and]
        rw [hx, hp]
        rfl
      · rcases RC.mem_get hj with ⟨rfl, rfl⟩ | ⟨rfl, rfl⟩ | ⟨rfl, rfl⟩ <;> exact ⟨by decide, rfl⟩
    · (refine wGo ?_; ((conv => arg 5; whnf); repeat (refine xS ?_; conv => arg 5; whnf)))
      simp only [Bool.not_eq_false'] at h2
      rw [hg] at h2
      have hw : IntKind.i64.wrap ((i : Int) + 1) = ((i + 1 : Nat) : Int) := by rw [wrap_i64 (by omega) (by omega)]; omega
      refine wD <| blockN <| cutG <| Tri.of Tryz.mixed Tryz.T_ok ?_
      (refine wBegin ?_; ((conv => arg 5; whnf); repeat (refine xS ?_; conv => arg 5; whnf)))
      refine wD <| loopN ⟨⟨i + 1, h1', by rw [hpos, hdrop, posIn, if_pos h2]; omega⟩, by dsimp only; omega, ?_⟩
      exact Ent.ren [0, 1, 2, 3] (by decide) rfl hC0 hC1 rfl ⟨rfl, rfl, rfl, rfl, congrArg (fun n : Int => some (XV.int .i64 n)) hw, trivial⟩ ⟨⟨_, rfl, rfl, rfl⟩, ⟨_, rfl, rfl, rfl, Nat.le_refl _, fun _ _ => rfl⟩, ⟨_, rfl, rfl, rfl, Nat.le_refl _, fun _ _ => rfl⟩, ⟨_, rfl, rfl, rfl⟩, trivial⟩
  · (refine wGo ?_; ((conv => arg 5; whnf); repeat (refine xS ?_; conv => arg 5; whnf)))
    have h1' : i = R.P.length := by simp only [decide_eq_false_iff_not] at h1; omega
    have hp : R.pos p = R.P.length := by rw [hpos, h1', List.drop_length]; rfl
    refine wD <| cutE <| loopX <| blockX <| cutG <| Tri.of Tryz.mixed Tryz.T_ok ?_
    (refine wBegin ?_; ((conv => arg 5; whnf); repeat (refine xS ?_; conv => arg 5; whnf)))
    refine wD ⟨.inr rfl, _, Ent.refl _, ?_, fun j ch hj => ?_, fun j ch hj => by cases hj⟩
    · have hx : R.isAt p = false := by simp [RC.isAt, hp]
      rw [hx, hp]
      rfl
    · rcases RC.mem_get hj with ⟨rfl, rfl⟩ | ⟨rfl, rfl⟩ | ⟨rfl, rfl⟩ <;> exact ⟨by decide, rfl⟩
end Go.Proofs.YtnpkdoggfnlapaaGreatDoor
namespace Go.Proofs.YtnpkdoggfnlapaaGreatDoor
set_option maxRecDepth 100000
open Go.Sx
theorem RC.opens {P : Program} {C : Ctx} {cd : Code} {slots : List (Option XV)} {mem : Mem} {nx : Nat} {Q : Exit → St → Prop} (R : RC) (c : Nat) (hc : mem.get c = some (.abs (rcP R)))
    (h : Tri P C cd ⟨slots, (c, R.root (nx + 1) (nx + 2)) :: (nx + 1, R.vecP) :: (nx + 2, R.vecC) :: mem.del c, nx + 3⟩ Q) : Tri P C cd ⟨slots, mem, nx⟩ Q :=
  Tri.opens (M := R.mem) (m := 3) (inv := True) (c := c) hc rfl fun _ => h
theorem RC.shuts {C : Ctx} {slots : List (Option XV)} {mem : Mem} {nx : Nat} (R : RC) (c : Nat) {i1 i2 m1 m2 n1 n2 : Nat} {f g : Nat → List Value}
    (k0 : mem.get c = some (.cells 78 [.slc i1 9 0 m1, .slc i2 11 0 m2])) (k1 : mem.get i1 = some (.vec 65 9 n1 f)) (k2 : mem.get i2 = some (.vec 162 11 n2 g))
    (hids : (Nat.beq c i1 || Nat.beq c i2 || Nat.beq i1 i2) = false) (hm1 : m1 = R.P.length) (hm2 : m2 = R.C.length) (hl1 : R.P.length ≤ n1) (hl2 : R.C.length ≤ n2) (hf : ∀ i, i < R.P.length → f i = (R.P.getD i default).cells) (hg : ∀ i, i < R.C.length → g i = (R.C.getD i default).cells) :
    Ent C ⟨slots, mem, nx⟩ ⟨slots, (c, .abs (rcP R)) :: mem.dels [c, i1, i2], nx⟩ := by
  subst hm1 hm2
  exact Ent.shut3 (S := ⟨slots, mem, nx⟩) (M := R.mem) (inv := True) hids trivial rfl rfl rfl rfl k0 k1 k2 rfl ⟨rfl, rfl⟩ ⟨rfl, rfl, hl1, hf⟩ ⟨rfl, rfl, hl2, hg⟩
end Go.Proofs.YtnpkdoggfnlapaaGreatDoor
namespace Go.Proofs.YtnpkdoggfnlapaaGreatDoor
set_option maxRecDepth 100000
open Go.Sx
theorem posIn_le (p : Pt) : ∀ l : List Pt, posIn p l ≤ l.length
  | [] => Nat.le_refl _
  | q :: r => by
    simp only [posIn]
    split
    · have := posIn_le p r; simp; omega
    · simp
theorem insRowF {E : Type} (cells : E → List Value) (dflt : E) (l : List E) (k : Nat) (hk : k ≤ l.length) (x : E) (i : Nat) (hi : i < l.length + 1) :
    joinF (snocF (joinF (fun _ => []) 0 (fun q => cells (l.getD (0 + q) dflt))) (0 + k) (cells x)) (0 + k + 1) (fun q => cells (l.getD (0 + k + q) dflt)) i = cells ((l.take k ++ x :: l.drop k).getD i dflt) := by
  simp only [joinF, snocF, nblt, Nat.zero_add]
  by_cases h1 : i < k
  · have h2 : i < k + 1 := by omega
    have h3 : ¬ i < 0 := by omega
    simp only [h1, h2, h3, decide_true, decide_false, cond_true, cond_false, Nat.sub_zero]
    have : (l.take k ++ x :: l.drop k)[i]? = l[i]? := by
      rw [List.getElem?_append_left (by rw [List.length_take]; omega), List.getElem?_take, if_pos h1]
    simp [List.getD_eq_getElem?_getD, this]
  · by_cases h2 : i < k + 1
    · have h4 : i = k := by omega
      subst h4
      simp only [h2, Nat.lt_irrefl, decide_true, decide_false, cond_true, cond_false]
      have : (l.take i ++ x :: l.drop i)[i]? = some x := by
        rw [List.getElem?_append_right (by rw [List.length_take]; omega), List.length_take]
        have : i - min i l.length = 0 := by omega
        rw [this]; rfl
      simp [List.getD_eq_getElem?_getD, this]
    · simp only [h2, decide_false, cond_false]
      have : (l.take k ++ x :: l.drop k)[i]? = l[k + (i - (k + 1))]? := by
        rw [List.getElem?_append_right (by rw [List.length_take]; omega), List.length_take]
        have : i - min k l.length = (i - (k + 1)) + 1 := by omega
        rw [this, List.getElem?_cons_succ, List.getElem?_drop]
      simp [List.getD_eq_getElem?_getD, this]
def RC.okB (R : RC) (p : Pt) (c : Coin) : Bool := !(R.isAt p) && !(decide (p.no.toInt < 0)) && !(decide (255 < p.no.toInt)) && !(decide (c.amt.toInt < 1)) && !(decide (1125899906842624 < c.amt.toInt)) && !(decide (IntKind.i64.wrap (1125899906842624 - c.amt.toInt) < R.sumN R.C.length))
def RC.add1 (R : RC) (p : Pt) (c : Coin) : RC := ⟨R.P.take (R.pos p) ++ p :: R.P.drop (R.pos p), R.C.take (R.pos p) ++ c :: R.C.drop (R.pos p)⟩
def RC.add (R : RC) (p : Pt) (c : Coin) : RC := if R.okB p c = true then R.add1 p c else R
theorem RC.ends {C : Ctx} {T : TyTab} {rs : List ResultVar} {X X' : XV} {e : Exit} {slots : List (Option XV)} {mem : Mem} {nx : Nat} {R0 : RC} (R : RC) {i1 i2 m1 m2 n1 n2 : Nat} {f g : Nat → List Value} (he : e = .normal ∨ e = .ret)
    (k0 : mem.get 0 = some (.cells 78 [.slc i1 9 0 m1, .slc i2 11 0 m2])) (k1 : mem.get i1 = some (.vec 65 9 n1 f)) (k2 : mem.get i2 = some (.vec 162 11 n2 g))
    (hids : (Nat.beq 0 i1 || Nat.beq 0 i2 || Nat.beq i1 i2) = false) (hr : resX T ⟨slots, (0, .abs (rcP R)) :: mem.dels [0, i1, i2], nx⟩ rs = some X') (hX : X' = X) (hR : R = R0) (hm1 : m1 = R.P.length) (hm2 : m2 = R.C.length) (hl1 : R.P.length ≤ n1) (hl2 : R.C.length ≤ n2)
    (hf : ∀ i, i < R.P.length → f i = (R.P.getD i default).cells) (hg : ∀ i, i < R.C.length → g i = (R.C.getD i default).cells) : Sx.Ends C T rs 1 1 ⟨X, [(0, .abs (rcP R0))], none⟩ e ⟨slots, mem, nx⟩ := by
  subst hX hR
  refine ⟨he, _, RC.shuts R 0 k0 k1 k2 hids hm1 hm2 hl1 hl2 hf hg, hr, fun i ch h => ?_, fun i ch h => by cases h⟩
  simp only [Mem.get, nbeq] at h
  by_cases hk : 0 = i
  · subst hk
    simp only [decide_true, cond_true, Option.some.injEq] at h
    exact ⟨by omega, by rw [← h]; rfl⟩
  · simp [hk] at h
set_option maxHeartbeats 2000000 in
set_option maxRecDepth 100000 in
theorem rcAdd_spec (R : RC) (p : Pt) (c : Coin) (hPC : R.P.length = R.C.length) (hlen : R.P.length < 1000000) {M : Mem} {c0 d : Nat} (hM : M.get c0 = some (.abs (rcP R))) (hd : Nat.beq d c0 = false) : CallSpec Tryz.prog 115 [.one (.ptr c0 0 0 0), p.cv, c.cv] M d { v := XV.bool (R.okB p c), upd := [(c0, .abs (rcP (R.add p c)))], wr := [c0] } [c0] := by
  refine spec_obj Tryz.T_ok Tryz.func115 rfl [p.cv, c.cv] (XV.bool (R.okB p c)) rfl rfl hM hd (fun C _ => ?_)
  refine RC.opens R 0 rfl ?_
  have hpl : R.pos p ≤ R.P.length := posIn_le p R.P
  (refine Tri.cut 3 Tryz.mixed Tryz.T_ok ?_; ((conv => arg 5; whnf); repeat (refine xS ?_; conv => arg 5; whnf)))
  (apply wP; exact (call_op rfl (entersB_of Tryz.func159 (by kernel_rfl)) rfl (rcAt_spec R p hlen rfl rfl rfl rfl rfl)); ((conv => arg 5; whnf); repeat (refine xS ?_; conv => arg 5; whnf)))
  refine wC (fun h1 => ?_) (fun h1 => ?_)
  · (refine wGo ?_; ((conv => arg 5; whnf); repeat (refine xS ?_; conv => arg 5; whnf)))
    refine wD <| cutR (RC.ends R (.inr rfl) rfl rfl rfl rfl rfl ?_ ?_ rfl rfl (Nat.le_refl _) (Nat.le_refl _) (fun _ _ => rfl) (fun _ _ => rfl))
    · simp [RC.okB, h1]
    · simp [RC.add, RC.okB, h1]
  (refine wGo ?_; ((conv => arg 5; whnf); repeat (refine xS ?_; conv => arg 5; whnf)))
  refine wC (fun h2 => ?_) (fun h2 => ?_)
  · (refine wGo ?_; ((conv => arg 5; whnf); repeat (refine xS ?_; conv => arg 5; whnf)))
    refine wD <| cutR (RC.ends R (.inr rfl) rfl rfl rfl rfl rfl ?_ ?_ rfl rfl (Nat.le_refl _) (Nat.le_refl _) (fun _ _ => rfl) (fun _ _ => rfl))
    · simp [RC.okB, h2]
    · simp [RC.add, RC.okB, h2]
  (refine wGo ?_; ((conv => arg 5; whnf); repeat (refine xS ?_; conv => arg 5; whnf)))
  refine wC (fun h3 => ?_) (fun h3 => ?_)
  · (refine wGo ?_; ((conv => arg 5; whnf); repeat (refine xS ?_; conv => arg 5; whnf)))
    refine wD <| cutR (RC.ends R (.inr rfl) rfl rfl rfl rfl rfl ?_ ?_ rfl rfl (Nat.le_refl _) (Nat.le_refl _) (fun _ _ => rfl) (fun _ _ => rfl))
    · simp [RC.okB, h3]
    · simp [RC.add, RC.okB, h3]
  (refine wGo ?_; ((conv => arg 5; whnf); repeat (refine xS ?_; conv => arg 5; whnf)))
  refine wC (fun h4 => ?_) (fun h4 => ?_)
  · (refine wGo ?_; ((conv => arg 5; whnf); repeat (refine xS ?_; conv => arg 5; whnf)))
    refine wD <| cutR (RC.ends R (.inr rfl) rfl rfl rfl rfl rfl ?_ ?_ rfl rfl (Nat.le_refl _) (Nat.le_refl _) (fun _ _ => rfl) (fun _ _ => rfl))
    · simp [RC.okB, h4]
    · simp [RC.add, RC.okB, h4]
  (refine wGo ?_; ((conv => arg 5; whnf); repeat (refine xS ?_; conv => arg 5; whnf)))
  refine wC (fun h5 => ?_) (fun h5 => ?_)
  · (refine wGo ?_; ((conv => arg 5; whnf); repeat (refine xS ?_; conv => arg 5; whnf)))
    refine wD <| cutR (RC.ends R (.inr rfl) rfl rfl rfl rfl rfl ?_ ?_ rfl rfl (Nat.le_refl _) (Nat.le_refl _) (fun _ _ => rfl) (fun _ _ => rfl))
    · simp [RC.okB, h5]
    · simp [RC.add, RC.okB, h5]
  (refine wGo ?_; ((conv => arg 5; whnf); repeat (refine xS ?_; conv => arg 5; whnf)))
  (apply wP; exact (call_op rfl (entersB_of Tryz.func80 (by kernel_rfl)) rfl (rcTotal_spec R (hPC ▸ hlen) rfl rfl rfl rfl rfl)); ((conv => arg 5; whnf); repeat (refine xS ?_; conv => arg 5; whnf)))
  refine wC (fun h6 => ?_) (fun h6 => ?_)
  · (refine wGo ?_; ((conv => arg 5; whnf); repeat (refine xS ?_; conv => arg 5; whnf)))
    refine wD <| cutR (RC.ends R (.inr rfl) rfl rfl rfl rfl rfl ?_ ?_ rfl rfl (Nat.le_refl _) (Nat.le_refl _) (fun _ _ => rfl) (fun _ _ => rfl))
    · simp [RC.okB, h6]
    · simp [RC.add, RC.okB, h6]
  (refine wGo ?_; ((conv => arg 5; whnf); repeat (refine xS ?_; conv => arg 5; whnf)))
  have hok : R.okB p c = true := by simp only [RC.okB, h1, h2, h3, h4, h5, h6]; rfl
  refine wD <| cutG <| Tri.of Tryz.mixed Tryz.T_ok ?_
  (refine wBegin ?_; ((conv => arg 5; whnf); repeat (refine xS ?_; conv => arg 5; whnf)))
  refine wN ⟨by omega, by omega⟩ ?_
  (refine wGo ?_; ((conv => arg 5; whnf); repeat (refine xS ?_; conv => arg 5; whnf)))
  have hto : ((R.pos p : Nat) : Int).toNat = R.pos p := rfl
  have a1 : 0 + ((R.pos p : Nat) : Int).toNat ≤ maxLen := by simp only [maxLen]; omega
  have a2 : (0 + ((R.pos p : Nat) : Int).toNat) * 16 ≤ 140737488355328 := by omega
  have b1 : 0 + ((R.pos p : Nat) : Int).toNat + 1 ≤ maxLen := by simp only [maxLen]; omega
  have b2 : (0 + ((R.pos p : Nat) : Int).toNat + 1) * 16 ≤ 140737488355328 := by omega
  (refine wP _ _ (append_op Tryz.T_ok rfl rfl rfl rfl rfl [2] (old_nil rfl _ _ _ (fun _ => [])) (new_vec rfl rfl (by omega) rfl) rfl (fun _ _ => rfl) a1 a2) ?_; ((conv => arg 5; whnf); repeat (refine xS ?_; conv => arg 5; whnf)))
  (refine wP _ _ (append1_op Tryz.T_ok rfl rfl rfl rfl p.cells rfl rfl rfl (Nat.le_refl _) rfl rfl rfl rfl rfl b1 b2) ?_; ((conv => arg 5; whnf); repeat (refine xS ?_; conv => arg 5; whnf)))
  refine wN ⟨by omega, by omega⟩ ?_
  (refine wGo ?_; ((conv => arg 5; whnf); repeat (refine xS ?_; conv => arg 5; whnf)))
  have e1 : 0 + ((R.pos p : Nat) : Int).toNat + 1 + (R.P.length - ((R.pos p : Nat) : Int).toNat) ≤ maxLen := by simp only [maxLen]; omega
  have e2 : (0 + ((R.pos p : Nat) : Int).toNat + 1 + (R.P.length - ((R.pos p : Nat) : Int).toNat)) * 16 ≤ 140737488355328 := by omega
  (refine wP _ _ (append_op Tryz.T_ok rfl rfl rfl rfl rfl [57, 2] (old_vec rfl rfl (Nat.le_refl _) rfl) (new_vec rfl rfl (by omega) rfl) rfl (fun _ _ => rfl) e1 e2) ?_; ((conv => arg 5; whnf); repeat (refine xS ?_; conv => arg 5; whnf)))
  refine wN ⟨by omega, by omega⟩ ?_
  (refine wGo ?_; ((conv => arg 5; whnf); repeat (refine xS ?_; conv => arg 5; whnf)))
  have c2 : (0 + ((R.pos p : Nat) : Int).toNat) * 32 ≤ 140737488355328 := by omega
  have d2 : (0 + ((R.pos p : Nat) : Int).toNat + 1) * 32 ≤ 140737488355328 := by omega
  have f1 : 0 + ((R.pos p : Nat) : Int).toNat + 1 + (R.C.length - ((R.pos p : Nat) : Int).toNat) ≤ maxLen := by simp only [maxLen]; omega
  have f2 : (0 + ((R.pos p : Nat) : Int).toNat + 1 + (R.C.length - ((R.pos p : Nat) : Int).toNat)) * 32 ≤ 140737488355328 := by omega
  (refine wP _ _ (append_op Tryz.T_ok rfl rfl rfl rfl rfl [3] (old_nil rfl _ _ _ (fun _ => [])) (new_vec rfl rfl (by omega) rfl) rfl (fun _ _ => rfl) a1 c2) ?_; ((conv => arg 5; whnf); repeat (refine xS ?_; conv => arg 5; whnf)))
  (refine wP _ _ (append1_op Tryz.T_ok rfl rfl rfl rfl c.cells rfl rfl rfl (Nat.le_refl _) rfl rfl rfl rfl rfl b1 d2) ?_; ((conv => arg 5; whnf); repeat (refine xS ?_; conv => arg 5; whnf)))
  refine wN ⟨by omega, by omega⟩ ?_
  (refine wGo ?_; ((conv => arg 5; whnf); repeat (refine xS ?_; conv => arg 5; whnf)))
  (refine wP _ _ (append_op Tryz.T_ok rfl rfl rfl rfl rfl [78, 3] (old_vec rfl rfl (Nat.le_refl _) rfl) (new_vec rfl rfl (by omega) rfl) rfl (fun _ _ => rfl) f1 f2) ?_; ((conv => arg 5; whnf); repeat (refine xS ?_; conv => arg 5; whnf)))
  have hkC : R.pos p ≤ R.C.length := by omega
  refine wD (RC.ends (R.add1 p c) (.inr rfl) rfl rfl rfl rfl rfl ?_ ?_ ?_ ?_ ?_ ?_ ?_ ?_)
  · rw [hok]
  · rw [RC.add, if_pos hok]
  · simp only [RC.add1, List.length_append, List.length_take, List.length_cons, List.length_drop]; omega
  · simp only [RC.add1, List.length_append, List.length_take, List.length_cons, List.length_drop]; omega
  · simp only [RC.add1, List.length_append, List.length_take, List.length_cons, List.length_drop]; omega
  · simp only [RC.add1, List.length_append, List.length_take, List.length_cons, List.length_drop]; omega
  · intro i hi
    simp only [RC.add1, List.length_append, List.length_take, List.length_cons, List.length_drop] at hi
    exact insRowF Pt.cells default R.P (R.pos p) hpl p i (by omega)
  · intro i hi
    simp only [RC.add1, List.length_append, List.length_take, List.length_cons, List.length_drop] at hi
    exact insRowF Coin.cells default R.C (R.pos p) hkC c i (by omega)
end Go.Proofs.YtnpkdoggfnlapaaGreatDoor
namespace Go.Proofs.YtnpkdoggfnlapaaGreatDoor
set_option maxRecDepth 100000
open Go.Sx
def RC.get (R : RC) (p : Pt) : Coin := if R.isAt p = true then R.C.getD (R.pos p) default else coin0
end Go.Proofs.YtnpkdoggfnlapaaGreatDoor

/- Parts Zg Zh Zi Zm Zo Zp Zq. -/
import Derived.Test.YtnpkdoggfnlapaaGreatDoorG25
import Derived.Test.YtnpkdoggfnlapaaGreatDoorG24
import Derived.Test.YtnpkdoggfnlapaaGreatDoorG12
import Derived.Test.YtnpkdoggfnlapaaGreatDoorG17
set_option linter.unusedSimpArgs false
set_option linter.unusedVariables false
namespace Go.Proofs.YtnpkdoggfnlapaaGreatDoor
set_option maxRecDepth 100000
open Go.Sx
def claimB0 (c : ClaimM) : List UInt8 := numL c.side 1 ++ numL c.acct 2 ++ c.st.owner.l ++ numL c.st.amt 7 ++ numL c.st.nonce 1
def claimBs (c : ClaimM) (i : Nat) : List UInt8 := claimB0 c ++ (hashesL c.proof i).flatten
theorem claimB0_len (c : ClaimM) : (claimB0 c).length = 19 := by simp only [claimB0, List.length_append, numL_length, H8.l_len]
theorem claimBs_len (c : ClaimM) (i : Nat) : (claimBs c i).length = 19 + 8 * i := by rw [claimBs, List.length_append, claimB0_len, hashesL_flat]
theorem claimBs_succ (c : ClaimM) (i : Nat) : claimBs c (i + 1) = claimBs c i ++ (c.proof i).l := by simp [claimBs, hashesL_succ]
theorem claimBs_all (c : ClaimM) : claimBs c 16 = (claimP c).flatten := by simp [claimBs, claimB0, claimP]
theorem claim_cells_p (c : ClaimM) : c.cells = (.int .i64 c.side :: .int .i64 c.acct :: c.st.cells) ++ (tabF (hashF c.proof) 0 16 ++ []) := by simp [ClaimM.cells]
def rclSt (c : ClaimM) (i : Nat) : St :=
  ⟨[none, some (XV.sv (.ptr 1 0 0 0)), none, some (XV.sv (.slc 2 1 0 (19 + 8 * i))), some (XV.int .i64 i)] ++ List.replicate 33 none, [(1, .cells 46 (c.cells.map .raw)), (2, .vec 5 1 (19 + 8 * i) (rowB (claimBs c i)))], 3⟩
set_option maxHeartbeats 4000000 in
theorem rclaimB_can (c : ClaimM) : Makes Tryz.prog 94 [.plain c.x] [] (XV.sv (.slc 0 1 0 147)) (.vec 5 1 147 (rowB (claimP c).flatten)) := by
  refine Makes.of Tryz.T_ok Tryz.func94 rfl _ _ _ _ rfl rfl rfl rfl 2 (fun C hC => ?_)
  (replace hC : C.n0 = 1 := hC; change Tri _ _ _ ⟨_, _, 1⟩ _)
  (refine Tri.cut 3 Tryz.mixed Tryz.T_ok ?_; refine xZ ?_)
  (apply wP; exact (call_op rfl (entersB_of Tryz.func72 (by kernel_rfl)) rfl ((num_can c.side 1 (by decide)).at [] ⟨lend_plain rfl, lend_plain rfl, trivial⟩ trivial)); refine xZ ?_)
  (apply wP; exact (call_op rfl (entersB_of Tryz.func72 (by kernel_rfl)) rfl ((num_can c.acct 2 (by decide)).at [] ⟨lend_plain rfl, lend_plain rfl, trivial⟩ trivial)); refine xZ ?_)
  (refine wP _ _ (append_op Tryz.T_ok rfl rfl rfl rfl rfl [5, 8] (old_vec rfl rfl (Nat.le_refl _) rfl) (new_vec (lo := 0) rfl rfl (Nat.le_of_eq (Nat.zero_add _)) rfl) rfl (fun _ _ => rfl) (by simp only [maxLen]; omega) (by dsimp only; omega)) ?_; refine xZ ?_)
  (refine wP _ _ (append_op Tryz.T_ok rfl rfl rfl rfl rfl [9, 1] (old_vec rfl rfl (Nat.le_refl _) rfl) (new_sla (g := rowB c.st.owner.l) rfl rfl rfl (fun _ _ => rfl) rfl) rfl (fun _ _ => rfl) (by simp only [maxLen]; omega) (by dsimp only; omega)) ?_; refine xZ ?_)
  (apply wP; exact (call_op rfl (entersB_of Tryz.func72 (by kernel_rfl)) rfl ((num_can c.st.amt 7 (by decide)).at [] ⟨lend_plain rfl, lend_plain rfl, trivial⟩ trivial)); refine xZ ?_)
  (refine wP _ _ (append_op Tryz.T_ok rfl rfl rfl rfl rfl [13, 19] (old_vec rfl rfl (Nat.le_refl _) rfl) (new_vec (lo := 0) rfl rfl (Nat.le_of_eq (Nat.zero_add _)) rfl) rfl (fun _ _ => rfl) (by simp only [maxLen]; omega) (by dsimp only; omega)) ?_; refine xZ ?_)
  (apply wP; exact (call_op rfl (entersB_of Tryz.func72 (by kernel_rfl)) rfl ((num_can c.st.nonce 1 (by decide)).at [] ⟨lend_plain rfl, lend_plain rfl, trivial⟩ trivial)); refine xZ ?_)
  (refine wP _ _ (append_op Tryz.T_ok rfl rfl rfl rfl rfl [20, 24] (old_vec rfl rfl (Nat.le_refl _) rfl) (new_vec (lo := 0) rfl rfl (Nat.le_of_eq (Nat.zero_add _)) rfl) rfl (fun _ _ => rfl) (by simp only [maxLen]; omega) (by dsimp only; omega)) ?_; refine xZ ?_)
  refine wD <| cutG <| Tri.seq ?_
  (refine Tri.cut 1 Tryz.mixed Tryz.T_ok ?_; refine xZ ?_)
  refine wD <| cutG <| Tri.block ?_
  refine Tri.loop (α := { i : Nat // i ≤ 16 }) (fun i => rclSt c i.1) (fun i => 16 - i.1) ⟨0, Nat.zero_le _⟩ ?_ ?_
  · dsimp only
    rw [rclSt]
    ((try dsimp only); refine Ent.renC [0, 1, 25] hC ?_ ?_ <;> repeat' (first | exact trivial | exact rfl | exact ⟨_, rfl, rfl, rfl, Nat.le_refl _, fun _ _ => rfl⟩ | exact ⟨_, rfl, rfl, rfl, fun _ _ => rfl⟩ | exact ⟨_, rfl, rfl, rfl⟩ | exact ⟨_, rfl, rfl⟩ | refine ⟨_, rfl, rfl, rfl, by omega, fun k hk => ?_⟩ | refine ⟨?_, ?_⟩ | fail))
    rw [show claimBs c 0 = claimB0 c by rw [claimBs, hashesL_zero]; exact List.append_nil _, claimB0]
    simp only [Nat.zero_add]
    refine rowB_joinL (by simp only [List.length_append, numL_length, H8.l_len]; rfl) (rowB_joinL (by simp only [List.length_append, numL_length, H8.l_len]; rfl) (rowB_joinL (by simp only [List.length_append, numL_length, H8.l_len]) (rowB_joinL (numL_length _ _).symm (fun _ _ => rfl) (fun _ _ => rfl)) (fun _ _ => rfl)) (fun _ _ => rfl)) (fun _ _ => rfl) k ?_
    simp only [List.length_append, numL_length, H8.l_len]
    exact hk
  rintro ⟨i, hi⟩
  dsimp only
  have hl := claimBs_len c i
  (refine Tri.cut 1 Tryz.mixed Tryz.T_ok ?_; refine xZ ?_)
  refine wC (fun h1 => ?_) (fun h1 => ?_)
  · (refine xG ?_)
    have h1' : i < 16 := xW
    have hw : IntKind.i64.wrap ((i : Int) + 1) = ((i + 1 : Nat) : Int) := xW
    refine wD <| cutG <| Tri.seq <| Tri.block <| Tri.of Tryz.mixed Tryz.T_ok ?_
    (refine xB ?_)
    (repeat (refine wN ?_ ?_; exact xW; refine xG ?_))
    simp only [Nat.zero_add, Int.toNat_natCast]
    (refine wP _ _ (append_op Tryz.T_ok rfl rfl rfl rfl rfl [2, 1] (old_vec rfl rfl (Nat.le_refl _) rfl) (new_sla (g := rowB (c.proof i).l) rfl rfl rfl (fun _ _ => rfl) (tab_hash_at c.proof 12 (claim_cells_p c) h1' rfl (by omega) rfl)) rfl (fun _ _ => rfl) (by simp only [maxLen]; omega) (by dsimp only; omega)) ?_; refine xZ ?_)
    refine wD <| blockN <| cutG <| Tri.of Tryz.mixed Tryz.T_ok ?_
    (refine xB ?_)
    refine wD <| loopN ⟨⟨i + 1, h1'⟩, by dsimp only; omega, ?_⟩
    rw [hw]
    dsimp only
    rw [rclSt, claimBs_succ]
    ((try dsimp only); refine Ent.renC [0, 1, 10] hC ?_ ?_ <;> repeat' (first | exact trivial | exact rfl | exact ⟨_, rfl, rfl, rfl, Nat.le_refl _, fun _ _ => rfl⟩ | exact ⟨_, rfl, rfl, rfl, fun _ _ => rfl⟩ | exact ⟨_, rfl, rfl, rfl⟩ | exact ⟨_, rfl, rfl⟩ | refine ⟨_, rfl, rfl, rfl, by omega, fun k hk => ?_⟩ | refine ⟨?_, ?_⟩ | fail))
    all_goals try exact Nat.le_refl _
    exact rowB_join hl.symm (fun _ _ => rfl) (fun _ _ => rfl) (by rw [hl]; exact hk)
  · (refine xG ?_)
    have h1' : i = 16 := xW
    subst h1'
    refine wD <| cutE <| loopX <| blockX <| cutG <| Tri.of Tryz.mixed Tryz.T_ok ?_
    (refine xB ?_)
    rw [← claimBs_all]
    exact wD (Ends.made (.inr rfl) (Ent.refl _) rfl (Nat.le_of_ble_eq_true rfl) rfl)
end Go.Proofs.YtnpkdoggfnlapaaGreatDoor
namespace Go.Proofs.YtnpkdoggfnlapaaGreatDoor
set_option maxRecDepth 100000
open Go.Sx
set_option maxHeartbeats 4000000 in
theorem rmayClaim_can (c : ClaimM) : Reads Tryz.prog 86 [.plain c.x] [] (XV.bool (claimOK c)) := by
  have bad : (claimOK c = true → False) → XV.bool false = XV.bool (claimOK c) := fun h => by
    cases hc : claimOK c with
    | false => rfl
    | true => exact (h hc).elim
  have hz := rzero_can c.st.owner
  refine Reads.of Tryz.T_ok Tryz.func86 rfl _ _ _ rfl rfl (fun C hC => ?_)
  (replace hC : C.n0 = 1 := hC; change Tri _ _ _ ⟨_, _, 1⟩ _)
  refine Tri.of Tryz.mixed Tryz.T_ok ?_
  (refine xB ?_)
  refine wC (fun h1 => ?_) (fun h1 => ?_)
  rotate_left
  · (refine xG ?_)
    exact wD (Ends.plain (.inr rfl) rfl (bad fun h => by have := claimOK_iff.1 h; simp only [decide_eq_false_iff_not] at h1; omega))
  (refine xG ?_)
  refine wC (fun h2 => ?_) (fun h2 => ?_)
  rotate_left
  · (refine xG ?_)
    exact wD (Ends.plain (.inr rfl) rfl (bad fun h => by have := claimOK_iff.1 h; simp only [decide_eq_false_iff_not] at h2; omega))
  (refine xG ?_)
  refine wC (fun h3 => ?_) (fun h3 => ?_)
  rotate_left
  · (refine xG ?_)
    exact wD (Ends.plain (.inr rfl) rfl (bad fun h => by have := claimOK_iff.1 h; simp only [decide_eq_false_iff_not] at h3; omega))
  (refine xG ?_)
  refine wC (fun h4 => ?_) (fun h4 => ?_)
  rotate_left
  · (refine xG ?_)
    exact wD (Ends.plain (.inr rfl) rfl (bad fun h => by have := claimOK_iff.1 h; simp only [decide_eq_false_iff_not] at h4; omega))
  (refine xG ?_)
  (apply wP; exact (call_op rfl (entersB_of Tryz.func147 (by kernel_rfl)) rfl (hz.at [] ⟨lend_plain rfl, trivial⟩ trivial)); refine xZ ?_)
  refine wC (fun h5 => ?_) (fun h5 => ?_)
  rotate_left
  · (refine xG ?_)
    exact wD (Ends.plain (.inr rfl) rfl (bad fun h => by have := (claimOK_iff.1 h).2.2.1; rw [this] at h5; cases h5))
  (refine xG ?_)
  refine wC (fun h6 => ?_) (fun h6 => ?_)
  rotate_left
  · (refine xG ?_)
    exact wD (Ends.plain (.inr rfl) rfl (bad fun h => by have := claimOK_iff.1 h; simp only [decide_eq_false_iff_not] at h6; omega))
  (refine xG ?_)
  refine wC (fun h7 => ?_) (fun h7 => ?_)
  rotate_left
  · (refine xG ?_)
    exact wD (Ends.plain (.inr rfl) rfl (bad fun h => by have := claimOK_iff.1 h; simp only [decide_eq_false_iff_not] at h7; omega))
  (refine xG ?_)
  refine wC (fun h8 => ?_) (fun h8 => ?_)
  rotate_left
  · (refine xG ?_)
    exact wD (Ends.plain (.inr rfl) rfl (bad fun h => by have := claimOK_iff.1 h; simp only [decide_eq_false_iff_not] at h8; omega))
  (refine xG ?_)
  have e : decide (c.st.nonce ≤ 255) = claimOK c := by
    simp only [decide_eq_true_eq, Bool.not_eq_true'] at h1 h2 h3 h4 h5 h6 h7 h8
    rw [Bool.eq_iff_iff, decide_eq_true_eq, claimOK_iff]
    exact ⟨fun h => ⟨⟨by omega, by omega⟩, ⟨by omega, by omega⟩, h5, ⟨by omega, by omega⟩, by omega, by omega⟩, fun h => h.2.2.2.2.2⟩
  exact wD (Ends.plain (.inr rfl) rfl (congrArg (fun b : Bool => XV.bool b) e))
theorem noPar0 : Reads Tryz.prog 108 [.box par0.ac] [] (XV.bool true) := noPar_can par0 (Nat.zero_le _)
theorem noCert0 : Reads Tryz.prog 109 [.box cert0.ac] [] (XV.bool true) := by
  have h := noCert_can cert0 (Nat.zero_le _) (Nat.zero_le _)
  rw [show certZ cert0 = true by decide] at h
  exact h
set_option maxHeartbeats 4000000 in
theorem rmay5_can (c : ClaimM) : Reads Tryz.prog 57 [.box (claimTx c).ac] [] (XV.bool (claimOK c)) := by
  refine Reads.of Tryz.T_ok Tryz.func57 rfl _ _ _ rfl rfl (fun C hC => ?_)
  (replace hC : C.n0 = 6 := hC; change Tri _ _ _ ⟨_, _, 6⟩ _)
  refine Tri.of Tryz.mixed Tryz.T_ok ?_
  (refine xB ?_)
  repeat (first | (refine wFd rfl ?_; refine xG ?_) | (refine wTd rfl ?_; refine xG ?_))
  (apply wP; exact (call_op rfl (entersB_of Tryz.func108 (by kernel_rfl)) rfl (noPar0.at [3] ⟨lend_par (p := par0) (lend_ro0 rfl rfl), trivial⟩ trivial)); refine xZ ?_)
  repeat (first | (refine wFd rfl ?_; refine xG ?_) | (refine wTd rfl ?_; refine xG ?_))
  (apply wP; exact (call_op rfl (entersB_of Tryz.func109 (by kernel_rfl)) rfl (noCert0.at [4, 5] ⟨lend_cert (c := cert0) (lend_ro0 rfl rfl) (lend_ro0 rfl rfl), trivial⟩ trivial)); refine xZ ?_)
  repeat (first | (refine wFd rfl ?_; refine xG ?_) | (refine wTd rfl ?_; refine xG ?_))
  (apply wP; exact (call_op rfl (entersB_of Tryz.func86 (by kernel_rfl)) rfl ((rmayClaim_can c).at [] ⟨lend_plain rfl, trivial⟩ trivial)); refine xZ ?_)
  exact wD (Ends.plain (.inr rfl) rfl rfl)
end Go.Proofs.YtnpkdoggfnlapaaGreatDoor
namespace Go.Proofs.YtnpkdoggfnlapaaGreatDoor
set_option maxRecDepth 100000
open Go.Sx
theorem claimEnc_len (c : ClaimM) : (claimEnc c).length = 148 := claimEncB_len c
theorem claimEnc_eq (c : ClaimM) : claimEnc c = numL 5 1 ++ (claimP c).flatten := rfl
theorem claimP_len (c : ClaimM) : (claimP c).flatten.length = 147 := by rw [← claimBs_all, claimBs_len]
set_option maxHeartbeats 4000000 in
theorem rencode5_can (c : ClaimM) (hc : claimOK c = true) : Makes Tryz.prog 44 [.box (claimTx c).ac] [] (.tup [.one (.slc 0 1 0 148), .one (.raw (.int .i64 0))]) (.vec 5 1 148 (rowB (claimEnc c))) := by
  have hmay := rmay5_can c
  rw [hc] at hmay
  refine Makes.of Tryz.T_ok Tryz.func44 rfl _ _ _ _ rfl rfl rfl rfl 30 (fun C hC => ?_)
  (replace hC : C.n0 = 6 := hC; change Tri _ _ _ ⟨_, _, 6⟩ _)
  refine Tri.of Tryz.mixed Tryz.T_ok ?_
  (refine xB ?_)
  (apply wP; exact (call_op rfl (entersB_of Tryz.func57 (by kernel_rfl)) rfl (hmay.at [0, 1, 2, 3, 4, 5] ⟨lend_tx (t := claimTx c) (lend_ro0 rfl rfl) (lend_ro0 rfl rfl) (lend_ro0 rfl rfl) (lend_ro0 rfl rfl) (lend_ro0 rfl rfl) (lend_ro0 rfl rfl), trivial⟩ trivial)); refine xZ ?_)
  (apply wP; exact (call_op rfl (entersB_of Tryz.func72 (by kernel_rfl)) rfl ((num_can 5 1 (by decide)).at [] ⟨lend_plain rfl, lend_plain rfl, trivial⟩ trivial)); refine xZ ?_)
  repeat (first | (refine wFd rfl ?_; refine xG ?_) | (refine wTd rfl ?_; refine xG ?_))
  (apply wP; exact (call_op rfl (entersB_of Tryz.func94 (by kernel_rfl)) rfl ((rclaimB_can c).at [] ⟨lend_plain rfl, trivial⟩ trivial)); refine xZ ?_)
  (refine wP _ _ (append_op Tryz.T_ok rfl rfl rfl rfl rfl [14, 29] (old_vec rfl rfl (Nat.le_refl _) rfl) (new_vec (lo := 0) rfl rfl (Nat.le_of_eq (Nat.zero_add _)) rfl) rfl (fun _ _ => rfl) (by simp only [maxLen]; omega) (by dsimp only; omega)) ?_; refine xZ ?_)
  refine wD (Ends.made (.inr rfl) (Ent.chg0 (c := 30) (g := rowB (claimEnc c)) rfl ?_) rfl (Nat.le_of_ble_eq_true rfl) rfl)
  rw [claimEnc_eq]
  simp only [Nat.zero_add]
  intro k hk
  refine rowB_joinL (numL_length _ _).symm (fun _ _ => rfl) (fun _ _ => rfl) k ?_
  rw [List.length_append, numL_length, claimP_len]
  exact hk
set_option maxHeartbeats 4000000 in
theorem rid5_can (c : ClaimM) (hc : claimOK c = true) : Reads Tryz.prog 16 [.box (claimTx c).ac] [] (.tup [(claimID c).x, .one (.raw (.bool true))]) := by
  have hl := claimEnc_len c
  have hen := rencode5_can c hc
  rw [← hl] at hen
  refine Reads.of Tryz.T_ok Tryz.func16 rfl _ _ _ rfl rfl (fun C hC => ?_)
  (replace hC : C.n0 = 6 := hC; change Tri _ _ _ ⟨_, _, 6⟩ _)
  refine Tri.of Tryz.mixed Tryz.T_ok ?_
  (refine xB ?_)
  (apply wP; exact (call_op rfl (entersB_of Tryz.func44 (by kernel_rfl)) rfl (hen.at [0, 1, 2, 3, 4, 5] ⟨lend_tx (t := claimTx c) (lend_ro0 rfl rfl) (lend_ro0 rfl rfl) (lend_ro0 rfl rfl) (lend_ro0 rfl rfl) (lend_ro0 rfl rfl) (lend_ro0 rfl rfl), trivial⟩ trivial)); refine xZ ?_)
  (refine wP _ _ (cellsNew_op Tryz.T_ok rfl rfl rfl) ?_; refine xZ ?_)
  (apply wP; exact (call_op rfl (entersB_of Tryz.func45 (by kernel_rfl)) rfl ((digest_can 120 [claimEnc c] (short1 _ _ (by omega))).at [10, 19] ⟨lend_plain rfl, lend_parts [claimEnc c] rfl rfl rfl ⟨lend_vec0 rfl rfl, trivial⟩, trivial⟩ trivial)); refine xZ ?_)
  exact wD (Ends.plain (.inr rfl) rfl rfl)
end Go.Proofs.YtnpkdoggfnlapaaGreatDoor
namespace Go.Proofs.YtnpkdoggfnlapaaGreatDoor
set_option maxRecDepth 100000
open Go.Sx
def rckSt (L : List SideM) (ad : Nat → Nat → Option Addr × Nat) (c : ClaimM) (k : Nat) : St :=
  ⟨[none, none, none, some (XV.sv (.ptr 4 0 0 0)), none, some (XV.sv (.ptr 5 0 0 0)), some (XV.bool (((L.getD c.side.toNat default).used.take k).any (eqI c.acct))), some (XV.int .i64 k)] ++ List.replicate 64 none,
   [(0, .cells rrS [.slc 2 42 0 L.length]), (2, .vec rrE 42 L.length fun i => fillA 0 (regF L i) (ad i)), (3, .abs (PartsO L.length (regF L) ad)), (4, .cells 46 (c.cells.map .raw)), (5, .cells 109 ((fillA 0 (regF L c.side.toNat) (ad c.side.toNat)).map .raw))], 6⟩
set_option maxHeartbeats 8000000 in
theorem rcheck_can (L : List SideM) (c : ClaimM) (hL : ∀ i, i < L.length → (L.getD i default).Sized) (hl : L.length ≤ 1000) : Acts Tryz.prog 43 (.abs (rReg L)) (.abs (rReg L)) [.plain c.x] [] (XV.int .i64 (checkE L c)) := by
  have hmay := rmayClaim_can c
  refine Acts.of Tryz.T_ok Tryz.func43 rfl _ _ _ _ _ rfl rfl rfl (fun C hC => ?_)
  (replace hC : C.n0 = 2 := hC; change Tri _ _ _ ⟨_, _, 2⟩ _)
  cases hb : claimOK c with
  | false =>
    rw [hb] at hmay
    have he : checkE L c = 4 := by rw [checkE, if_pos hb]
    rw [he]
    refine Tri.of Tryz.mixed Tryz.T_ok ?_
    (refine xB ?_)
    (apply wP; exact (call_op rfl (entersB_of Tryz.func86 (by kernel_rfl)) rfl (hmay.at [] ⟨lend_plain rfl, trivial⟩ trivial)); refine xZ ?_)
    exact wD (Ends.shutN (.inr rfl) (Ent.refl _) rfl rfl rfl)
  | true =>
    rw [hb] at hmay
    obtain ⟨⟨s1, s2⟩, ⟨a1, a2⟩, w1, ⟨m1, m2⟩, n1, n2⟩ := claimOK_iff.1 hb
    by_cases h8 : (L.length : Int) ≤ c.side
    · have he : checkE L c = 8 := by rw [checkE, if_neg (by rw [hb]; simp), if_pos h8]
      rw [he]
      rcases L with _ | ⟨y, r⟩
      · refine Reg.opens0 rrS rrE 0 rfl (Tri.of Tryz.mixed Tryz.T_ok ?_)
        (refine xB ?_)
        (apply wP; exact (call_op rfl (entersB_of Tryz.func86 (by kernel_rfl)) rfl (hmay.at [] ⟨lend_plain rfl, trivial⟩ trivial)); refine xZ ?_)
        (refine wTd ?_ ?_; (first | refine decide_eq_true ?_ | rw [beq_iff_eq] | rw [bne_iff_ne]); exact xW; refine xG ?_)
        exact wD (Ends.shutN (.inr rfl) (Reg.shuts0 rrS rrE 0 rfl) rfl rfl rfl)
      · refine Reg.opensD rrS rrE (y :: r) 0 (Nat.succ_pos _) rfl (Tri.of Tryz.mixed Tryz.T_ok ?_)
        (refine xB ?_)
        (apply wP; exact (call_op rfl (entersB_of Tryz.func86 (by kernel_rfl)) rfl (hmay.at [] ⟨lend_plain rfl, trivial⟩ trivial)); refine xZ ?_)
        (refine wTd ?_ ?_; (first | refine decide_eq_true ?_ | rw [beq_iff_eq] | rw [bne_iff_ne]); exact xW; refine xG ?_)
        exact wD (Ends.shutN (.inr rfl) (Reg.shuts rrS rrE (y :: r) 0 (i1 := 3) (Nat.succ_pos _) rfl rfl rfl rfl rfl (fun _ _ => rfl)) rfl rfl rfl)
    have hi : c.side.toNat < L.length := by omega
    have hz := hL _ hi
    have h0 : 0 < L.length := by omega
    have he : checkE L c = checkX (L.getD c.side.toNat default) c := by rw [checkE, if_neg (by rw [hb]; simp), if_neg h8]
    rw [he]
    refine Reg.opens rrS rrE L 0 h0 rfl (Nat.le_of_ble_eq_true rfl) (fun ad => ?_)
    (refine Tri.cut 5 Tryz.mixed Tryz.T_ok ?_; refine xZ ?_)
    (apply wP; exact (call_op rfl (entersB_of Tryz.func86 (by kernel_rfl)) rfl (hmay.at [] ⟨lend_plain rfl, trivial⟩ trivial)); refine xZ ?_)
    (refine wFd ?_ ?_; (first | refine decide_eq_false ?_ | rw [beq_eq_false_iff_ne] | rw [bne_eq_false_iff_eq]); exact xW; refine xG ?_)
    (repeat (refine wN ?_ ?_; exact xW; refine xG ?_))
    simp only [Nat.zero_add]
    refine wD <| cutG <| Tri.seq <| ?_
    (refine Tri.cut 1 Tryz.mixed Tryz.T_ok ?_; refine xZ ?_)
    refine wD <| cutG <| Tri.block ?_
    obtain ⟨x, hx⟩ : ∃ x, L.getD c.side.toNat default = x := ⟨_, rfl⟩
    refine Tri.loop (α := { k : Nat // k ≤ x.used.length }) (fun k => rckSt L ad c k.1) (fun k => x.used.length - k.1) ⟨0, Nat.zero_le _⟩ ?_ ?_
    · unfold rckSt
      ((try dsimp only); refine Ent.renC [0, 1, 3, 4, 5, 26] hC ?_ ?_ <;> repeat' (first | exact trivial | exact rfl | exact ⟨_, rfl, rfl, rfl, Nat.le_refl _, fun _ _ => rfl⟩ | exact ⟨_, rfl, rfl, rfl, fun _ _ => rfl⟩ | exact ⟨_, rfl, rfl, rfl⟩ | exact ⟨_, rfl, rfl⟩ | refine ⟨_, rfl, rfl, rfl, by omega, fun k hk => ?_⟩ | refine ⟨?_, ?_⟩ | fail))
    have shut := fun {slots : List (Option XV)} {mem : Mem} {nx : Nat} k0 k1 k2 => Reg.shutsO (C := C) (slots := slots) (mem := mem) (nx := nx) rrS rrE L L 0 (i1 := 2) (q := 3) (ad := ad) (m := L.length) (n := L.length) h0 k0 k1 k2 rfl rfl rfl (fun _ _ => rfl) regF_raw
    rintro ⟨k, hk⟩
    dsimp only
    unfold rckSt
    rw [hx]
    (refine Tri.cut 1 Tryz.mixed Tryz.T_ok ?_; refine xZ ?_)
    refine wC (fun h1 => ?_) (fun h1 => ?_)
    · (refine xG ?_)
      rw [hx] at h1
      have hzu : x.used.length ≤ 1000000 := by rw [← hx]; exact hz.used
      have h1' : k < x.used.length := xW
      have hs := any_take_succ' (p := eqI c.acct) h1'
      have hw : IntKind.i64.wrap ((k : Int) + 1) = ((k + 1 : Nat) : Int) := xW
      refine wD <| cutG <| Tri.seq <| Tri.block <| Tri.of Tryz.mixed Tryz.T_ok ?_
      (refine xB ?_)
      refine wC (fun h2 => ?_) (fun h2 => ?_)
      · (refine xG ?_)
        refine wD <| blockN <| cutG <| Tri.of Tryz.mixed Tryz.T_ok ?_
        (refine xB ?_)
        refine wD <| loopN ⟨⟨k + 1, h1'⟩, by dsimp only; omega, ?_⟩
        rw [hw]
        dsimp only
        rw [hs, h2, Bool.true_or]
        ((try dsimp only); refine Ent.renC [0, 1, 2, 3, 4, 5] hC ?_ ?_ <;> repeat' (first | exact trivial | exact rfl | exact ⟨_, rfl, rfl, rfl, Nat.le_refl _, fun _ _ => rfl⟩ | exact ⟨_, rfl, rfl, rfl, fun _ _ => rfl⟩ | exact ⟨_, rfl, rfl, rfl⟩ | exact ⟨_, rfl, rfl⟩ | refine ⟨_, rfl, rfl, rfl, by omega, fun k hk => ?_⟩ | refine ⟨?_, ?_⟩ | fail))
      · (refine xG ?_)
        (refine wP _ _ (partIndex_op Tryz.T_ok rfl rfl rfl rfl rfl (I := c.side.toNat) (J := 41) (F := regF L) (ad := ad) (q := 3) (f := intsF (L.getD c.side.toNat default).used) rfl rfl rfl hi rfl (by rw [hx]; exact h1')) ?_; refine xZ ?_)
        (refine wP _ _ (partLoad_op Tryz.T_ok rfl rfl (I := c.side.toNat) (J := 41) (F := regF L) (ad := ad) (q := 3) (sz := 1) (f := intsF (L.getD c.side.toNat default).used) rfl rfl hi rfl rfl (by rw [hx]; exact h1') rfl) ?_; refine xZ ?_)
        refine wD <| blockN <| cutG <| Tri.of Tryz.mixed Tryz.T_ok ?_
        (refine xB ?_)
        refine wD <| loopN ⟨⟨k + 1, h1'⟩, by dsimp only; omega, ?_⟩
        rw [hw]
        dsimp only
        rw [hs, h2, Bool.false_or, hx]
        have hcomm : (x.used.getD k 0 == c.acct) = eqI c.acct (x.used.getD k default) := by rw [eqI, Bool.eq_iff_iff, beq_iff_eq, beq_iff_eq]; exact eq_comm
        ((try dsimp only); refine Ent.renC [0, 1, 2, 3, 4, 5] hC ?_ ?_ <;> repeat' (first | exact trivial | exact rfl | exact ⟨_, rfl, rfl, rfl, Nat.le_refl _, fun _ _ => rfl⟩ | exact ⟨_, rfl, rfl, rfl, fun _ _ => rfl⟩ | exact ⟨_, rfl, rfl, rfl⟩ | exact ⟨_, rfl, rfl⟩ | refine ⟨_, rfl, rfl, rfl, by omega, fun k hk => ?_⟩ | refine ⟨?_, ?_⟩ | fail))
        exact congrArg (fun b : Bool => some (XV.cv (CV.one (SV.raw (Value.bool b))))) hcomm
    · (refine xG ?_)
      rw [hx] at h1
      have hzu : x.used.length ≤ 1000000 := by rw [← hx]; exact hz.used
      have h1' : k = x.used.length := xW
      subst h1'
      rw [List.take_length, anyI_mem]
      refine wD <| cutE <| loopX <| blockX <| cutG <| Tri.of Tryz.mixed Tryz.T_ok ?_
      (refine xB ?_)
      rw [hx]
      refine wC (fun h1 => ?_) (fun h1 => ?_)
      · have h1' : x.ceased = false := by simpa using h1
        (refine xG ?_)
        exact wD (Ends.shutN (.inr rfl) (shut rfl rfl rfl) rfl rfl (by rw [checkX, if_pos h1']))
      have h1' : x.ceased = true := by simpa using h1
      (refine xG ?_)
      refine wC (fun h2 => ?_) (fun h2 => ?_)
      · have h2' : c.acct ∈ x.used := of_decide_eq_true h2
        (refine xG ?_)
        exact wD (Ends.shutN (.inr rfl) (shut rfl rfl rfl) rfl rfl (by rw [checkX, if_neg (by rw [h1']; simp), if_pos h2']))
      have h2' : c.acct ∉ x.used := of_decide_eq_false h2
      (refine xG ?_)
      (apply wP; exact (call_op rfl (entersB_of Tryz.func88 (by kernel_rfl)) rfl ((leafR_can c.acct c.st ⟨⟨a1, a2⟩, w1, ⟨by omega, by omega⟩, ⟨n1, n2⟩⟩).at [] ⟨lend_plain rfl, lend_plain rfl, trivial⟩ trivial)); refine xZ ?_)
      have hsc := rchk_can x.root (leafA c.acct c.st) c.acct.toNat (by omega) c.proof
      rw [Int.toNat_of_nonneg a1, ← hx] at hsc
      (apply wP; exact (call_op rfl (entersB_of Tryz.func87 (by kernel_rfl)) rfl (hsc.at [] ⟨lend_plain rfl, lend_plain rfl, lend_plain rfl, lend_plain rfl, trivial⟩ trivial)); refine xZ ?_)
      rw [hx]
      have hpf : decide (upS (leafA c.acct c.st) c.acct.toNat c.proof 16 = x.root) = proofOK x.root c := rfl
      rw [hpf]
      refine wC (fun h3 => ?_) (fun h3 => ?_)
      · have h3' : proofOK x.root c = false := by simpa using h3
        (refine xG ?_)
        exact wD (Ends.shutN (.inr rfl) (shut rfl rfl rfl) rfl rfl (by rw [checkX, if_neg (by rw [h1']; simp), if_neg h2', if_pos h3']))
      have h3' : proofOK x.root c = true := by simpa using h3
      (refine xG ?_)
      rw [hx]
      refine wC (fun h4 => ?_) (fun h4 => ?_)
      · have h4' : x.bal < c.st.amt := of_decide_eq_true h4
        (refine xG ?_)
        exact wD (Ends.shutN (.inr rfl) (shut rfl rfl rfl) rfl rfl (by rw [checkX, if_neg (by rw [h1']; simp), if_neg h2', if_neg (by rw [h3']; simp), if_pos h4']))
      have h4' : ¬ x.bal < c.st.amt := of_decide_eq_false h4
      (refine xG ?_)
      exact wD (Ends.shutN (.inr rfl) (shut rfl rfl rfl) rfl rfl (by rw [checkX, if_neg (by rw [h1']; simp), if_neg h2', if_neg (by rw [h3']; simp), if_neg h4']))
end Go.Proofs.YtnpkdoggfnlapaaGreatDoor
namespace Go.Proofs.YtnpkdoggfnlapaaGreatDoor
set_option maxRecDepth 100000
open Go.Sx
theorem insU_all : ∀ {l : List Int} {a : Int}, (∀ y ∈ l, y < a) → insU l a = l ++ [a]
  | [], _, _ => rfl
  | x :: r, a, h => by rw [insU, if_pos (h x (by simp)), insU_all fun y hy => h y (by simp [hy])]; rfl
theorem insU_mid : ∀ {l : List Int} {a y : Int}, (∀ z ∈ l, z < a) → ¬ y < a → insU (l ++ [y]) a = l ++ [a] ++ [y]
  | [], a, y, _, h => by show insU [y] a = _; rw [insU, if_neg h]; rfl
  | x :: r, a, y, h1, h => by show insU (x :: (r ++ [y])) a = _; rw [insU, if_pos (h1 x (by simp)), insU_mid (fun z hz => h1 z (by simp [hz])) h]; rfl
theorem insU_app : ∀ {l r : List Int} {a : Int}, (∃ y ∈ l, ¬ y < a) → insU (l ++ r) a = insU l a ++ r
  | [], _, _, h => by obtain ⟨_, h, _⟩ := h; cases h
  | x :: l, r, a, h => by
    show insU (x :: (l ++ r)) a = _
    rw [insU, insU]
    by_cases hx : x < a
    · rw [if_pos hx, if_pos hx, insU_app (l := l) (r := r) (a := a) ?_]; · rfl
      obtain ⟨y, hy, h2⟩ := h
      rcases List.mem_cons.1 hy with rfl | hy
      · exact absurd hx h2
      · exact ⟨y, hy, h2⟩
    · rw [if_neg hx, if_neg hx]; rfl
def ltB (a y : Int) : Bool := decide (a < y)
def doneU (l : List Int) (a : Int) (k : Nat) : Bool := (l.take k).any (ltB a)
def bldU (l : List Int) (a : Int) (k : Nat) : List Int := if doneU l a k = true then insU (l.take k) a else l.take k
theorem take_snocD {l : List Int} {k : Nat} (hk : k < l.length) : l.take (k + 1) = l.take k ++ [l.getD k 0] := by
  rw [List.take_add_one, List.getElem?_eq_getElem hk, List.getD_eq_getElem?_getD, List.getElem?_eq_getElem hk]; rfl
theorem doneU_succ {l : List Int} {a : Int} {k : Nat} (hk : k < l.length) : doneU l a (k + 1) = (doneU l a k || ltB a (l.getD k 0)) := by
  rw [doneU, take_snocD hk, List.any_append]; simp [doneU]
theorem below {l : List Int} {a : Int} {k : Nat} (h : doneU l a k = false) (ha : a ∉ l) : ∀ y ∈ l.take k, y < a := fun y hy => by
  have h1 := List.any_eq_false.1 h y hy
  have h2 : y ≠ a := fun e => ha (e ▸ List.mem_of_mem_take hy)
  simp only [ltB, decide_eq_true_eq] at h1
  omega
theorem bldU_yes {l : List Int} {a : Int} {k : Nat} (hk : k < l.length) (h : doneU l a k = true) : bldU l a (k + 1) = bldU l a k ++ [l.getD k 0] := by
  obtain ⟨y, hy, h2⟩ := List.any_eq_true.1 h
  simp only [ltB, decide_eq_true_eq] at h2
  rw [bldU, doneU_succ hk, h, Bool.true_or, if_pos rfl, bldU, if_pos h, take_snocD hk, insU_app ⟨y, hy, by omega⟩]
theorem bldU_now {l : List Int} {a : Int} {k : Nat} (hk : k < l.length) (ha : a ∉ l) (h : doneU l a k = false) (hy : a < l.getD k 0) : bldU l a (k + 1) = bldU l a k ++ [a] ++ [l.getD k 0] := by
  rw [bldU, doneU_succ hk, h, ltB, decide_eq_true hy, if_pos (by rfl), bldU, if_neg (by rw [h]; simp), take_snocD hk, insU_mid (below h ha) (by omega)]
theorem bldU_no {l : List Int} {a : Int} {k : Nat} (hk : k < l.length) (h : doneU l a k = false) (hy : ¬ a < l.getD k 0) : bldU l a (k + 1) = bldU l a k ++ [l.getD k 0] := by
  rw [bldU, doneU_succ hk, h, ltB, decide_eq_false hy, if_neg (by simp), bldU, if_neg (by rw [h]; simp), take_snocD hk]
theorem bldU_end {l : List Int} {a : Int} (ha : a ∉ l) : insU l a = if doneU l a l.length = true then bldU l a l.length else bldU l a l.length ++ [a] := by
  by_cases h : doneU l a l.length = true
  · rw [if_pos h, bldU, if_pos h, List.take_length]
  · have h' : doneU l a l.length = false := by simpa using h
    have hb := below h' ha
    rw [List.take_length] at hb
    rw [if_neg h, bldU, if_neg h, List.take_length, insU_all hb]
theorem bldU_len (l : List Int) (a : Int) (k : Nat) (hk : k ≤ l.length) : (bldU l a k).length ≤ k + 1 ∧ k ≤ (bldU l a k).length := by
  have : (l.take k).length = k := by rw [List.length_take]; omega
  rw [bldU]
  split
  · rw [insU_len]; omega
  · omega
theorem join_ints {l : List Int} {a : Int} {f g : Nat → List Value} {n : Nat} (hn : n = l.length) (hf : ∀ i, i < l.length → f i = intsF l i) (hg : g 0 = [.int .i64 a]) {i : Nat} (hi : i < n + 1) : joinF f n g i = intsF (l ++ [a]) i := by
  subst hn
  by_cases h : i < l.length
  · have e : Nat.blt i l.length = true := by rw [nblt]; exact decide_eq_true h
    simp only [joinF, e, cond_true]
    rw [hf i h, intsF, intsF, List.getD_eq_getElem?_getD, List.getD_eq_getElem?_getD, List.getElem?_append_left h]
  · have e : Nat.blt i l.length = false := by rw [nblt]; exact decide_eq_false h
    obtain rfl : i = l.length := by omega
    simp only [joinF, e, cond_false]
    rw [Nat.sub_self, hg, intsF, List.getD_eq_getElem?_getD, List.getElem?_append_right (Nat.le_refl _), Nat.sub_self]; rfl
def rtakeE (L : List SideM) (R : RC) (c : ClaimM) (h : Int64) : (List SideM × RC) × Int :=
  if checkE L c = 0 then
    if (routsGo (claimID c) h false R 0 [claimPay c]).2 = 0 then ((L.set c.side.toNat (takeX (L.getD c.side.toNat default) c), (routsGo (claimID c) h false R 0 [claimPay c]).1), 0)
    else ((L, (routsGo (claimID c) h false R 0 [claimPay c]).1), (routsGo (claimID c) h false R 0 [claimPay c]).2)
  else ((L, R), checkE L c)
theorem twin_take {S : USet} {R : RC} (h : Twin S R) (L : List SideM) (c : ClaimM) (H : Int64) : (rtakeE L R c H).1.1 = (takeE L S c H).1.1 ∧ (rtakeE L R c H).2 = (takeE L S c H).2 ∧ Twin (takeE L S c H).1.2 (rtakeE L R c H).1.2 := by
  obtain ⟨h1, h2⟩ := twin_outs (claimID c) H false [claimPay c] S R 0 h
  rw [takeE, rtakeE, ← h2]
  by_cases h3 : checkE L c = 0
  · rw [if_pos h3, if_pos h3]
    by_cases h4 : (outsGo (claimID c) H false S 0 [claimPay c]).2 = 0
    · rw [if_pos h4, if_pos h4]; exact ⟨rfl, rfl, h1⟩
    · rw [if_neg h4, if_neg h4]; exact ⟨rfl, rfl, h1⟩
  · rw [if_neg h3, if_neg h3]; exact ⟨rfl, rfl, h⟩
end Go.Proofs.YtnpkdoggfnlapaaGreatDoor
namespace Go.Proofs.YtnpkdoggfnlapaaGreatDoor
set_option maxRecDepth 100000
open Go.Sx
section
variable {C : Ctx} {slots : List (Option XV)} {mem : Mem} {nx : Nat}
theorem Reg.shutsP (tS tE : TypeId) (L L' : List SideM) (c : Nat) {i1 q q2 m n sz k : Nat} {G : Nat → List Value} {f : Nat → List Value} {ad ad' : Nat → Nat → Option Addr × Nat} {p : Option Addr × Nat} (h0 : 0 < L'.length) (k0 : mem.get c = some (.cells tS [.slc i1 42 0 m])) (k1 : mem.get i1 = some (.vec tE 42 n G)) (k2 : mem.get q = some (.abs (PartsO n (regF L) ad))) (k3 : mem.get q2 = some (.abs (PartsO 1 (fun _ => [.row sz k f]) fun _ _ => p)))
    (hids : (Nat.beq c i1 || Nat.beq c q || Nat.beq i1 q || Nat.beq c q2 || Nat.beq i1 q2) = false) (hm : m = L'.length) (hn : n = L'.length) (hG : ∀ i, i < n → G i = fillA 0 (regF L' i) (ad' i)) (hF : ∀ i, i < n → ∀ (j : Nat) (x : AC), (regF L' i)[j]? = some x → (∃ u, x = AC.raw u) ∨ ((regF L i)[j]? = some x ∧ ad' i j = ad i j) ∨ (x = .row sz k f ∧ ad' i j = p)) :
    Ent C ⟨slots, mem, nx⟩ ⟨slots, (c, .abs (regP tS tE L')) :: Mem.dels ((i1, .abs (DeepP tE 42 n (regF L'))) :: mem.dels [i1, q, q2]) [c, i1], nx⟩ := by
  simp only [Bool.or_eq_false_iff, nbeq, decide_eq_false_iff_not] at hids
  obtain ⟨⟨⟨⟨d1, d2⟩, d3⟩, d4⟩, d5⟩ := hids
  refine (Ent.shutDeep (S := ⟨slots, mem, nx⟩) (F := regF L') (ad := ad') [q, q2] k1 (by omega) (Nat.le_refl _) (by simp [d3, d5]) hG (fun i hi j x hx => ?_)).trans ?_
  · rcases hF i hi j x hx with h | ⟨h, e⟩ | ⟨h, e⟩
    · exact .inl h
    · rw [e]; exact Backed.old (by simp) k2 hi h
    · rw [e, h]
      have := Backed.old (M := mem) (qs := [q, q2]) (q := q2) (i := 0) (j := 0) (x := .row sz k f) (by simp) k3 Nat.one_pos rfl
      exact this
  · refine Reg.shuts tS tE L' c h0 ?_ ?_ (by simpa [nbeq] using d1) hm hn fun _ _ => rfl
    · simp only [Mem.get, nbeq, Mem.get_dels]
      rw [show decide (i1 = c) = false from decide_eq_false (fun e => d1 e.symm)]
      simp only [cond_false]
      rw [if_neg (by simp only [List.mem_cons, List.not_mem_nil, or_false, not_or]; exact ⟨d1, d2, d4⟩)]
      exact k0
    · simp [Mem.get, nbeq]
end
def adAt (ad : Nat → Nat → Option Addr × Nat) (s : Nat) (p : Option Addr × Nat) (i j : Nat) : Option Addr × Nat := if i = s then (if j = 41 then p else ad i j) else ad i j
theorem adAt_self (ad : Nat → Nat → Option Addr × Nat) (s : Nat) (p : Option Addr × Nat) : adAt ad s p s = fun j => if j = 41 then p else ad s j := by funext j; rw [adAt, if_pos rfl]
theorem adAt_ne {ad : Nat → Nat → Option Addr × Nat} {s i : Nat} {p : Option Addr × Nat} (h : i ≠ s) : adAt ad s p i = ad i := by funext j; rw [adAt, if_neg h]
theorem used_rows {x y : SideM} (h1 : x.par.keys = y.par.keys) (h2 : x.cert.outs = y.cert.outs) (h3 : x.cert.sigs = y.cert.sigs) {j : Nat} {a : AC} (h : x.ac[j]? = some a) : (∃ u, a = AC.raw u) ∨ (y.ac[j]? = some a ∧ j ≠ 41) ∨ (a = .row 1 x.used.length (intsF x.used) ∧ j = 41) := by
  have hj : j < 42 := by have := (List.getElem?_eq_some_iff.1 h).1; rwa [SideM.ac_len] at this
  by_cases e : j = 41
  · subst e
    refine .inr (.inr ⟨?_, rfl⟩)
    have h4 : x.ac[41]? = some (.row 1 x.used.length (intsF x.used)) := rfl
    rw [h4] at h
    exact (Option.some.inj h).symm
  · have h5 : ({ x with used := y.used } : SideM).ac[j]? = x.ac[j]? := by
      have e1 : ({ x with used := y.used } : SideM).ac.take 41 = x.ac.take 41 := rfl
      rw [← List.getElem?_take_of_lt (l := ({ x with used := y.used } : SideM).ac) (show j < 41 by omega), e1, List.getElem?_take_of_lt (by omega)]
    rw [← h5] at h
    rcases side_rows (x := { x with used := y.used }) (y := y) h1 h2 h3 rfl h with h6 | h6
    · exact .inl h6
    · exact .inr (.inl ⟨h6, e⟩)
def rtkSt1 (L : List SideM) (R : RC) (c : ClaimM) : St :=
  ⟨[some (XV.sv (.ptr 0 0 0 0)), none, none, none, none, none, none, none, none, some (XV.sv (.ptr 9 0 0 0))] ++ List.replicate 114 none,
   [(0, .abs (rReg L)), (1, .abs (rcP R)), (9, .cells 46 (c.cells.map .raw))], 10⟩
def movedX (x : SideM) (c : ClaimM) : SideM := { x with bal := IntKind.i64.wrap (x.bal - c.st.amt), clm := IntKind.i64.wrap (x.clm + c.st.amt) }
def rtkSt2 (L : List SideM) (R : RC) (c : ClaimM) (ad : Nat → Nat → Option Addr × Nat) (x : SideM) (k : Nat) : St :=
  ⟨[some (XV.sv (.ptr 0 0 0 0)), none, none, none, none, none, none, none, none, some (XV.sv (.ptr 11 0 0 0)), none, none, none, some (XV.sv (.ptr 12 0 0 0)), some (XV.sv (.slc 13 1 0 (bldU x.used c.acct k).length)), some (XV.bool (doneU x.used c.acct k)), some (XV.int .i64 k)] ++ List.replicate 107 none,
   [(0, .cells rrS [.slc 9 42 0 L.length]), (1, .abs (rcP R)), (9, .vec rrE 42 L.length fun i => fillA 0 (regF L i) (ad i)), (10, .abs (PartsO L.length (regF L) ad)), (11, .cells 46 (c.cells.map .raw)), (12, .cells 109 ((fillA 0 (movedX x c).ac (ad c.side.toNat)).map .raw)), (13, .vec 3 1 (bldU x.used c.acct k).length (intsF (bldU x.used c.acct k)))], 14⟩
def rtkSt3 (L : List SideM) (R : RC) (c : ClaimM) (ad : Nat → Nat → Option Addr × Nat) (x : SideM) : St :=
  ⟨[some (XV.sv (.ptr 0 0 0 0)), none, none, none, none, none, none, none, none, some (XV.sv (.ptr 11 0 0 0)), none, none, none, some (XV.sv (.ptr 12 0 0 0)), some (XV.sv (.slc 13 1 0 (insU x.used c.acct).length))] ++ List.replicate 109 none,
   [(0, .cells rrS [.slc 9 42 0 L.length]), (1, .abs (rcP R)), (9, .vec rrE 42 L.length fun i => fillA 0 (regF L i) (ad i)), (10, .abs (PartsO L.length (regF L) ad)), (11, .cells 46 (c.cells.map .raw)), (12, .cells 109 ((fillA 0 (movedX x c).ac (ad c.side.toNat)).map .raw)), (13, .vec 3 1 (insU x.used c.acct).length (intsF (insU x.used c.acct)))], 14⟩
theorem cut1_one {n : Int} : ∀ i, i < 1 → ((cutF [Value.int .i64 n] 1 (0 + i)).all fun v => v.oneCell') = true := fun i hi => by
  obtain rfl := Nat.lt_one_iff.1 hi
  rfl
set_option maxHeartbeats 8000000 in
theorem rtake_can (L : List SideM) (R : RC) (c : ClaimM) (h : Int64) (hL : ∀ i, i < L.length → (L.getD i default).Sized) (hl : L.length ≤ 1000) (hPC : R.P.length = R.C.length) (hR : R.P.length < 900000) (hu : ∀ i, i < L.length → (L.getD i default).used.length < 900000) :
    Does Tryz.prog 24 [(.abs (rReg L), .abs (rReg (rtakeE L R c h).1.1)), (.abs (rcP R), .abs (rcP (rtakeE L R c h).1.2))] [.box (claimTx c).ac, .plain (.one (.raw (.int .i64 h.toInt)))] [] (XV.int .i64 (rtakeE L R c h).2) none := by
  have hmay := rmay5_can c
  refine Does.of Tryz.T_ok Tryz.func24 rfl _ _ _ _ _ rfl rfl rfl 0 (fun C hC => ?_)
  (replace hC : C.n0 = 9 := hC; change Tri _ _ _ ⟨_, _, 9⟩ _)
  cases hb : claimOK c with
  | false =>
    rw [hb] at hmay
    have he : checkE L c = 4 := by rw [checkE, if_pos hb]
    have ht : rtakeE L R c h = ((L, R), 4) := by rw [rtakeE, he, if_neg (by decide)]
    rw [ht]
    refine Tri.of Tryz.mixed Tryz.T_ok ?_
    (refine xB ?_)
    repeat (first | (refine wFd rfl ?_; refine xG ?_) | (refine wTd rfl ?_; refine xG ?_))
    (apply wP; exact (call_op rfl (entersB_of Tryz.func57 (by kernel_rfl)) rfl (hmay.at [2, 3, 4, 5, 6, 7] ⟨lend_tx (t := claimTx c) (lend_ro0 rfl rfl) (lend_ro0 rfl rfl) (lend_ro0 rfl rfl) (lend_ro0 rfl rfl) (lend_ro0 rfl rfl) (lend_ro0 rfl rfl), trivial⟩ trivial)); refine xZ ?_)
    exact wD (Sx.Ends.shutN2 (.inr rfl) (Ent.refl _) rfl rfl rfl rfl)
  | true =>
    rw [hb] at hmay
    obtain ⟨⟨s1, s2⟩, ⟨a1, a2⟩, w1, ⟨m1, m2⟩, n1, n2⟩ := claimOK_iff.1 hb
    (refine Tri.cut 5 Tryz.mixed Tryz.T_ok ?_; refine xZ ?_)
    repeat (first | (refine wFd rfl ?_; refine xG ?_) | (refine wTd rfl ?_; refine xG ?_))
    (apply wP; exact (call_op rfl (entersB_of Tryz.func57 (by kernel_rfl)) rfl (hmay.at [2, 3, 4, 5, 6, 7] ⟨lend_tx (t := claimTx c) (lend_ro0 rfl rfl) (lend_ro0 rfl rfl) (lend_ro0 rfl rfl) (lend_ro0 rfl rfl) (lend_ro0 rfl rfl) (lend_ro0 rfl rfl), trivial⟩ trivial)); refine xZ ?_)
    (apply wP; exact (call_op rfl (entersB_of Tryz.func43 (by kernel_rfl)) rfl ((rcheck_can L c hL hl).at [] rfl rfl rfl ⟨lend_plain rfl, trivial⟩ trivial)); refine xZ ?_)
    refine wC (fun h1 => ?_) (fun h1 => ?_)
    · have h1' : checkE L c ≠ 0 := by simpa using h1
      have ht : rtakeE L R c h = ((L, R), checkE L c) := by rw [rtakeE, if_neg h1']
      rw [ht]
      (refine xG ?_)
      exact wD <| cutR <| Sx.Ends.shutN2 (.inr rfl) (Ent.refl _) rfl rfl rfl rfl
    have h1' : checkE L c = 0 := by simpa using h1
    have ht : rtakeE L R c h = if (routsGo (claimID c) h false R 0 [claimPay c]).2 = 0 then ((L.set c.side.toNat (takeX (L.getD c.side.toNat default) c), (routsGo (claimID c) h false R 0 [claimPay c]).1), 0) else ((L, (routsGo (claimID c) h false R 0 [claimPay c]).1), (routsGo (claimID c) h false R 0 [claimPay c]).2) := by rw [rtakeE, if_pos h1']
    rw [ht]
    have hout := raddouts_can R (claimID c) [claimPay c] h false (show 1 ≤ 1000 by decide) hPC hR
    obtain ⟨⟨R', e⟩, ho⟩ : ∃ p, routsGo (claimID c) h false R 0 [claimPay c] = p := ⟨_, rfl⟩
    rw [ho] at hout ⊢
    dsimp only at hout ⊢
    have hamt : (claimPay c).amt.toInt = c.st.amt := amt64 hb
    (refine xG ?_)
    refine wD <| cutG <| ?_
    (refine Tri.cut 3 Tryz.mixed Tryz.T_ok ?_; refine xZ ?_)
    (apply wP; exact (call_op rfl (entersB_of Tryz.func16 (by kernel_rfl)) rfl ((rid5_can c hb).at [2, 3, 4, 5, 6, 7] ⟨lend_tx (t := claimTx c) (lend_ro0 rfl rfl) (lend_ro0 rfl rfl) (lend_ro0 rfl rfl) (lend_ro0 rfl rfl) (lend_ro0 rfl rfl) (lend_ro0 rfl rfl), trivial⟩ trivial)); refine xZ ?_)
    (apply wP; exact (call_op rfl (entersB_of Tryz.func58 (by kernel_rfl)) rfl (hout.at [46] rfl rfl rfl ⟨lend_plain rfl, lend_vecN (lo := 0) rfl rfl rfl (Nat.le_refl _) (fun i hi => by obtain rfl := Nat.lt_one_iff.1 hi; show (claimPay c).cells = _; rw [OutM.cells, show i64 (claimPay c).amt = .int .i64 c.st.amt from congrArg _ hamt]; rfl), lend_plain rfl, lend_plain rfl, trivial⟩ trivial)); refine xZ ?_)
    refine wC (fun h2 => ?_) (fun h2 => ?_)
    · have h2' : e ≠ 0 := by simpa using h2
      rw [if_neg h2']
      (refine xG ?_)
      exact wD <| cutR <| Sx.Ends.shutN2 (.inr rfl) (Ent.refl _) rfl rfl rfl rfl
    have h2' : e = 0 := by simpa using h2
    rw [if_pos h2']
    have hi : c.side.toNat < L.length := by
      rcases Nat.lt_or_ge c.side.toNat L.length with h | h
      · exact h
      · rw [checkE, if_neg (by rw [hb]; simp), if_pos (by omega)] at h1'; cases h1'
    have h0 : 0 < L.length := by omega
    have hx0 : checkX (L.getD c.side.toNat default) c = 0 := by
      rw [checkE, if_neg (by rw [hb]; simp), if_neg (by omega)] at h1'; exact h1'
    obtain ⟨q1, q2, q3, q4⟩ := checkX_zero hx0
    have hlu := hu _ hi
    obtain ⟨x, hx⟩ : ∃ x, L.getD c.side.toNat default = x := ⟨_, rfl⟩
    rw [hx] at q2 hlu
    (refine xG ?_)
    refine wD <| cutG <| Tri.ent (S' := rtkSt1 L R' c) ?_ ?_
    · unfold rtkSt1
      ((try dsimp only); refine Ent.renC [0, 1, 2, 3, 4, 5, 6, 7, 8, 21] hC ?_ ?_ <;> repeat' (first | exact trivial | exact rfl | exact ⟨_, rfl, rfl, rfl, Nat.le_refl _, fun _ _ => rfl⟩ | exact ⟨_, rfl, rfl, rfl, fun _ _ => rfl⟩ | exact ⟨_, rfl, rfl, rfl⟩ | exact ⟨_, rfl, rfl⟩ | refine ⟨_, rfl, rfl, rfl, by omega, fun k hk => ?_⟩ | refine ⟨?_, ?_⟩ | fail))
    unfold rtkSt1
    refine Reg.opens rrS rrE L 0 h0 rfl (Nat.le_of_ble_eq_true rfl) (fun ad => ?_)
    (refine Tri.cut 4 Tryz.mixed Tryz.T_ok ?_; refine xZ ?_)
    (repeat (refine wN ?_ ?_; exact xW; refine xG ?_))
    simp only [Nat.zero_add]
    refine wD <| cutG <| Tri.ent (Ent.nils (t := 14) rfl 3 1) <| Tri.seq ?_
    (refine Tri.cut 1 Tryz.mixed Tryz.T_ok ?_; refine xZ ?_)
    refine wD <| cutG <| Tri.block ?_
    refine Tri.loop (α := { k : Nat // k ≤ x.used.length }) (fun k => rtkSt2 L R' c ad x k.1) (fun k => x.used.length - k.1) ⟨0, Nat.zero_le _⟩ ?_ ?_
    · unfold rtkSt2
      rw [hx]
      ((try dsimp only); refine Ent.renC [0, 1, 2, 3, 4, 5, 6, 7, 8, 11, 12, 9, 21, 41] hC ?_ ?_ <;> repeat' (first | exact trivial | exact rfl | exact ⟨_, rfl, rfl, rfl, Nat.le_refl _, fun _ _ => rfl⟩ | exact ⟨_, rfl, rfl, rfl, fun _ _ => rfl⟩ | exact ⟨_, rfl, rfl, rfl⟩ | exact ⟨_, rfl, rfl⟩ | refine ⟨_, rfl, rfl, rfl, by omega, fun k hk => ?_⟩ | refine ⟨?_, ?_⟩ | fail))
      · exact Nat.le_refl 0
      · exact fun k hk => absurd hk (Nat.not_lt_zero _)
    rintro ⟨k, hk⟩
    have hbl := bldU_len x.used c.acct k hk
    dsimp only
    unfold rtkSt2
    rw [hx]
    (refine Tri.cut 1 Tryz.mixed Tryz.T_ok ?_; refine xZ ?_)
    refine wC (fun h3 => ?_) (fun h3 => ?_)
    · (refine xG ?_)
      have h3' : k < x.used.length := by have h9 : ((k : Nat) : Int) < ((x.used.length : Nat) : Int) := of_decide_eq_true h3; omega
      have hw : IntKind.i64.wrap ((k : Int) + 1) = ((k + 1 : Nat) : Int) := xW
      have hds := doneU_succ (a := c.acct) h3'
      have hre : regF L c.side.toNat = x.ac := by rw [regF, hx]
      refine wD <| cutG <| Tri.seq <| Tri.block <| Tri.of Tryz.mixed Tryz.T_ok ?_
      (refine xB ?_)
      refine wC (fun h4 => ?_) (fun h4 => ?_)
      · -- not yet
        have h4' : doneU x.used c.acct k = false := by simpa using h4
        (refine xG ?_)
        (refine wP _ _ (partIndex_op Tryz.T_ok rfl rfl rfl rfl rfl (I := c.side.toNat) (J := 41) (F := regF L) (ad := ad) (q := 10) (f := intsF x.used) rfl rfl rfl hi (by rw [hre]; rfl) h3') ?_; refine xZ ?_)
        (refine wP _ _ (partLoad_op Tryz.T_ok rfl rfl (I := c.side.toNat) (J := 41) (F := regF L) (ad := ad) (q := 10) (sz := 1) (f := intsF x.used) rfl rfl hi (by rw [hre]; rfl) rfl h3' rfl) ?_; refine xZ ?_)
        refine wC (fun h5 => ?_) (fun h5 => ?_)
        · have h5' : c.acct < x.used.getD k 0 := of_decide_eq_true h5
          (refine xG ?_)
          (refine wP _ _ (append_op Tryz.T_ok rfl rfl rfl rfl rfl [13, 34] (old_vec rfl rfl (Nat.le_refl _) rfl) (new_vec (lo := 0) rfl rfl (Nat.le_of_eq (Nat.zero_add _)) rfl) rfl cut1_one (by simp only [maxLen]; omega) (by dsimp only; omega)) ?_; refine xZ ?_)
          (refine wP _ _ (partIndex_op Tryz.T_ok rfl rfl rfl rfl rfl (I := c.side.toNat) (J := 41) (F := regF L) (ad := ad) (q := 10) (f := intsF x.used) rfl rfl rfl hi (by rw [hre]; rfl) h3') ?_; refine xZ ?_)
          (refine wP _ _ (partLoad_op Tryz.T_ok rfl rfl (I := c.side.toNat) (J := 41) (F := regF L) (ad := ad) (q := 10) (sz := 1) (f := intsF x.used) rfl rfl hi (by rw [hre]; rfl) rfl h3' rfl) ?_; refine xZ ?_)
          (refine wP _ _ (append_op Tryz.T_ok rfl rfl rfl rfl rfl [35, 44] (old_vec rfl rfl (Nat.le_refl _) rfl) (new_vec (lo := 0) rfl rfl (Nat.le_of_eq (Nat.zero_add _)) rfl) rfl cut1_one (by simp only [maxLen]; omega) (by dsimp only; omega)) ?_; refine xZ ?_)
          refine wD <| blockN <| cutG <| Tri.of Tryz.mixed Tryz.T_ok ?_
          (refine xB ?_)
          refine wD <| loopN ⟨⟨k + 1, h3'⟩, by dsimp only; omega, ?_⟩
          rw [hw]
          dsimp only
          rw [bldU_now h3' q2 h4' h5', hds, h4', ltB, decide_eq_true h5']
          simp only [List.length_append]
          ((try dsimp only); refine Ent.renC [0, 1, 2, 3, 4, 5, 6, 7, 8, 9, 10, 11, 12, 45] hC ?_ ?_ <;> repeat' (first | exact trivial | exact rfl | exact ⟨_, rfl, rfl, rfl, Nat.le_refl _, fun _ _ => rfl⟩ | exact ⟨_, rfl, rfl, rfl, fun _ _ => rfl⟩ | exact ⟨_, rfl, rfl, rfl⟩ | exact ⟨_, rfl, rfl⟩ | refine ⟨_, rfl, rfl, rfl, by omega, fun k hk => ?_⟩ | refine ⟨?_, ?_⟩ | fail))
          · exact Nat.le_refl _
          · exact fun i hi => join_ints (l := bldU x.used c.acct k ++ [c.acct]) (by rw [List.length_append]; rfl) (fun j hj => join_ints rfl (fun _ _ => rfl) rfl (by rw [List.length_append] at hj; exact hj)) rfl hi
        · have h5' : ¬ c.acct < x.used.getD k 0 := of_decide_eq_false h5
          (refine xG ?_)
          (refine wP _ _ (partIndex_op Tryz.T_ok rfl rfl rfl rfl rfl (I := c.side.toNat) (J := 41) (F := regF L) (ad := ad) (q := 10) (f := intsF x.used) rfl rfl rfl hi (by rw [hre]; rfl) h3') ?_; refine xZ ?_)
          (refine wP _ _ (partLoad_op Tryz.T_ok rfl rfl (I := c.side.toNat) (J := 41) (F := regF L) (ad := ad) (q := 10) (sz := 1) (f := intsF x.used) rfl rfl hi (by rw [hre]; rfl) rfl h3' rfl) ?_; refine xZ ?_)
          (refine wP _ _ (append_op Tryz.T_ok rfl rfl rfl rfl rfl [13, 37] (old_vec rfl rfl (Nat.le_refl _) rfl) (new_vec (lo := 0) rfl rfl (Nat.le_of_eq (Nat.zero_add _)) rfl) rfl cut1_one (by simp only [maxLen]; omega) (by dsimp only; omega)) ?_; refine xZ ?_)
          refine wD <| blockN <| cutG <| Tri.of Tryz.mixed Tryz.T_ok ?_
          (refine xB ?_)
          refine wD <| loopN ⟨⟨k + 1, h3'⟩, by dsimp only; omega, ?_⟩
          rw [hw]
          dsimp only
          rw [bldU_no h3' h4' h5', hds, h4', ltB, decide_eq_false h5']
          simp only [List.length_append]
          ((try dsimp only); refine Ent.renC [0, 1, 2, 3, 4, 5, 6, 7, 8, 9, 10, 11, 12, 38] hC ?_ ?_ <;> repeat' (first | exact trivial | exact rfl | exact ⟨_, rfl, rfl, rfl, Nat.le_refl _, fun _ _ => rfl⟩ | exact ⟨_, rfl, rfl, rfl, fun _ _ => rfl⟩ | exact ⟨_, rfl, rfl, rfl⟩ | exact ⟨_, rfl, rfl⟩ | refine ⟨_, rfl, rfl, rfl, by omega, fun k hk => ?_⟩ | refine ⟨?_, ?_⟩ | fail))
          · exact Nat.le_refl _
          · exact fun i hi => join_ints rfl (fun _ _ => rfl) rfl hi
      · have h4' : doneU x.used c.acct k = true := by simpa using h4
        (refine xG ?_)
        (refine wP _ _ (partIndex_op Tryz.T_ok rfl rfl rfl rfl rfl (I := c.side.toNat) (J := 41) (F := regF L) (ad := ad) (q := 10) (f := intsF x.used) rfl rfl rfl hi (by rw [hre]; rfl) h3') ?_; refine xZ ?_)
        (refine wP _ _ (partLoad_op Tryz.T_ok rfl rfl (I := c.side.toNat) (J := 41) (F := regF L) (ad := ad) (q := 10) (sz := 1) (f := intsF x.used) rfl rfl hi (by rw [hre]; rfl) rfl h3' rfl) ?_; refine xZ ?_)
        (refine wP _ _ (append_op Tryz.T_ok rfl rfl rfl rfl rfl [13, 37] (old_vec rfl rfl (Nat.le_refl _) rfl) (new_vec (lo := 0) rfl rfl (Nat.le_of_eq (Nat.zero_add _)) rfl) rfl cut1_one (by simp only [maxLen]; omega) (by dsimp only; omega)) ?_; refine xZ ?_)
        refine wD <| blockN <| cutG <| Tri.of Tryz.mixed Tryz.T_ok ?_
        (refine xB ?_)
        refine wD <| loopN ⟨⟨k + 1, h3'⟩, by dsimp only; omega, ?_⟩
        rw [hw]
        dsimp only
        rw [bldU_yes h3' h4', hds, h4', Bool.true_or]
        simp only [List.length_append]
        ((try dsimp only); refine Ent.renC [0, 1, 2, 3, 4, 5, 6, 7, 8, 9, 10, 11, 12, 38] hC ?_ ?_ <;> repeat' (first | exact trivial | exact rfl | exact ⟨_, rfl, rfl, rfl, Nat.le_refl _, fun _ _ => rfl⟩ | exact ⟨_, rfl, rfl, rfl, fun _ _ => rfl⟩ | exact ⟨_, rfl, rfl, rfl⟩ | exact ⟨_, rfl, rfl⟩ | refine ⟨_, rfl, rfl, rfl, by omega, fun k hk => ?_⟩ | refine ⟨?_, ?_⟩ | fail))
        · exact Nat.le_refl _
        · exact fun i hi => join_ints rfl (fun _ _ => rfl) rfl hi
    · (refine xG ?_)
      have h3' : k = x.used.length := by have h9 : ¬ ((k : Nat) : Int) < ((x.used.length : Nat) : Int) := of_decide_eq_false h3; omega
      subst h3'
      have hend := bldU_end q2
      refine wD <| cutE <| loopX <| blockX <| cutG <| Tri.merge (rtkSt3 L R' c ad x) (Tri.of Tryz.mixed Tryz.T_ok ?_) ?_
      · (refine xB ?_)
        refine wC (fun h4 => ?_) (fun h4 => ?_)
        · have h4' : doneU x.used c.acct x.used.length = false := by simpa using h4
          rw [if_neg (by rw [h4']; simp)] at hend
          (refine xG ?_)
          (refine wP _ _ (append_op Tryz.T_ok rfl rfl rfl rfl rfl [13, 24] (old_vec rfl rfl (Nat.le_refl _) rfl) (new_vec (lo := 0) rfl rfl (Nat.le_of_eq (Nat.zero_add _)) rfl) rfl cut1_one (by simp only [maxLen]; omega) (by dsimp only; omega)) ?_; refine xZ ?_)
          refine wD ⟨rfl, ?_⟩
          unfold rtkSt3
          rw [hend]
          simp only [List.length_append]
          ((try dsimp only); refine Ent.renC [0, 1, 2, 3, 4, 5, 6, 7, 8, 9, 10, 11, 12, 25] hC ?_ ?_ <;> repeat' (first | exact trivial | exact rfl | exact ⟨_, rfl, rfl, rfl, Nat.le_refl _, fun _ _ => rfl⟩ | exact ⟨_, rfl, rfl, rfl, fun _ _ => rfl⟩ | exact ⟨_, rfl, rfl, rfl⟩ | exact ⟨_, rfl, rfl⟩ | refine ⟨_, rfl, rfl, rfl, by omega, fun k hk => ?_⟩ | refine ⟨?_, ?_⟩ | fail))
          · exact Nat.le_refl _
          · exact fun i hi => join_ints rfl (fun _ _ => rfl) rfl hi
        · have h4' : doneU x.used c.acct x.used.length = true := by simpa using h4
          rw [if_pos h4'] at hend
          (refine xG ?_)
          refine wD ⟨rfl, ?_⟩
          unfold rtkSt3
          rw [hend]
          ((try dsimp only); refine Ent.renC [0, 1, 2, 3, 4, 5, 6, 7, 8, 9, 10, 11, 12, 13] hC ?_ ?_ <;> repeat' (first | exact trivial | exact rfl | exact ⟨_, rfl, rfl, rfl, Nat.le_refl _, fun _ _ => rfl⟩ | exact ⟨_, rfl, rfl, rfl, fun _ _ => rfl⟩ | exact ⟨_, rfl, rfl, rfl⟩ | exact ⟨_, rfl, rfl⟩ | refine ⟨_, rfl, rfl, rfl, by omega, fun k hk => ?_⟩ | refine ⟨?_, ?_⟩ | fail))
      unfold rtkSt3
      obtain ⟨u, hu'⟩ : ∃ u, insU x.used c.acct = u := ⟨_, rfl⟩
      have htx : takeX x c = { movedX x c with used := u } := by rw [← hu']; rfl
      rw [hu', htx]
      refine Tri.part (t := 14) rfl rfl (fun p => Tri.of Tryz.mixed Tryz.T_ok ?_)
      (refine xB ?_)
      (repeat (refine wN ?_ ?_; exact xW; refine xG ?_))
      simp only [Nat.zero_add]
      have hll : ∀ y : SideM, (L.set c.side.toNat y).length = L.length := fun y => List.length_set ..
      refine wD (Sx.Ends.shutN2 (.inr rfl) (Reg.shutsP rrS rrE L (L.set c.side.toNat { movedX x c with used := u }) 0 (i1 := 9) (q := 10) (q2 := 14) (ad := ad) (ad' := adAt ad c.side.toNat p) (p := p) (sz := 1) (k := u.length) (f := intsF u) (by rw [hll]; exact h0) rfl rfl rfl rfl rfl (hll _).symm (hll _).symm (fun i hi' => ?_) (fun i hi' j y hy => ?_)) rfl rfl rfl rfl)
      · by_cases hki : i = c.side.toNat
        · subst hki
          rw [updF_eq, regF_at hi, adAt_self]; rfl
        · rw [updF_ne hki, regF_ne hki, adAt_ne hki]
      · by_cases hki : i = c.side.toNat
        · subst hki
          rw [regF_at hi] at hy
          rw [adAt_self]
          have hre : regF L c.side.toNat = x.ac := by rw [regF, hx]
          rw [hre]
          rcases used_rows (x := { movedX x c with used := u }) (y := x) rfl rfl rfl hy with h6 | ⟨h6, h7⟩ | ⟨h6, h7⟩
          · exact .inl h6
          · exact .inr (.inl ⟨h6, if_neg h7⟩)
          · exact .inr (.inr ⟨h6, if_pos h7⟩)
        · rw [regF_ne hki] at hy
          rw [adAt_ne hki]
          exact .inr (.inl ⟨hy, rfl⟩)
end Go.Proofs.YtnpkdoggfnlapaaGreatDoor
namespace Go.Proofs.YtnpkdoggfnlapaaGreatDoor
set_option maxRecDepth 100000
open Go.Sx
theorem rtake1_can (x : SideM) (R : RC) (c : ClaimM) (h : Int64) (hx : x.Sized) (hPC : R.P.length = R.C.length) (hR : R.P.length < 900000) (hu : x.used.length < 900000) :
    Does Tryz.prog 24 [(.abs (rReg [x]), .abs (rReg (rtakeE [x] R c h).1.1)), (.abs (rcP R), .abs (rcP (rtakeE [x] R c h).1.2))] [.box (claimTx c).ac, .plain (.one (.raw (.int .i64 h.toInt)))] [] (XV.int .i64 (rtakeE [x] R c h).2) none := by
  refine rtake_can [x] R c h (fun i hi => ?_) (by show 1 ≤ 1000; decide) hPC hR (fun i hi => ?_)
  · obtain rfl : i = 0 := by have : i < 1 := hi; omega
    exact hx
  · obtain rfl : i = 0 := by have : i < 1 := hi; omega
    exact hu
end Go.Proofs.YtnpkdoggfnlapaaGreatDoor

/- Parts Yn Yj Yk. -/
import Derived.Test.YtnpkdoggfnlapaaGreatDoorG21
import Derived.Test.YtnpkdoggfnlapaaGreatDoorG20
set_option linter.unusedSimpArgs false
set_option linter.unusedVariables false
namespace Go.Proofs.YtnpkdoggfnlapaaGreatDoor
set_option maxRecDepth 100000
open Go.Sx
theorem short4 (p : UInt8) (a b c d : List UInt8) (h : a.length + b.length + c.length + d.length ≤ 900000000) : Short (encAll p [a, b, c, d]) := by
  show (encN p [a, b, c, d] 4).length ≤ _
  rw [encN_length, encN_length, encN_length, encN_length]
  show [p].length + 4 + a.length + 4 + b.length + 4 + c.length + 4 + d.length ≤ _
  simp; omega
def snumSt (n : Int) (w i : Nat) : St := ⟨[some (XV.int .i64 n), some (XV.int .i64 w), none, none, none, none, some (XV.sv (.slc 2 1 0 i)), none, some (XV.int .i64 w), some (XV.int .i64 i)] ++ List.replicate 21 none, [(2, .vec 5 1 i (rowB (numL n i)))], 3⟩
set_option maxHeartbeats 2000000 in
theorem snum_can (n : Int) (w : Nat) (hf : FitsN n w) : Makes Tryz.prog 144 [.plain (.one (.raw (.int .i64 n))), .plain (.one (.raw (.int .i64 w)))] [] (.tup [.one (.slc 0 1 0 w), .one (.raw (.bool true))]) (.vec 5 1 w (rowB (numL n w))) := by
  obtain ⟨f1, f2, f3, f4⟩ := id hf
  refine Makes.of Tryz.T_ok Tryz.func144 rfl _ _ _ _ rfl rfl rfl rfl 2 (fun C hC => ?_)
  (replace hC : C.n0 = 2 := hC; change Tri _ _ _ ⟨_, _, 2⟩ _)
  (refine Tri.cut 2 Tryz.mixed Tryz.T_ok ?_; refine xZ ?_)
  refine wD <| cutG <| Tri.ent (Ent.nils (t := 6) rfl 5 1) <| Tri.seq ?_
  (refine Tri.cut 1 Tryz.mixed Tryz.T_ok ?_; refine xZ ?_)
  refine wD <| cutG <| Tri.block ?_
  refine Tri.loop (α := { i : Nat // i ≤ w }) (fun i => snumSt n w i.1) (fun i => w - i.1) ⟨0, Nat.zero_le _⟩ ?_ ?_
  · unfold snumSt
    ((try dsimp only); refine Ent.renC [0, 1, 5] hC ?_ ?_ <;> repeat' (first | exact trivial | exact rfl | exact ⟨_, rfl, rfl, rfl, Nat.le_refl _, fun _ _ => rfl⟩ | exact ⟨_, rfl, rfl, rfl, fun _ _ => rfl⟩ | exact ⟨_, rfl, rfl, rfl⟩ | exact ⟨_, rfl, rfl⟩ | refine ⟨_, rfl, rfl, rfl, by omega, fun k hk => ?_⟩ | refine ⟨?_, ?_⟩ | fail))
    exact absurd hk (Nat.not_lt_zero _)
  rintro ⟨i, hi⟩
  dsimp only
  unfold snumSt
  (refine Tri.cut 2 Tryz.mixed Tryz.T_ok ?_; refine xZ ?_)
  refine wC (fun h1 => ?_) (fun h1 => ?_)
  · (refine xG ?_)
    have h1' : i < w := xW
    have e1 : IntKind.i64.wrap (8 * (i : Int)) = ((8 * i : Nat) : Int) := xW
    refine wD <| cutG <| Tri.seq <| Tri.block <| Tri.of Tryz.mixed Tryz.T_ok ?_
    (refine xB ?_)
    simp only [e1]
    (repeat (refine wN ?_ ?_; exact xW; refine xG ?_))
    (refine wP _ _ (append_op Tryz.T_ok rfl rfl rfl rfl rfl [2, 12] (old_vec rfl rfl (Nat.le_refl _) rfl) (new_vec (lo := 0) rfl rfl (Nat.le_refl _) rfl) rfl (lt1 rfl) (by simp only [maxLen]; omega) (by dsimp only; omega)) ?_; refine xZ ?_)
    refine wD <| blockN <| cutG <| Tri.of Tryz.mixed Tryz.T_ok ?_
    (refine xB ?_)
    have hw : IntKind.i64.wrap ((i : Int) + 1) = ((i + 1 : Nat) : Int) := xW
    refine wD <| loopN ⟨⟨i + 1, h1'⟩, by dsimp only; omega, ?_⟩
    rw [hw]
    ((try dsimp only); refine Ent.renC [0, 1, 13] hC ?_ ?_ <;> repeat' (first | exact trivial | exact rfl | exact ⟨_, rfl, rfl, rfl, Nat.le_refl _, fun _ _ => rfl⟩ | exact ⟨_, rfl, rfl, rfl, fun _ _ => rfl⟩ | exact ⟨_, rfl, rfl, rfl⟩ | exact ⟨_, rfl, rfl⟩ | refine ⟨_, rfl, rfl, rfl, by omega, fun k hk => ?_⟩ | refine ⟨?_, ?_⟩ | fail))
    exact rowB_snoc (a := numL n i) (x := numB n i) (numL_length n i).symm (by rw [numB, u8_byteI]; rfl) (by rw [numL_length]; exact hk)
  · (refine xG ?_)
    have h1' : i = w := xW
    subst h1'
    have e1 : IntKind.i64.wrap (8 * (i : Int)) = ((8 * i : Nat) : Int) := xW
    refine wD <| cutE <| loopX <| blockX <| cutG <| Tri.of Tryz.mixed Tryz.T_ok ?_
    (refine xB ?_)
    (refine wTd ?_ ?_; (first | refine decide_eq_true ?_ | rw [beq_iff_eq] | rw [bne_iff_ne]); exact xW; refine xG ?_)
    simp only [e1]
    (repeat (refine wN ?_ ?_; exact xW; refine xG ?_))
    rw [fits_shr hf]
    exact wD (Ends.made (.inr rfl) (Ent.refl _) rfl (Nat.le_refl _) rfl)
def AccM.x (a : AccM) : CV := .agg (a.cells.map .raw)
structure LeafOK (i : Int) (a : AccM) : Prop where
  place : 0 ≤ i ∧ i ≤ 65535
  owner : zeroB a.owner = false
  amt : 0 ≤ a.amt ∧ a.amt < 72057594037927936
  nonce : 0 ≤ a.nonce ∧ a.nonce ≤ 255
set_option maxHeartbeats 2000000 in
theorem leafP_can (i : Int) (a : AccM) (h : LeafOK i a) : Reads Tryz.prog 85 [.plain (.one (.raw (.int .i64 i))), .plain a.x] [stepsP] (hashX (leafA i a)) := by
  have h1 := h.place
  have h3 := h.amt
  have h4 := h.nonce
  have hz := zero_can a.owner
  rw [h.owner] at hz
  refine Reads.of Tryz.T_ok Tryz.func85 rfl _ _ _ rfl rfl (fun C hC => ?_)
  (replace hC : C.n0 = 3 := hC; change Tri _ _ _ ⟨_, _, 3⟩ _)
  refine Tri.of Tryz.mixed Tryz.T_ok ?_
  (refine xB ?_)
  (apply wP; exact (call_op rfl (entersB_of Tryz.func144 (by kernel_rfl)) rfl ((snum_can i 2 ⟨by decide, by decide, by omega, by omega⟩).at [] ⟨lend_plain rfl, lend_plain rfl, trivial⟩ trivial)); refine xZ ?_)
  (apply wP; exact (call_op rfl (entersB_of Tryz.func144 (by kernel_rfl)) rfl ((snum_can a.amt 7 ⟨by decide, by decide, by omega, by omega⟩).at [] ⟨lend_plain rfl, lend_plain rfl, trivial⟩ trivial)); refine xZ ?_)
  (apply wP; exact (call_op rfl (entersB_of Tryz.func144 (by kernel_rfl)) rfl ((snum_can a.nonce 1 ⟨by decide, by decide, by omega, by omega⟩).at [] ⟨lend_plain rfl, lend_plain rfl, trivial⟩ trivial)); refine xZ ?_)
  (apply wP; exact (call_op rfl (entersB_of Tryz.func145 (by kernel_rfl)) rfl (hz.at [] ⟨lend_plain rfl, trivial⟩ trivial)); refine xZ ?_)
  (refine wP _ _ (cellsNew_op Tryz.T_ok rfl rfl rfl) ?_; refine xZ ?_)
  (apply wP; exact (call_op rfl (entersB_of Tryz.func146 (by kernel_rfl)) rfl ((of_can 97 [numL i 2, a.owner.l, numL a.amt 7, numL a.nonce 1] (short4 _ _ _ _ _ (by simp only [numL_length, H8.l_len]; decide))).at [48, 6, 3, 14, 22, 2] ⟨lend_plain rfl, lend_parts [numL i 2, a.owner.l, numL a.amt 7, numL a.nonce 1] rfl rfl rfl ⟨lend_vec0 rfl rfl, lend_sla rfl rfl (fun _ _ => rfl) rfl, lend_vec0 rfl rfl, lend_vec0 rfl rfl, trivial⟩, trivial⟩ ⟨lend_ext (c := 2) rfl rfl, trivial⟩)); refine xZ ?_)
  exact wD (Ends.plain (.inr rfl) rfl rfl)
set_option maxHeartbeats 2000000 in
theorem leafR_can (i : Int) (a : AccM) (h : LeafOK i a) : Reads Tryz.prog 88 [.plain (.one (.raw (.int .i64 i))), .plain a.x] [] (hashX (leafA i a)) := by
  have h1 := h.place
  have h3 := h.amt
  have h4 := h.nonce
  have hz := rzero_can a.owner
  rw [h.owner] at hz
  refine Reads.of Tryz.T_ok Tryz.func88 rfl _ _ _ rfl rfl (fun C hC => ?_)
  (replace hC : C.n0 = 2 := hC; change Tri _ _ _ ⟨_, _, 2⟩ _)
  refine Tri.of Tryz.mixed Tryz.T_ok ?_
  (refine xB ?_)
  (apply wP; exact (call_op rfl (entersB_of Tryz.func147 (by kernel_rfl)) rfl (hz.at [] ⟨lend_plain rfl, trivial⟩ trivial)); refine xZ ?_)
  (refine wFd ?_ ?_; (first | refine decide_eq_false ?_ | rw [beq_eq_false_iff_ne] | rw [bne_eq_false_iff_eq]); exact xW; refine xG ?_)
  (refine wFd ?_ ?_; (first | refine decide_eq_false ?_ | rw [beq_eq_false_iff_ne] | rw [bne_eq_false_iff_eq]); exact xW; refine xG ?_)
  (refine wFd ?_ ?_; (first | refine decide_eq_false ?_ | rw [beq_eq_false_iff_ne] | rw [bne_eq_false_iff_eq]); exact xW; refine xG ?_)
  (refine wFd ?_ ?_; (first | refine decide_eq_false ?_ | rw [beq_eq_false_iff_ne] | rw [bne_eq_false_iff_eq]); exact xW; refine xG ?_)
  (refine wFd ?_ ?_; (first | refine decide_eq_false ?_ | rw [beq_eq_false_iff_ne] | rw [bne_eq_false_iff_eq]); exact xW; refine xG ?_)
  (refine wFd ?_ ?_; (first | refine decide_eq_false ?_ | rw [beq_eq_false_iff_ne] | rw [bne_eq_false_iff_eq]); exact xW; refine xG ?_)
  (apply wP; exact (call_op rfl (entersB_of Tryz.func72 (by kernel_rfl)) rfl ((num_can i 2 (by decide)).at [] ⟨lend_plain rfl, lend_plain rfl, trivial⟩ trivial)); refine xZ ?_)
  (apply wP; exact (call_op rfl (entersB_of Tryz.func72 (by kernel_rfl)) rfl ((num_can a.amt 7 (by decide)).at [] ⟨lend_plain rfl, lend_plain rfl, trivial⟩ trivial)); refine xZ ?_)
  (apply wP; exact (call_op rfl (entersB_of Tryz.func72 (by kernel_rfl)) rfl ((num_can a.nonce 1 (by decide)).at [] ⟨lend_plain rfl, lend_plain rfl, trivial⟩ trivial)); refine xZ ?_)
  (refine wP _ _ (cellsNew_op Tryz.T_ok rfl rfl rfl) ?_; refine xZ ?_)
  (apply wP; exact (call_op rfl (entersB_of Tryz.func45 (by kernel_rfl)) rfl ((digest_can 97 [numL i 2, a.owner.l, numL a.amt 7, numL a.nonce 1] (short4 _ _ _ _ _ (by simp only [numL_length, H8.l_len]; decide))).at [45, 36, 2, 41, 44] ⟨lend_plain rfl, lend_parts [numL i 2, a.owner.l, numL a.amt 7, numL a.nonce 1] rfl rfl rfl ⟨lend_vec0 rfl rfl, lend_sla rfl rfl (fun _ _ => rfl) rfl, lend_vec0 rfl rfl, lend_vec0 rfl rfl, trivial⟩, trivial⟩ trivial)); refine xZ ?_)
  exact wD (Ends.plain (.inr rfl) rfl rfl)
theorem overH_of {a b : H8} (h : (zeroB a && zeroB b) = false) : overH a b = dig 110 [a.l, b.l] := by rw [overH, if_neg (by rw [h]; simp)]
theorem overH_z {a b : H8} (h : (zeroB a && zeroB b) = true) : overH a b = zeroH := by rw [overH, if_pos h]
theorem pover_can (a b : H8) : Reads Tryz.prog 143 [.plain a.x, .plain b.x] [stepsP] (hashX (overH a b)) := by
  refine Reads.of Tryz.T_ok Tryz.func143 rfl _ _ _ rfl rfl (fun C hC => ?_)
  (replace hC : C.n0 = 3 := hC; change Tri _ _ _ ⟨_, _, 3⟩ _)
  refine Tri.of Tryz.mixed Tryz.T_ok ?_
  (refine xB ?_)
  (apply wP; exact (call_op rfl (entersB_of Tryz.func145 (by kernel_rfl)) rfl ((zero_can a).at [] ⟨lend_plain rfl, trivial⟩ trivial)); refine xZ ?_)
  refine wC (fun h1 => ?_) (fun h1 => ?_)
  · (refine xG ?_)
    (apply wP; exact (call_op rfl (entersB_of Tryz.func145 (by kernel_rfl)) rfl ((zero_can b).at [] ⟨lend_plain rfl, trivial⟩ trivial)); refine xZ ?_)
    refine wC (fun h2 => ?_) (fun h2 => ?_)
    · (refine xG ?_)
      exact wD (Ends.plain (.inr rfl) rfl (by rw [overH_z (by rw [h1, h2]; rfl)]; rfl))
    · (refine xG ?_)
      (apply wP; exact (call_op rfl (entersB_of Tryz.func180 (by kernel_rfl)) rfl ((ptwo_can 110 a b).at [2] ⟨lend_plain rfl, lend_plain rfl, lend_plain rfl, trivial⟩ ⟨lend_ext (c := 2) rfl rfl, trivial⟩)); refine xZ ?_)
      exact wD (Ends.plain (.inr rfl) rfl (by rw [overH_of (by rw [h1, h2]; rfl)]; rfl))
  · (refine xG ?_)
    (apply wP; exact (call_op rfl (entersB_of Tryz.func180 (by kernel_rfl)) rfl ((ptwo_can 110 a b).at [2] ⟨lend_plain rfl, lend_plain rfl, lend_plain rfl, trivial⟩ ⟨lend_ext (c := 2) rfl rfl, trivial⟩)); refine xZ ?_)
    exact wD (Ends.plain (.inr rfl) rfl (by rw [overH_of (by rw [h1]; rfl)]; rfl))
theorem rover_can (a b : H8) : Reads Tryz.prog 148 [.plain a.x, .plain b.x] [] (hashX (overH a b)) := by
  refine Reads.of Tryz.T_ok Tryz.func148 rfl _ _ _ rfl rfl (fun C hC => ?_)
  (replace hC : C.n0 = 2 := hC; change Tri _ _ _ ⟨_, _, 2⟩ _)
  refine Tri.of Tryz.mixed Tryz.T_ok ?_
  (refine xB ?_)
  (apply wP; exact (call_op rfl (entersB_of Tryz.func147 (by kernel_rfl)) rfl ((rzero_can a).at [] ⟨lend_plain rfl, trivial⟩ trivial)); refine xZ ?_)
  refine wC (fun h1 => ?_) (fun h1 => ?_)
  · (refine xG ?_)
    (apply wP; exact (call_op rfl (entersB_of Tryz.func147 (by kernel_rfl)) rfl ((rzero_can b).at [] ⟨lend_plain rfl, trivial⟩ trivial)); refine xZ ?_)
    refine wC (fun h2 => ?_) (fun h2 => ?_)
    · (refine xG ?_)
      exact wD (Ends.plain (.inr rfl) rfl (by rw [overH_z (by rw [h1, h2]; rfl)]; rfl))
    · (refine xG ?_)
      (apply wP; exact (call_op rfl (entersB_of Tryz.func182 (by kernel_rfl)) rfl ((rtwo_can 110 a b).at [] ⟨lend_plain rfl, lend_plain rfl, lend_plain rfl, trivial⟩ trivial)); refine xZ ?_)
      exact wD (Ends.plain (.inr rfl) rfl (by rw [overH_of (by rw [h1, h2]; rfl)]; rfl))
  · (refine xG ?_)
    (apply wP; exact (call_op rfl (entersB_of Tryz.func182 (by kernel_rfl)) rfl ((rtwo_can 110 a b).at [] ⟨lend_plain rfl, lend_plain rfl, lend_plain rfl, trivial⟩ trivial)); refine xZ ?_)
    exact wD (Ends.plain (.inr rfl) rfl (by rw [overH_of (by rw [h1]; rfl)]; rfl))
theorem sin_can (i : Nat) (hi : i < 65536) : Reads Tryz.prog 142 [.plain (.one (.raw (.int .i64 i)))] [] (XV.bool true) := by
  refine Reads.of Tryz.T_ok Tryz.func142 rfl _ _ _ rfl rfl (fun C hC => ?_)
  (replace hC : C.n0 = 1 := hC; change Tri _ _ _ ⟨_, _, 1⟩ _)
  refine Tri.of Tryz.mixed Tryz.T_ok ?_
  (refine xB ?_)
  (refine wTd ?_ ?_; (first | refine decide_eq_true ?_ | rw [beq_iff_eq] | rw [bne_iff_ne]); exact xW; refine xG ?_)
  exact wD (Ends.plain (.inr rfl) rfl (congrArg XV.bool (decide_eq_true (by omega))))
theorem shr_and (i k : Nat) (hk : k < 64) : bitI .and .i64 (shrI .i64 (i : Int) (k : Int)) 1 = ((i / 2 ^ k % 2 : Nat) : Int) := by
  rw [shr_nat _ _ _ (Nat.le_of_lt hk), and1_i64]
def schkSt (root leaf : H8) (i : Nat) (p : Nat → H8) (k : Nat) : St :=
  ⟨[none, some (XV.int .i64 i), none, none, some (XV.sv (.ptr 5 0 0 0)), none, some (XV.sv (.ptr 6 0 0 0)), none, none, none, none, none, none, none, some (.cv (rowX p 16)), some (XV.int .i64 k)] ++ List.replicate 18 none,
   [(4, .ext stepsP), (5, .cells 29 (root.cells.map .raw)), (6, .cells 29 ((upS leaf i p k).cells.map .raw))], 7⟩
set_option maxHeartbeats 2000000 in
theorem scheck_can (root leaf : H8) (i : Nat) (hi : i < 65536) (p : Nat → H8) : Reads Tryz.prog 84 [.plain root.x, .plain (.one (.raw (.int .i64 i))), .plain leaf.x, .plain (rowX p 16)] [stepsP] (XV.bool (decide (upS leaf i p 16 = root))) := by
  refine Reads.of Tryz.T_ok Tryz.func84 rfl _ _ _ rfl rfl (fun C hC => ?_)
  (replace hC : C.n0 = 5 := hC; change Tri _ _ _ ⟨_, _, 5⟩ _)
  (refine Tri.cut 2 Tryz.mixed Tryz.T_ok ?_; refine xZ ?_)
  (apply wP; exact (call_op rfl (entersB_of Tryz.func142 (by kernel_rfl)) rfl ((sin_can i hi).at [] ⟨lend_plain rfl, trivial⟩ trivial)); refine xZ ?_)
  refine wD <| cutG <| Tri.seq ?_
  (refine Tri.cut 1 Tryz.mixed Tryz.T_ok ?_; refine xZ ?_)
  refine wD <| cutG <| Tri.block ?_
  refine Tri.loop (α := { k : Nat // k ≤ 16 }) (fun k => schkSt root leaf i p k.1) (fun k => 16 - k.1) ⟨0, Nat.zero_le _⟩ ?_ ?_
  · unfold schkSt
    ((try dsimp only); refine Ent.renC [0, 1, 2, 3, 4, 5, 6] hC ?_ ?_ <;> repeat' (first | exact trivial | exact rfl | exact ⟨_, rfl, rfl, rfl, Nat.le_refl _, fun _ _ => rfl⟩ | exact ⟨_, rfl, rfl, rfl, fun _ _ => rfl⟩ | exact ⟨_, rfl, rfl, rfl⟩ | exact ⟨_, rfl, rfl⟩ | refine ⟨_, rfl, rfl, rfl, by omega, fun k hk => ?_⟩ | refine ⟨?_, ?_⟩ | fail))
  rintro ⟨k, hk⟩
  dsimp only
  unfold schkSt
  (refine Tri.cut 2 Tryz.mixed Tryz.T_ok ?_; refine xZ ?_)
  refine wC (fun h1 => ?_) (fun h1 => ?_)
  · (refine xG ?_)
    have h1' : k < 16 := xW
    have hw : IntKind.i64.wrap ((k : Int) + 1) = ((k + 1 : Nat) : Int) := xW
    refine wD <| cutG <| Tri.seq <| Tri.block <| Tri.of Tryz.mixed Tryz.T_ok ?_
    (refine xB ?_)
    (refine wP _ _ (index_op Tryz.T_ok (hashF p) rfl rfl rfl rfl rfl rfl (fun _ _ => rfl) rfl (by omega) (by omega) rfl) ?_; refine xZ ?_)
    (repeat (refine wN ?_ ?_; exact xW; refine xG ?_))
    simp only [Int.toNat_natCast, shr_and i k (by omega)]
    have hp : upS leaf i p (k + 1) = if i / 2 ^ k % 2 = 1 then overH (p k) (upS leaf i p k) else overH (upS leaf i p k) (p k) := rfl
    refine wC (fun h2 => ?_) (fun h2 => ?_)
    · (refine xG ?_)
      rw [if_pos (by simp only [beq_iff_eq] at h2; omega)] at hp
      (apply wP; exact (call_op rfl (entersB_of Tryz.func143 (by kernel_rfl)) rfl ((pover_can (p k) (upS leaf i p k)).at [4] ⟨lend_plain rfl, lend_plain rfl, trivial⟩ ⟨lend_ext (c := 4) rfl rfl, trivial⟩)); refine xZ ?_)
      refine wD <| blockN <| cutG <| Tri.of Tryz.mixed Tryz.T_ok ?_
      (refine xB ?_)
      refine wD <| loopN ⟨⟨k + 1, h1'⟩, by dsimp only; omega, ?_⟩
      rw [hw]
      dsimp only
      rw [hp]
      ((try dsimp only); refine Ent.renC [0, 1, 2, 3, 4, 5, 6] hC ?_ ?_ <;> repeat' (first | exact trivial | exact rfl | exact ⟨_, rfl, rfl, rfl, Nat.le_refl _, fun _ _ => rfl⟩ | exact ⟨_, rfl, rfl, rfl, fun _ _ => rfl⟩ | exact ⟨_, rfl, rfl, rfl⟩ | exact ⟨_, rfl, rfl⟩ | refine ⟨_, rfl, rfl, rfl, by omega, fun k hk => ?_⟩ | refine ⟨?_, ?_⟩ | fail))
    · (refine xG ?_)
      rw [if_neg (by simp only [beq_eq_false_iff_ne] at h2; omega)] at hp
      (apply wP; exact (call_op rfl (entersB_of Tryz.func143 (by kernel_rfl)) rfl ((pover_can (upS leaf i p k) (p k)).at [4] ⟨lend_plain rfl, lend_plain rfl, trivial⟩ ⟨lend_ext (c := 4) rfl rfl, trivial⟩)); refine xZ ?_)
      refine wD <| blockN <| cutG <| Tri.of Tryz.mixed Tryz.T_ok ?_
      (refine xB ?_)
      refine wD <| loopN ⟨⟨k + 1, h1'⟩, by dsimp only; omega, ?_⟩
      rw [hw]
      dsimp only
      rw [hp]
      ((try dsimp only); refine Ent.renC [0, 1, 2, 3, 4, 5, 6] hC ?_ ?_ <;> repeat' (first | exact trivial | exact rfl | exact ⟨_, rfl, rfl, rfl, Nat.le_refl _, fun _ _ => rfl⟩ | exact ⟨_, rfl, rfl, rfl, fun _ _ => rfl⟩ | exact ⟨_, rfl, rfl, rfl⟩ | exact ⟨_, rfl, rfl⟩ | refine ⟨_, rfl, rfl, rfl, by omega, fun k hk => ?_⟩ | refine ⟨?_, ?_⟩ | fail))
  · (refine xG ?_)
    have h1' : k = 16 := xW
    subst h1'
    refine wD <| cutE <| loopX <| blockX <| cutG <| Tri.of Tryz.mixed Tryz.T_ok ?_
    (refine xB ?_)
    (refine wP _ _ (eq_op hashE rfl (upS leaf i p 16) root rfl rfl) ?_; refine xZ ?_)
    exact wD (Ends.plain (.inr rfl) rfl rfl)
def rchkSt (root leaf : H8) (i : Nat) (p : Nat → H8) (k : Nat) : St :=
  ⟨[none, some (XV.int .i64 i), none, none, some (XV.sv (.ptr 4 0 0 0)), none, none, some (XV.sv (.ptr 5 0 0 0)), none, some (XV.sv (.ptr 6 0 0 0)), some (XV.int .i64 k)] ++ List.replicate 30 none,
   [(4, .cells 29 (root.cells.map .raw)), (5, .vec 44 8 16 (hashF p)), (6, .cells 29 ((upS leaf i p k).cells.map .raw))], 7⟩
set_option maxHeartbeats 2000000 in
theorem rchk_can (root leaf : H8) (i : Nat) (hi : i < 65536) (p : Nat → H8) : Reads Tryz.prog 87 [.plain root.x, .plain (.one (.raw (.int .i64 i))), .plain leaf.x, .plain (rowX p 16)] [] (XV.bool (decide (upS leaf i p 16 = root))) := by
  refine Reads.of Tryz.T_ok Tryz.func87 rfl _ _ _ rfl rfl (fun C hC => ?_)
  (replace hC : C.n0 = 4 := hC; change Tri _ _ _ ⟨_, _, 4⟩ _)
  (refine Tri.cut 3 Tryz.mixed Tryz.T_ok ?_; refine xZ ?_)
  (refine wFd ?_ ?_; (first | refine decide_eq_false ?_ | rw [beq_eq_false_iff_ne] | rw [bne_eq_false_iff_eq]); exact xW; refine xG ?_)
  (refine wFd ?_ ?_; (first | refine decide_eq_false ?_ | rw [beq_eq_false_iff_ne] | rw [bne_eq_false_iff_eq]); exact xW; refine xG ?_)
  refine wD <| cutG <| Tri.ent (Ent.arrT (c := 6) 8 16 (hashF p) rfl rfl rfl (fun _ _ => rfl) (by decide) rfl (by rw [hC]; decide)) <| Tri.seq ?_
  (refine Tri.cut 1 Tryz.mixed Tryz.T_ok ?_; refine xZ ?_)
  refine wD <| cutG <| Tri.block ?_
  refine Tri.loop (α := { k : Nat // k ≤ 16 }) (fun k => rchkSt root leaf i p k.1) (fun k => 16 - k.1) ⟨0, Nat.zero_le _⟩ ?_ ?_
  · unfold rchkSt
    ((try dsimp only); refine Ent.renC [0, 1, 2, 3, 4, 6, 15] hC ?_ ?_ <;> repeat' (first | exact trivial | exact rfl | exact ⟨_, rfl, rfl, rfl, Nat.le_refl _, fun _ _ => rfl⟩ | exact ⟨_, rfl, rfl, rfl, fun _ _ => rfl⟩ | exact ⟨_, rfl, rfl, rfl⟩ | exact ⟨_, rfl, rfl⟩ | refine ⟨_, rfl, rfl, rfl, by omega, fun k hk => ?_⟩ | refine ⟨?_, ?_⟩ | fail))
  rintro ⟨k, hk⟩
  dsimp only
  unfold rchkSt
  (refine Tri.cut 1 Tryz.mixed Tryz.T_ok ?_; refine xZ ?_)
  refine wC (fun h1 => ?_) (fun h1 => ?_)
  · (refine xG ?_)
    have h1' : k < 16 := xW
    have hw : IntKind.i64.wrap ((k : Int) + 1) = ((k + 1 : Nat) : Int) := xW
    have hu : IntKind.u64.wrap (k : Int) = (k : Int) := xW
    refine wD <| cutG <| Tri.seq <| Tri.block <| Tri.of Tryz.mixed Tryz.T_ok ?_
    (refine xB ?_)
    simp only [hu]
    (repeat (refine wN ?_ ?_; exact xW; refine xG ?_))
    simp only [Int.toNat_natCast, shr_and i k (by omega)]
    have hp : upS leaf i p (k + 1) = if i / 2 ^ k % 2 = 1 then overH (p k) (upS leaf i p k) else overH (upS leaf i p k) (p k) := rfl
    refine wC (fun h2 => ?_) (fun h2 => ?_)
    · (refine xG ?_)
      rw [if_pos (by simp only [beq_iff_eq] at h2; omega)] at hp
      (repeat (refine wN ?_ ?_; exact xW; refine xG ?_))
      simp only [Nat.zero_add, Int.toNat_natCast]
      (apply wP; exact (call_op rfl (entersB_of Tryz.func148 (by kernel_rfl)) rfl ((rover_can (p k) (upS leaf i p k)).at [] ⟨lend_plain rfl, lend_plain rfl, trivial⟩ trivial)); refine xZ ?_)
      refine wD <| blockN <| cutG <| Tri.of Tryz.mixed Tryz.T_ok ?_
      (refine xB ?_)
      refine wD <| loopN ⟨⟨k + 1, h1'⟩, by dsimp only; omega, ?_⟩
      rw [hw]
      dsimp only
      rw [hp]
      ((try dsimp only); refine Ent.renC [0, 1, 2, 3, 4, 5, 6] hC ?_ ?_ <;> repeat' (first | exact trivial | exact rfl | exact ⟨_, rfl, rfl, rfl, Nat.le_refl _, fun _ _ => rfl⟩ | exact ⟨_, rfl, rfl, rfl, fun _ _ => rfl⟩ | exact ⟨_, rfl, rfl, rfl⟩ | exact ⟨_, rfl, rfl⟩ | refine ⟨_, rfl, rfl, rfl, by omega, fun k hk => ?_⟩ | refine ⟨?_, ?_⟩ | fail))
    · (refine xG ?_)
      rw [if_neg (by simp only [beq_eq_false_iff_ne] at h2; omega)] at hp
      (repeat (refine wN ?_ ?_; exact xW; refine xG ?_))
      simp only [Nat.zero_add, Int.toNat_natCast]
      (apply wP; exact (call_op rfl (entersB_of Tryz.func148 (by kernel_rfl)) rfl ((rover_can (upS leaf i p k) (p k)).at [] ⟨lend_plain rfl, lend_plain rfl, trivial⟩ trivial)); refine xZ ?_)
      refine wD <| blockN <| cutG <| Tri.of Tryz.mixed Tryz.T_ok ?_
      (refine xB ?_)
      refine wD <| loopN ⟨⟨k + 1, h1'⟩, by dsimp only; omega, ?_⟩
      rw [hw]
      dsimp only
      rw [hp]
      ((try dsimp only); refine Ent.renC [0, 1, 2, 3, 4, 5, 6] hC ?_ ?_ <;> repeat' (first | exact trivial | exact rfl | exact ⟨_, rfl, rfl, rfl, Nat.le_refl _, fun _ _ => rfl⟩ | exact ⟨_, rfl, rfl, rfl, fun _ _ => rfl⟩ | exact ⟨_, rfl, rfl, rfl⟩ | exact ⟨_, rfl, rfl⟩ | refine ⟨_, rfl, rfl, rfl, by omega, fun k hk => ?_⟩ | refine ⟨?_, ?_⟩ | fail))
  · (refine xG ?_)
    have h1' : k = 16 := xW
    subst h1'
    refine wD <| cutE <| loopX <| blockX <| cutG <| Tri.of Tryz.mixed Tryz.T_ok ?_
    (refine xB ?_)
    (refine wP _ _ (eq_op hashE rfl (upS leaf i p 16) root rfl rfl) ?_; refine xZ ?_)
    exact wD (Ends.plain (.inr rfl) rfl rfl)
end Go.Proofs.YtnpkdoggfnlapaaGreatDoor
namespace Go.Proofs.YtnpkdoggfnlapaaGreatDoor
set_option maxRecDepth 100000
open Go.Sx
def sideOf (p : ParM) (h : Int) : SideM := { side0 with par := p, made := h }
theorem sideOf_sized {p : ParM} {h : Int} (hl : p.keys.length ≤ 1000000) : (sideOf p h).Sized := ⟨hl, Nat.zero_le _, Nat.zero_le _, Nat.zero_le _⟩
set_option maxHeartbeats 4000000 in
theorem create_can (L : List SideM) (p : ParM) (h : Int) (hl : p.keys.length ≤ 1000000) (hL : L.length < 8) (hp : parB p = true) : Acts Tryz.prog 63 (.abs (pReg L)) (.abs (pReg (L ++ [sideOf p h]))) [.box p.ac, .plain (.one (.raw (.int .i64 h)))] [] (.tup [.one (.raw (.int .i64 L.length)), .one (.raw (.int .i64 0))]) := by
  have hq := qmay_can p (by omega)
  rw [hp] at hq
  have hc := copied_can (sideOf p h) (sideOf_sized hl)
  refine Acts.of Tryz.T_ok Tryz.func63 rfl _ _ _ _ _ rfl rfl rfl (fun C hC => ?_)
  (replace hC : C.n0 = 3 := hC; change Tri _ _ _ ⟨_, _, 3⟩ _)
  rcases L with _ | ⟨x, r⟩
  · refine Reg.opens0 rgS rgE 0 rfl (Tri.of Tryz.mixed Tryz.T_ok ?_)
    (refine xB ?_)
    (apply wP; exact (call_op rfl (entersB_of Tryz.func116 (by kernel_rfl)) rfl (hq.at [1] ⟨lend_par (lend_ro0 rfl rfl), trivial⟩ trivial)); refine xZ ?_)
    (apply wP; exact (call_op rfl (entersB_of Tryz.func56 (by kernel_rfl)) rfl (hc.at [1] ⟨lend_side (x := sideOf p h) (lend_ro0 rfl rfl) (lend_nil _ _) (lend_nil _ _) (lend_nil _ _), trivial⟩ trivial)); refine xZ ?_)
    (refine wP _ _ (boxSlice_op Tryz.T_ok rfl rfl rfl) ?_; refine xZ ?_)
    (refine wP _ _ (appendBox_op Tryz.T_ok rfl rfl rfl rfl rfl rfl rfl rfl rfl rfl rfl (by decide) (boxed_ins (sideOf p h) 29)) ?_; refine xZ ?_)
    exact wD (Ends.shutN (.inr rfl) (Reg.shuts rgS rgE [sideOf p h] 0 (i1 := 31) Nat.one_pos rfl rfl rfl rfl rfl (lt1 rfl)) rfl rfl rfl)
  · refine Reg.opensD rgS rgE (x :: r) 0 (Nat.succ_pos _) rfl (Tri.of Tryz.mixed Tryz.T_ok ?_)
    (refine xB ?_)
    (apply wP; exact (call_op rfl (entersB_of Tryz.func116 (by kernel_rfl)) rfl (hq.at [1] ⟨lend_par (lend_ro0 rfl rfl), trivial⟩ trivial)); refine xZ ?_)
    (refine wFd ?_ ?_; (first | refine decide_eq_false ?_ | rw [beq_eq_false_iff_ne] | rw [bne_eq_false_iff_eq]); exact xW; refine xG ?_)
    (apply wP; exact (call_op rfl (entersB_of Tryz.func56 (by kernel_rfl)) rfl (hc.at [1] ⟨lend_side (x := sideOf p h) (lend_ro0 rfl rfl) (lend_nil _ _) (lend_nil _ _) (lend_nil _ _), trivial⟩ trivial)); refine xZ ?_)
    (refine wP _ _ (boxSlice_op Tryz.T_ok rfl rfl rfl) ?_; refine xZ ?_)
    (refine wP _ _ (appendBoxes_op Tryz.T_ok rfl rfl rfl rfl rfl rfl rfl rfl rfl rfl (by decide) (by decide) rfl rfl (by simp only [maxLen]; omega) (by dsimp only; omega) (boxed_ins (sideOf p h) 30)) ?_; refine xZ ?_)
    have hl1 : ((x :: r) ++ [sideOf p h]).length = (x :: r).length + 1 := by simp
    refine wD (Ends.shutN (.inr rfl) (Reg.shuts rgS rgE ((x :: r) ++ [sideOf p h]) 0 (i1 := 32) (by omega) rfl rfl rfl hl1.symm hl1.symm (fun i hi => regF_snoc (by omega))) rfl rfl ?_)
    have e : IntKind.i64.wrap ((((x :: r).length + 1 : Nat) : Int) - 1) = ((x :: r).length : Int) := xW
    rw [e]
theorem regF_at {L : List SideM} {i : Nat} (hi : i < L.length) {x : SideM} : regF (L.set i x) i = x.ac := by
  rw [regF, List.getD_eq_getElem?_getD, List.getElem?_set_self hi]; rfl
theorem regF_ne {L : List SideM} {i k : Nat} (h : k ≠ i) {x : SideM} : regF (L.set i x) k = regF L k := by
  rw [regF, regF, List.getD_eq_getElem?_getD, List.getD_eq_getElem?_getD, List.getElem?_set_ne (fun e => h e.symm)]
theorem side_rows {x y : SideM} (h1 : x.par.keys = y.par.keys) (h2 : x.cert.outs = y.cert.outs) (h3 : x.cert.sigs = y.cert.sigs) (h4 : x.used = y.used) {j : Nat} {a : AC} (h : x.ac[j]? = some a) : (∃ u, a = AC.raw u) ∨ y.ac[j]? = some a := by
  have hj : j < 42 := by have := (List.getElem?_eq_some_iff.1 h).1; rwa [SideM.ac_len] at this
  have e3 : x.ac[3]? = y.ac[3]? := by show some (AC.row 8 x.par.keys.length (keysF x.par.keys)) = some (AC.row 8 y.par.keys.length (keysF y.par.keys)); rw [h1]
  have e39 : x.ac[39]? = y.ac[39]? := by show some (AC.row 9 x.cert.outs.length (outsF x.cert.outs)) = some (AC.row 9 y.cert.outs.length (outsF y.cert.outs)); rw [h2]
  have e40 : x.ac[40]? = y.ac[40]? := by show some (AC.row 282 x.cert.sigs.length (sgdsF x.cert.sigs)) = some (AC.row 282 y.cert.sigs.length (sgdsF y.cert.sigs)); rw [h3]
  have e41 : x.ac[41]? = y.ac[41]? := by show some (AC.row 1 x.used.length (intsF x.used)) = some (AC.row 1 y.used.length (intsF y.used)); rw [h4]
  by_cases k3 : j = 3
  · subst k3; exact .inr (e3 ▸ h)
  by_cases k39 : j = 39
  · subst k39; exact .inr (e39 ▸ h)
  by_cases k40 : j = 40
  · subst k40; exact .inr (e40 ▸ h)
  by_cases k41 : j = 41
  · subst k41; exact .inr (e41 ▸ h)
  left
  have raw : ∀ j, j < 42 → j ≠ 3 → j ≠ 39 → j ≠ 40 → j ≠ 41 → ∃ u, x.ac[j]? = some (AC.raw u) := by
    intro j hj _ _ _ _
    iterate 42 (rcases j with _ | j; · first | exact ⟨_, rfl⟩ | contradiction)
    omega
  obtain ⟨u, hu⟩ := raw j hj k3 k39 k40 k41
  rw [hu] at h
  exact ⟨u, by simpa using h.symm⟩
def fwdC (s a : Int) (o : H8) (n : Int) : CV := .agg ((.int .i64 s :: .int .i64 a :: (o.cells ++ [.int .i64 n])).map .raw)
def roomI (n : Int) : Int := IntKind.i64.wrap (1125899906842624 - n)
def fwdOKX (x : SideM) (n : Int) : Bool := !(decide (n < 1)) && (mayB n && (!(decide (roomI n < x.bal)) && !(decide (roomI n < x.fwd))))
def fwdE (x : SideM) (n : Int) : Int := if x.ceased = true then 14 else if fwdOKX x n = true then 0 else 5
def fwdX (x : SideM) (n : Int) : SideM := if fwdE x n = 0 then { x with bal := IntKind.i64.wrap (x.bal + n), fwd := IntKind.i64.wrap (x.fwd + n) } else x
theorem set_same {L : List SideM} {i : Nat} (hi : i < L.length) {x : SideM} (h : x = L.getD i default) : L.set i x = L := by
  subst h
  rw [List.getD_eq_getElem?_getD, List.getElem?_eq_getElem hi]
  exact List.set_getElem_self hi
theorem fwd_same {L : List SideM} {i : Nat} (hi : i < L.length) {n : Int} (h : fwdE (L.getD i default) n ≠ 0) : L.set i (fwdX (L.getD i default) n) = L := set_same hi (by rw [fwdX, if_neg h])
set_option maxHeartbeats 4000000 in
theorem forward_in (L : List SideM) (i : Nat) (hi : i < L.length) (a : Int) (o : H8) (n : Int) : Acts Tryz.prog 66 (.abs (pReg L)) (.abs (pReg (L.set i (fwdX (L.getD i default) n)))) [.plain (fwdC i a o n)] [] (XV.int .i64 (fwdE (L.getD i default) n)) := by
  have h0 : 0 < L.length := by omega
  have hin : inB L (i : Int) = true := by rw [inB, Bool.and_eq_true, decide_eq_true_eq, decide_eq_true_eq]; omega
  have hreg := regIn_can L (i : Int)
  rw [hin] at hreg
  refine Acts.of Tryz.T_ok Tryz.func66 rfl _ _ _ _ _ rfl rfl rfl (fun C hC => ?_)
  (replace hC : C.n0 = 2 := hC; change Tri _ _ _ ⟨_, _, 2⟩ _)
  (refine Tri.cut 2 Tryz.mixed Tryz.T_ok ?_; refine xZ ?_)
  (apply wP; exact (call_op rfl (entersB_of Tryz.func55 (by kernel_rfl)) rfl (hreg.at [] rfl rfl rfl ⟨lend_plain rfl, trivial⟩ trivial)); refine xZ ?_)
  refine wD <| cutG <| Reg.opens rgS rgE L 0 h0 rfl (Nat.le_of_ble_eq_true rfl) (fun ad => ?_)
  (refine Tri.cut 4 Tryz.mixed Tryz.T_ok ?_; refine xZ ?_)
  (repeat (refine wN ?_ ?_; exact xW; refine xG ?_))
  simp only [Nat.zero_add, Int.toNat_natCast]
  obtain ⟨x, hx⟩ : ∃ x, L.getD i default = x := ⟨_, rfl⟩
  have no : ∀ {S : St} {mem : Mem} {e : Int}, fwdE x n = e → e ≠ 0 → Ent C S ⟨S.slots, (0, .abs (pReg L)) :: mem, S.nx⟩ → resX Tryz.T ⟨S.slots, (0, .abs (pReg L)) :: mem, S.nx⟩ Tryz.f66.results.toList = some (XV.int .i64 e) →
      Sx.Ends C Tryz.T Tryz.f66.results.toList 1 2 ⟨XV.int .i64 (fwdE (L.getD i default) n), [(0, .abs (pReg (L.set i (fwdX (L.getD i default) n))))], none⟩ .ret S := by
    intro S mem e he h0 hE hr
    rw [fwd_same hi (by rw [hx, he]; exact h0), hx, he]
    exact Ends.shutN (.inr rfl) hE rfl hr rfl
  have shut := fun {slots : List (Option XV)} {mem : Mem} {nx : Nat} k0 k1 k2 => Reg.shutsO (C := C) (slots := slots) (mem := mem) (nx := nx) rgS rgE L L 0 (i1 := 14) (q := 15) (ad := ad) (m := L.length) (n := L.length) h0 k0 k1 k2 rfl rfl rfl (fun _ _ => rfl) regF_raw
  refine wC (fun h1 => ?_) (fun h1 => ?_)
  · rw [hx] at h1
    (refine xG ?_)
    exact wD (cutR (no (if_pos h1) (by decide) (shut rfl rfl rfl) rfl))
  rw [hx] at h1
  have bad : fwdOKX x n = false → fwdE x n = 5 := fun h => by rw [fwdE, if_neg (by rw [h1]; simp), if_neg (by rw [h]; simp)]
  (refine xG ?_)
  refine wC (fun h2 => ?_) (fun h2 => ?_)
  · (refine xG ?_)
    exact wD (cutR (no (bad (by rw [fwdOKX, h2]; rfl)) (by decide) (shut rfl rfl rfl) rfl))
  (refine xG ?_)
  (apply wP; exact (call_op rfl (entersB_of Tryz.func119 (by kernel_rfl)) rfl (may_spec n _ _)); refine xZ ?_)
  refine wC (fun h3 => ?_) (fun h3 => ?_)
  · have h3 : mayB n = false := by simpa using h3
    (refine xG ?_)
    exact wD (cutR (no (bad (by rw [fwdOKX, h2, h3]; rfl)) (by decide) (shut rfl rfl rfl) rfl))
  have h3 : mayB n = true := by simpa using h3
  (refine xG ?_)
  (repeat (refine wN ?_ ?_; exact xW; refine xG ?_))
  refine wC (fun h4 => ?_) (fun h4 => ?_)
  · rw [hx] at h4
    (refine xG ?_)
    exact wD (cutR (no (bad (by rw [fwdOKX, h2, h3, roomI, h4]; rfl)) (by decide) (shut rfl rfl rfl) rfl))
  rw [hx] at h4
  (refine xG ?_)
  (repeat (refine wN ?_ ?_; exact xW; refine xG ?_))
  refine wC (fun h5 => ?_) (fun h5 => ?_)
  · rw [hx] at h5
    (refine xG ?_)
    exact wD (cutR (no (bad (by rw [fwdOKX, h2, h3, roomI, h4, h5]; rfl)) (by decide) (shut rfl rfl rfl) rfl))
  rw [hx] at h5
  have he : fwdE x n = 0 := by rw [fwdE, if_neg (by rw [h1]; simp), if_pos (by rw [fwdOKX, h2, h3, roomI, h4, h5]; rfl)]
  have hX : fwdX x n = { x with bal := IntKind.i64.wrap (x.bal + n), fwd := IntKind.i64.wrap (x.fwd + n) } := by rw [fwdX, if_pos he]
  (refine xG ?_)
  (repeat (refine wN ?_ ?_; exact xW; refine xG ?_))
  simp only [Nat.zero_add, Int.toNat_natCast]
  rw [hx]
  refine wD <| cutG <| Tri.ent (Ent.chg0 (c := 14) (g := fun k => fillA 0 (regF (L.set i { x with bal := IntKind.i64.wrap (x.bal + n) }) k) (ad k)) rfl fun k hk => ?_) (Tri.of Tryz.mixed Tryz.T_ok ?_)
  · by_cases hki : k = i
    · subst hki
      rw [updF_eq, regF_at hi, regF, hx]; rfl
    · rw [updF_ne hki, regF_ne hki]
  (refine xB ?_)
  (repeat (refine wN ?_ ?_; exact xW; refine xG ?_))
  simp only [Nat.zero_add, Int.toNat_natCast]
  have hg : (L.set i { x with bal := IntKind.i64.wrap (x.bal + n) }).getD i default = { x with bal := IntKind.i64.wrap (x.bal + n) } := by
    rw [List.getD_eq_getElem?_getD, List.getElem?_set_self hi]; rfl
  rw [hg, he, hX]
  have hl : ∀ y : SideM, (L.set i y).length = L.length := fun y => List.length_set ..
  refine wD (Ends.shutN (.inr rfl) (Reg.shutsO rgS rgE L (L.set i { x with bal := IntKind.i64.wrap (x.bal + n), fwd := IntKind.i64.wrap (x.fwd + n) }) 0 (i1 := 14) (q := 15) (ad := ad) (by rw [hl]; exact h0) rfl rfl rfl rfl (hl _).symm (hl _).symm (fun k hk => ?_) (fun k hk j y hy => ?_)) rfl rfl rfl)
  · by_cases hki : k = i
    · subst hki
      rw [updF_eq, regF_at hi, regF_at hi]; rfl
    · rw [updF_ne hki, regF_ne hki, regF_ne hki]
  · by_cases hki : k = i
    · subst hki
      rw [regF_at hi] at hy
      rw [regF, hx]
      exact side_rows (x := { x with bal := IntKind.i64.wrap (x.bal + n), fwd := IntKind.i64.wrap (x.fwd + n) }) (y := x) rfl rfl rfl rfl hy
    · rw [regF_ne hki] at hy
      exact .inr hy
end Go.Proofs.YtnpkdoggfnlapaaGreatDoor
namespace Go.Proofs.YtnpkdoggfnlapaaGreatDoor
set_option maxRecDepth 100000
open Go.Sx
def parN2 (p : ParM) : Bool := parN p && parT p
theorem parB_eq (p : ParM) : parB p = (parN2 p && keysOK p.keys) := by
  rw [parB, parN2, Bool.and_assoc, Bool.and_comm (keysOK _)]
theorem eqH_comm (a b : H8) : eqH a b = decide (b = a) := by rw [eqH, Bool.eq_iff_iff, decide_eq_true_eq, decide_eq_true_eq]; exact eq_comm
def rmpM (p : ParM) : Mem := [(0, .ro 8 p.keys.length (keysF p.keys)), (1, .cells 40 (parV p))]
set_option maxHeartbeats 4000000 in
theorem rmayPar_can (p : ParM) (hl : p.keys.length ≤ 1000000000) : Reads Tryz.prog 112 [.box p.ac] [] (XV.bool (parB p)) := by
  refine Reads.of Tryz.T_ok Tryz.func112 rfl _ _ _ rfl rfl (fun C hC => ?_)
  (replace hC : C.n0 = 1 := hC; change Tri _ _ _ ⟨_, _, 1⟩ _)
  rw [parB_eq]
  (refine Tri.cut 2 Tryz.mixed Tryz.T_ok ?_; refine xZ ?_)
  have no : parN2 p = false → XV.bool false = XV.bool (parN2 p && keysOK p.keys) := fun h => by rw [h, Bool.false_and]
  refine wC (fun h1 => ?_) (fun h1 => ?_)
  · (refine xG ?_)
    exact wD <| cutR <| Ends.plain (.inr rfl) rfl (no (by rw [parN2, parN, h1]; rfl))
  (refine xG ?_)
  refine wC (fun h2 => ?_) (fun h2 => ?_)
  · (refine xG ?_)
    exact wD <| cutR <| Ends.plain (.inr rfl) rfl (no (by rw [parN2, parN, h1, h2]; rfl))
  (refine xG ?_)
  refine wC (fun h3 => ?_) (fun h3 => ?_)
  · (refine xG ?_)
    exact wD <| cutR <| Ends.plain (.inr rfl) rfl (no (by rw [parN2, parN, h1, h2, h3]; rfl))
  (refine xG ?_)
  refine wC (fun h4 => ?_) (fun h4 => ?_)
  · (refine xG ?_)
    exact wD <| cutR <| Ends.plain (.inr rfl) rfl (no (by rw [parN2, parN, h1, h2, h3, h4]; rfl))
  have hN : parN p = true := by rw [parN, h1, h2, h3, h4]; rfl
  have noT : parT p = false → XV.bool false = XV.bool (parN2 p && keysOK p.keys) := fun h => no (by rw [parN2, h, Bool.and_false])
  (refine xG ?_)
  refine wC (fun h5 => ?_) (fun h5 => ?_)
  · (refine xG ?_)
    exact wD <| cutR <| Ends.plain (.inr rfl) rfl (noT (by rw [parT, decide_eq_false (show ¬ 2 ≤ p.len by simp only [decide_eq_true_eq] at h5; omega)]; rfl))
  (refine xG ?_)
  refine wC (fun h6 => ?_) (fun h6 => ?_)
  · (refine xG ?_)
    exact wD <| cutR <| Ends.plain (.inr rfl) rfl (noT (by rw [parT, decide_eq_false (show ¬ p.len ≤ 64 by simp only [decide_eq_true_eq] at h6; omega), Bool.false_and, Bool.and_false]))
  (refine xG ?_)
  refine wC (fun h7 => ?_) (fun h7 => ?_)
  · (refine xG ?_)
    exact wD <| cutR <| Ends.plain (.inr rfl) rfl (noT (by rw [parT, decide_eq_false (show ¬ 1 ≤ p.win by simp only [decide_eq_true_eq] at h7; omega), Bool.false_and, Bool.and_false, Bool.and_false]))
  (refine xG ?_)
  refine wC (fun h8 => ?_) (fun h8 => ?_)
  · (refine xG ?_)
    exact wD <| cutR <| Ends.plain (.inr rfl) rfl (noT (by rw [parT, decide_eq_false (show ¬ p.win ≤ p.len by simp only [decide_eq_true_eq] at h8; omega), Bool.and_false, Bool.and_false, Bool.and_false]))
  have hT : parT p = true := by
    simp only [decide_eq_false_iff_not] at h5 h6 h7 h8
    rw [parT, decide_eq_true (show 2 ≤ p.len by omega), decide_eq_true (show p.len ≤ 64 by omega), decide_eq_true (show 1 ≤ p.win by omega), decide_eq_true (show p.win ≤ p.len by omega)]; rfl
  have hN2 : parN2 p = true := by rw [parN2, hN, hT]; rfl
  rw [hN2, Bool.true_and]
  (refine xG ?_)
  refine wD <| cutG <| Tri.seq ?_
  (refine Tri.cut 1 Tryz.mixed Tryz.T_ok ?_; refine xZ ?_)
  refine wD <| cutG <| Tri.block ?_
  refine Tri.loop (α := { i : Nat // i ≤ p.keys.length ∧ (List.range i).all (keyAt p.keys) = true }) (fun i => ⟨[none, some (XV.sv (.ptr 1 0 0 0)), none, some (XV.int .i64 i.1)] ++ List.replicate 75 none, rmpM p, 2⟩) (fun i => p.keys.length - i.1) ⟨0, Nat.zero_le _, rfl⟩ ?_ ?_
  · unfold rmpM
    ((try dsimp only); refine Ent.renC [0, 1] hC ?_ ?_ <;> repeat' (first | exact trivial | exact rfl | exact ⟨_, rfl, rfl, rfl, Nat.le_refl _, fun _ _ => rfl⟩ | exact ⟨_, rfl, rfl, rfl, fun _ _ => rfl⟩ | exact ⟨_, rfl, rfl, rfl⟩ | exact ⟨_, rfl, rfl⟩ | refine ⟨_, rfl, rfl, rfl, by omega, fun k hk => ?_⟩ | refine ⟨?_, ?_⟩ | fail))
  rintro ⟨i, hi, ha⟩
  dsimp only
  unfold rmpM
  (refine Tri.cut 1 Tryz.mixed Tryz.T_ok ?_; refine xZ ?_)
  refine wC (fun k1 => ?_) (fun k1 => ?_)
  · (refine xG ?_)
    have h1' : i < p.keys.length := xW
    have hs := range_all_succ (keyAt p.keys) i
    have hw : IntKind.i64.wrap ((i : Int) + 1) = ((i + 1 : Nat) : Int) := xW
    have bad : keyAt p.keys i = false → XV.bool false = XV.bool (keysOK p.keys) := fun h => by rw [keysOK, range_all_false h1' h]
    refine wD <| cutG <| Tri.seq <| Tri.block ?_
    refine Tri.seq ?_
    refine Tri.seq (Tri.of Tryz.mixed Tryz.T_ok ?_)
    (refine xB ?_)
    refine wD <| cutG <| Tri.block ?_
    refine Tri.loop (α := { k : Nat // k ≤ i ∧ (p.keys.take k).any (eqH (p.keys.getD i default)) = false }) (fun k => ⟨[none, some (XV.sv (.ptr 1 0 0 0)), none, some (XV.int .i64 i), some (XV.int .i64 k.1)] ++ List.replicate 74 none, rmpM p, 2⟩) (fun k => i - k.1) ⟨0, Nat.zero_le _, by simp⟩ ?_ ?_
    · unfold rmpM
      ((try dsimp only); refine Ent.renC [0, 1] hC ?_ ?_ <;> repeat' (first | exact trivial | exact rfl | exact ⟨_, rfl, rfl, rfl, Nat.le_refl _, fun _ _ => rfl⟩ | exact ⟨_, rfl, rfl, rfl, fun _ _ => rfl⟩ | exact ⟨_, rfl, rfl, rfl⟩ | exact ⟨_, rfl, rfl⟩ | refine ⟨_, rfl, rfl, rfl, by omega, fun k hk => ?_⟩ | refine ⟨?_, ?_⟩ | fail))
    rintro ⟨k, hk, hka⟩
    dsimp only
    unfold rmpM
    (refine Tri.cut 1 Tryz.mixed Tryz.T_ok ?_; refine xZ ?_)
    refine wC (fun k2 => ?_) (fun k2 => ?_)
    · (refine xG ?_)
      have h2' : k < i := xW
      have hw2 : IntKind.i64.wrap ((k : Int) + 1) = ((k + 1 : Nat) : Int) := xW
      have hsk := any_take_succ' (p := eqH (p.keys.getD i default)) (show k < p.keys.length by omega)
      refine wD <| cutG <| Tri.seq <| Tri.block <| Tri.of Tryz.mixed Tryz.T_ok ?_
      (refine xB ?_)
      (repeat (refine wN ?_ ?_; exact xW; refine xG ?_))
      simp only [Nat.zero_add, Int.toNat_natCast]
      (refine wP _ _ (eq_op hashE rfl (p.keys.getD k default) (p.keys.getD i default) rfl rfl) ?_; refine xZ ?_)
      refine wC (fun k3 => ?_) (fun k3 => ?_)
      · (refine xG ?_)
        have hq : (p.keys.take i).any (eqH (p.keys.getD i default)) = true := by
          rw [List.any_eq_true]
          refine ⟨p.keys.getD k default, ?_, by rw [eqH_comm]; exact k3⟩
          rw [List.getD_eq_getElem?_getD, List.getElem?_eq_getElem (by omega)]
          show p.keys[k] ∈ _
          rw [List.mem_take_iff_getElem]
          exact ⟨k, by omega, rfl⟩
        exact wD <| blockR <| cutR <| loopR <| blockR <| cutR <| blockR <| cutR <| loopR <| blockR <| cutR <| Ends.plain (.inr rfl) rfl (bad (by rw [keyAt, hq]; simp))
      · (refine xG ?_)
        refine wD <| blockN <| cutG <| Tri.of Tryz.mixed Tryz.T_ok ?_
        (refine xB ?_)
        refine wD <| loopN ⟨⟨k + 1, h2', by rw [hsk, hka, Bool.false_or, eqH_comm]; exact k3⟩, by dsimp only; omega, ?_⟩
        rw [hw2]
        ((try dsimp only); refine Ent.renC [0, 1] hC ?_ ?_ <;> repeat' (first | exact trivial | exact rfl | exact ⟨_, rfl, rfl, rfl, Nat.le_refl _, fun _ _ => rfl⟩ | exact ⟨_, rfl, rfl, rfl, fun _ _ => rfl⟩ | exact ⟨_, rfl, rfl, rfl⟩ | exact ⟨_, rfl, rfl⟩ | refine ⟨_, rfl, rfl, rfl, by omega, fun k hk => ?_⟩ | refine ⟨?_, ?_⟩ | fail))
    · (refine xG ?_)
      have h2' : k = i := xW
      subst h2'
      refine wD <| cutE <| loopX <| blockX <| cutG <| Tri.of Tryz.mixed Tryz.T_ok ?_
      (refine xB ?_)
      (repeat (refine wN ?_ ?_; exact xW; refine xG ?_))
      simp only [Nat.zero_add, Int.toNat_natCast]
      (apply wP; exact (call_op rfl (entersB_of Tryz.func147 (by kernel_rfl)) rfl ((rzero_can (p.keys.getD k default)).at [] ⟨lend_plain rfl, trivial⟩ trivial)); refine xZ ?_)
      refine wC (fun k3 => ?_) (fun k3 => ?_)
      · (refine xG ?_)
        exact wD <| blockR <| cutR <| loopR <| blockR <| cutR <| Ends.plain (.inr rfl) rfl (bad (by rw [keyAt, k3]; rfl))
      · (refine xG ?_)
        refine wD <| blockN <| cutG <| Tri.of Tryz.mixed Tryz.T_ok ?_
        (refine xB ?_)
        refine wD <| loopN ⟨⟨k + 1, h1', by rw [hs, ha, keyAt, k3, hka]; rfl⟩, by dsimp only; omega, ?_⟩
        rw [hw]
        ((try dsimp only); refine Ent.renC [0, 1] hC ?_ ?_ <;> repeat' (first | exact trivial | exact rfl | exact ⟨_, rfl, rfl, rfl, Nat.le_refl _, fun _ _ => rfl⟩ | exact ⟨_, rfl, rfl, rfl, fun _ _ => rfl⟩ | exact ⟨_, rfl, rfl, rfl⟩ | exact ⟨_, rfl, rfl⟩ | refine ⟨_, rfl, rfl, rfl, by omega, fun k hk => ?_⟩ | refine ⟨?_, ?_⟩ | fail))
  · (refine xG ?_)
    have h1' : i = p.keys.length := xW
    subst h1'
    refine wD <| cutE <| loopX <| blockX <| cutG <| Tri.of Tryz.mixed Tryz.T_ok ?_
    (refine xB ?_)
    exact wD (Ends.plain (.inr rfl) rfl (by rw [keysOK, ha]))
def qseed (k : Int) : H8 := ⟨113, byteI (IntKind.u8.wrap k), 0, 0, 0, 0, 0, 0⟩
theorem seed_can (k : Int) : Reads Tryz.prog 118 [.plain (.one (.raw (.int .i64 k)))] [] (.cv (qseed k).x) := by
  refine Reads.of Tryz.T_ok Tryz.func118 rfl _ _ _ rfl rfl (fun C hC => ?_)
  (replace hC : C.n0 = 1 := hC; change Tri _ _ _ ⟨_, _, 1⟩ _)
  refine Tri.of Tryz.mixed Tryz.T_ok ?_
  (refine xB ?_)
  refine wD (Ends.plain (.inr rfl) rfl ?_)
  show _ = XV.cv (.agg [.raw (u8 113), .raw (u8 (byteI (IntKind.u8.wrap k))), .raw (u8 0), .raw (u8 0), .raw (u8 0), .raw (u8 0), .raw (u8 0), .raw (u8 0)])
  rw [u8_byteI]; rfl
def qkeys (n : Nat) : List H8 := (List.range n).map fun k : Nat => treeH (qseed (k : Int))
theorem qkeys_succ (n : Nat) : qkeys (n + 1) = qkeys n ++ [treeH (qseed (n : Int))] := by simp [qkeys, List.range_succ]
theorem qkeys_len (n : Nat) : (qkeys n).length = n := by simp [qkeys]
def madeP (n : Nat) (need : Int) : ParM := ⟨4, 2, need, qkeys n⟩
theorem keys_snoc {l : List H8} {x : H8} {f : Nat → List Value} {m k : Nat} (hm : m = l.length) (hf : f 0 = x.cells) (hk : k < m + 1) : joinF (keysF l) m f k = keysF (l ++ [x]) k := by
  subst hm
  simp only [joinF, nblt]
  by_cases h : k < l.length
  · rw [decide_eq_true h, cond_true, keysF, rowOf, keysF, rowOf, List.getD_eq_getElem?_getD, List.getD_eq_getElem?_getD, List.getElem?_append_left h]
  · obtain rfl : k = l.length := by omega
    rw [decide_eq_false h, cond_false, Nat.sub_self, hf, keysF, rowOf]; simp
def madeSt (n : Nat) (need : Int) (i : Nat) : St :=
  ⟨[some (XV.int .i64 n), none, none, none, some (XV.sv (.ptr 2 0 0 0)), some (XV.sv (.ptr 3 0 0 0)), some (XV.int .i64 i)] ++ List.replicate 20 none,
   [(2, .cells 40 (parCells par0 (.raw (.slice none 0 0)))), (3, .cells 40 [.raw (.int .i64 4), .raw (.int .i64 2), .raw (.int .i64 need), .slc 4 8 0 i]), (4, .vec 29 8 i (keysF (qkeys i)))], 5⟩
set_option maxHeartbeats 2000000 in
theorem made_can (n : Nat) (hn : n ≤ 8) (need : Int) : Makes Tryz.prog 64 [.plain (.one (.raw (.int .i64 n))), .plain (.one (.raw (.int .i64 need)))] [] (.cv (.agg [.raw (.int .i64 4), .raw (.int .i64 2), .raw (.int .i64 need), .slc 0 8 0 n])) (.vec 29 8 n (keysF (qkeys n))) := by
  refine Makes.of Tryz.T_ok Tryz.func64 rfl _ _ _ _ rfl rfl rfl rfl 4 (fun C hC => ?_)
  (replace hC : C.n0 = 2 := hC; change Tri _ _ _ ⟨_, _, 2⟩ _)
  (refine Tri.cut 2 Tryz.mixed Tryz.T_ok ?_; refine xZ ?_)
  refine wD <| cutG <| Tri.ent (Ent.nilc (c := 5) (e := 40) (cs := [.raw (.int .i64 4), .raw (.int .i64 2), .raw (.int .i64 need), .raw (.slice none 0 0)]) (j := 3) rfl rfl 29 8) <| Tri.seq ?_
  (refine Tri.cut 1 Tryz.mixed Tryz.T_ok ?_; refine xZ ?_)
  refine wD <| cutG <| Tri.block ?_
  refine Tri.loop (α := { i : Nat // i ≤ n }) (fun i => madeSt n need i.1) (fun i => n - i.1) ⟨0, Nat.zero_le _⟩ ?_ ?_
  · unfold madeSt
    ((try dsimp only); refine Ent.renC [0, 1, 2, 5, 7] hC ?_ ?_ <;> repeat' (first | exact trivial | exact rfl | exact ⟨_, rfl, rfl, rfl, Nat.le_refl _, fun _ _ => rfl⟩ | exact ⟨_, rfl, rfl, rfl, fun _ _ => rfl⟩ | exact ⟨_, rfl, rfl, rfl⟩ | exact ⟨_, rfl, rfl⟩ | refine ⟨_, rfl, rfl, rfl, by omega, fun k hk => ?_⟩ | refine ⟨?_, ?_⟩ | fail))
    exact absurd hk (Nat.not_lt_zero _)
  rintro ⟨i, hi⟩
  dsimp only
  unfold madeSt
  (refine Tri.cut 1 Tryz.mixed Tryz.T_ok ?_; refine xZ ?_)
  refine wC (fun h1 => ?_) (fun h1 => ?_)
  · (refine xG ?_)
    have h1' : i < n := xW
    have hw : IntKind.i64.wrap ((i : Int) + 1) = ((i + 1 : Nat) : Int) := xW
    (refine wTd ?_ ?_; (first | refine decide_eq_true ?_ | rw [beq_iff_eq] | rw [bne_iff_ne]); exact xW; refine xG ?_)
    refine wD <| cutG <| Tri.seq <| Tri.block <| Tri.of Tryz.mixed Tryz.T_ok ?_
    (refine xB ?_)
    (apply wP; exact (call_op rfl (entersB_of Tryz.func118 (by kernel_rfl)) rfl ((seed_can (i : Int)).at [] ⟨lend_plain rfl, trivial⟩ trivial)); refine xZ ?_)
    (apply wP; exact (call_op rfl (entersB_of Tryz.func117 (by kernel_rfl)) rfl ((tree_can (qseed (i : Int))).at [] ⟨lend_plain rfl, trivial⟩ trivial)); refine xZ ?_)
    (refine wP _ _ (append_op Tryz.T_ok rfl rfl rfl rfl rfl [4, 17] (old_vec rfl rfl (Nat.le_refl _) rfl) (new_vec (lo := 0) rfl rfl (Nat.le_refl _) rfl) rfl (lt1 rfl) (by simp only [maxLen]; omega) (by dsimp only; omega)) ?_; refine xZ ?_)
    refine wD <| blockN <| cutG <| Tri.of Tryz.mixed Tryz.T_ok ?_
    (refine xB ?_)
    refine wD <| loopN ⟨⟨i + 1, h1'⟩, by dsimp only; omega, ?_⟩
    rw [hw]
    ((try dsimp only); refine Ent.renC [0, 1, 2, 3, 18] hC ?_ ?_ <;> repeat' (first | exact trivial | exact rfl | exact ⟨_, rfl, rfl, rfl, Nat.le_refl _, fun _ _ => rfl⟩ | exact ⟨_, rfl, rfl, rfl, fun _ _ => rfl⟩ | exact ⟨_, rfl, rfl, rfl⟩ | exact ⟨_, rfl, rfl⟩ | refine ⟨_, rfl, rfl, rfl, by omega, fun k hk => ?_⟩ | refine ⟨?_, ?_⟩ | fail))
    rw [qkeys_succ]
    exact keys_snoc (qkeys_len _).symm rfl hk
  · (refine xG ?_)
    have h1' : i = n := xW
    subst h1'
    refine wD <| cutE <| loopX <| blockX <| cutG <| Tri.of Tryz.mixed Tryz.T_ok ?_
    (refine xB ?_)
    exact wD (Ends.made (.inr rfl) (Ent.refl _) rfl (Nat.le_of_ble_eq_true rfl) rfl)
end Go.Proofs.YtnpkdoggfnlapaaGreatDoor

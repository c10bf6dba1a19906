/- Parts Hf Hg Ub Ug. -/
import Derived.Test.YtnpkdoggfnlapaaGreatDoorG13
import Derived.Test.YtnpkdoggfnlapaaGreatDoorG07
set_option linter.unusedSimpArgs false
set_option linter.unusedVariables false
namespace Go.Proofs.YtnpkdoggfnlapaaGreatDoor
set_option maxRecDepth 100000
open Go.Sx
def rS (b h k m at_ w i9 i10 v i14 i19 : Option XV) : List (Option XV) :=
  [b, none, some (XV.sv (.ptr 1 0 0 0)), h, k, m, none, at_, w, i9, i10, none, none, v, i14, none, none, none, none, i19, none, none] ++ List.replicate 237 none
def rM (l L : List UInt8) (m : Nat) (h : Nat → Int) : Mem :=
  [(0, .ro 1 l.length (rowB l)), (1, .cells 174 ((List.replicate 32 (u8 0)).map .raw)), (2, .vec 226 1 8 (wordsF h)), (3, .vec 227 1 64 (wordsF stepW)), (4, .vec 5 1 m (rowB L))]
def rp (c : Nat) : Option XV := some (XV.sv (.ptr c 0 0 0))
def ri (i : Int) : Option XV := some (XV.int .i64 i)
def rSt1 (l L : List UInt8) (m : Nat) : St := ⟨rS (some (XV.sv (.slc 0 1 0 l.length))) (rp 2) (rp 3) (some (XV.sv (.slc 4 1 0 m))) none none none none none none none, rM l L m startW, 5⟩
def rSt2 (l L : List UInt8) (m : Nat) (i : Int) : St := ⟨[some (XV.sv (.slc 0 1 0 l.length)), none, some (XV.sv (.ptr 1 0 0 0)), rp 2, rp 3, some (XV.sv (.slc 4 1 0 m)), ri i] ++ List.replicate 252 none, rM l L m startW, 5⟩
def rMt (l : List UInt8) (t : Nat) : Mem := rM l (padL l) (64 * blocksN l) (stateH l t)
def rSt3 (l : List UInt8) (t : Nat) : St := ⟨rS none (rp 2) (rp 3) (some (XV.sv (.slc 4 1 0 (64 * blocksN l)))) (ri ((64 * t : Nat) : Int)) none none none none none none, rMt l t, 5⟩
def rSt6 (l : List UInt8) (t i : Nat) : St := ⟨rS none (rp 2) (rp 3) (some (XV.sv (.slc 4 1 0 (64 * blocksN l)))) (ri ((64 * t : Nat) : Int)) (rp 5) (ri i) none none none none, rMt l t ++ [(5, .vec 227 1 64 (wordsF (sched (blockAt l t) i)))], 6⟩
def rSt8 (l : List UInt8) (t i : Nat) : St := ⟨rS none (rp 2) (rp 3) (some (XV.sv (.slc 4 1 0 (64 * blocksN l)))) (ri ((64 * t : Nat) : Int)) (rp 5) none (ri i) none none none, rMt l t ++ [(5, .vec 227 1 64 (wordsF (sched (blockAt l t) i)))], 6⟩
def rSt10 (l : List UInt8) (t i : Nat) : St := ⟨rS none (rp 2) (rp 3) (some (XV.sv (.slc 4 1 0 (64 * blocksN l)))) (ri ((64 * t : Nat) : Int)) (rp 5) none none (rp 6) (ri i) none, rMt l t ++ [(5, .vec 227 1 64 (wordsF (sched (blockAt l t) 64))), (6, .cells 226 (vCells (stepsV (stateH l t) (blockAt l t) i)))], 7⟩
def rSt12 (l : List UInt8) (t i : Nat) : St := ⟨rS none (rp 2) (rp 3) (some (XV.sv (.slc 4 1 0 (64 * blocksN l)))) (ri ((64 * t : Nat) : Int)) none none none (rp 5) none (ri i), rM l (padL l) (64 * blocksN l) (addedW (stateH l t) (blockAt l t) i) ++ [(5, .vec 226 1 8 (wordsF (stepsV (stateH l t) (blockAt l t) 64)))], 6⟩
def rSt14 (l : List UInt8) (i : Nat) : St := ⟨[none, none, rp 1, rp 2] ++ List.replicate 16 none ++ [rp 3, ri i] ++ List.replicate 237 none,
  [(0, .ro 1 l.length (rowB l)), (1, .cells 174 ((List.replicate 32 (u8 0)).map .raw)), (2, .vec 226 1 8 (wordsF (stateH l (blocksN l)))), (3, .vec 174 1 32 (bytesF (shaP l i)))], 4⟩
set_option maxHeartbeats 8000000 in
theorem rsum_can (l : List UInt8) (hl : Short l) : Reads Tryz.prog 95 [.row 1 l.length (rowB l)] [] (.cv (.agg ((tabF (bytesF (shaB l)) 0 32).map .raw))) := by
  have hl' : l.length ≤ 1000000000 := hl
  have hZ : padZ l.length < 64 := by unfold padZ; omega
  refine Reads.of Tryz.T_ok Tryz.func95 rfl _ _ _ rfl (aggs_ok _ _) (fun C hC => ?_)
  (replace hC : C.n0 = 1 := hC; change Tri _ _ _ ⟨_, _, 1⟩ _)
  (refine Tri.cut 4 Tryz.mixed Tryz.T_ok ?_; refine xZ ?_)
  (apply wP; exact (call_op rfl (entersB_of Tryz.func150 (by kernel_rfl)) rfl (rounds_can.at [] trivial trivial)); refine xZ ?_)
  (refine wP _ _ (append_op Tryz.T_ok rfl rfl rfl rfl rfl [0] (old_nil rfl _ _ _ fun _ => []) (new_ro (lo := 0) rfl rfl (by omega) rfl) rfl (fun _ _ => rfl) (by simp only [maxLen]; omega) (by dsimp only; omega)) ?_; refine xZ ?_)
  (refine wP _ _ (append_op Tryz.T_ok rfl rfl rfl rfl rfl [9, 10] (old_vec rfl rfl (Nat.le_refl _) rfl) (new_vec (lo := 0) rfl rfl (Nat.le_refl _) rfl) rfl (lt1 rfl) (by simp only [maxLen]; omega) (by dsimp only; omega)) ?_; refine xZ ?_)
  refine wD <| cutG <| Tri.ent (Ent.arrT (c := 3) 1 8 (wordsF startW) rfl rfl rfl (fun _ _ => rfl) (by decide) rfl (by rw [hC]; decide)) <| Tri.ent (Ent.arrT (c := 6) 1 64 (wordsF stepW) rfl rfl rfl (fun _ _ => rfl) (by decide) rfl (by rw [hC]; decide)) ?_
  refine Tri.seq <| Tri.block ?_
  simp only [Nat.zero_add]
  refine Tri.loop (α := { j : Nat // j ≤ padZ l.length }) (fun j => rSt1 l (pad0 l j.1) (l.length + 1 + j.1)) (fun j => padZ l.length - j.1) ⟨0, Nat.zero_le _⟩ ?_ ?_
  · dsimp only
    ((try dsimp only); refine Ent.renC [0, 1, 3, 6, 11] hC ?_ ?_ <;> repeat' (first | exact trivial | exact rfl | exact ⟨_, rfl, rfl, rfl, Nat.le_refl _, fun _ _ => rfl⟩ | exact ⟨_, rfl, rfl, rfl, fun _ _ => rfl⟩ | exact ⟨_, rfl, rfl, rfl⟩ | exact ⟨_, rfl, rfl⟩ | refine ⟨_, rfl, rfl, rfl, by omega, fun k hk => ?_⟩ | refine ⟨?_, ?_⟩ | fail))
    rw [show pad0 l 0 = l ++ [0x80] by simp [pad0]]
    refine rowB_join (b := [0x80]) rfl (fun i hi => ?_) (lt1 rfl) hk
    exact rowB_join (a := []) rfl (fun i hi => absurd hi (Nat.not_lt_zero _)) (fun _ _ => rfl) (by simpa using hi)
  rintro ⟨j, hj⟩
  dsimp only
  (refine Tri.cut 1 Tryz.mixed Tryz.T_ok ?_; refine xZ ?_)
  refine wC (fun h1 => ?_) (fun h1 => ?_)
  · (refine xG ?_)
    have h1' : j < padZ l.length := by
      rw [rem64, decide_eq_true_eq] at h1
      rcases Nat.lt_or_ge j (padZ l.length) with h | h
      · exact h
      · have : j = padZ l.length := by omega
        subst this
        unfold padZ at h1
        omega
    refine wD <| cutG <| Tri.block <| Tri.of Tryz.mixed Tryz.T_ok ?_
    (refine xB ?_)
    (refine wP _ _ (append_op Tryz.T_ok rfl rfl rfl rfl rfl [4, 10] (old_vec rfl rfl (Nat.le_refl _) rfl) (new_vec (lo := 0) rfl rfl (Nat.le_refl _) rfl) rfl (lt1 rfl) (by simp only [maxLen]; omega) (by dsimp only; omega)) ?_; refine xZ ?_)
    refine wD <| blockN <| loopN ⟨⟨j + 1, h1'⟩, by dsimp only; omega, ?_⟩
    dsimp only
    ((try dsimp only); refine Ent.renC [0, 1, 2, 3, 11] hC ?_ ?_ <;> repeat' (first | exact trivial | exact rfl | exact ⟨_, rfl, rfl, rfl, Nat.le_refl _, fun _ _ => rfl⟩ | exact ⟨_, rfl, rfl, rfl, fun _ _ => rfl⟩ | exact ⟨_, rfl, rfl, rfl⟩ | exact ⟨_, rfl, rfl⟩ | refine ⟨_, rfl, rfl, rfl, by omega, fun k hk => ?_⟩ | refine ⟨?_, ?_⟩ | fail))
    rw [pad0_succ]
    exact rowB_snoc (pad0_length l j).symm rfl (by rw [pad0_length]; exact hk)
  · (refine xG ?_)
    have h1' : j = padZ l.length := by
      rw [rem64, decide_eq_false_iff_not, Decidable.not_not] at h1
      unfold padZ at hj ⊢
      omega
    subst h1'
    refine wD <| cutE <| loopX <| blockX <| cutG <| Tri.seq ?_
    (refine Tri.cut 1 Tryz.mixed Tryz.T_ok ?_; refine xZ ?_)
    refine wD <| cutG <| Tri.block ?_
    refine Tri.loop (α := { d : Nat // d ≤ 8 }) (fun d => rSt2 l (pad0 l (padZ l.length) ++ lensB l.length d.1) (l.length + 1 + padZ l.length + d.1) (7 - (d.1 : Int))) (fun d => 8 - d.1) ⟨0, Nat.zero_le _⟩ ?_ ?_
    · dsimp only
      ((try dsimp only); refine Ent.renC [0, 1, 2, 3, 4] hC ?_ ?_ <;> repeat' (first | exact trivial | exact rfl | exact ⟨_, rfl, rfl, rfl, Nat.le_refl _, fun _ _ => rfl⟩ | exact ⟨_, rfl, rfl, rfl, fun _ _ => rfl⟩ | exact ⟨_, rfl, rfl, rfl⟩ | exact ⟨_, rfl, rfl⟩ | refine ⟨_, rfl, rfl, rfl, by omega, fun k hk => ?_⟩ | refine ⟨?_, ?_⟩ | fail))
      simp [lensB]
    rintro ⟨d, hd⟩
    dsimp only
    (refine Tri.cut 1 Tryz.mixed Tryz.T_ok ?_; refine xZ ?_)
    refine wC (fun h2 => ?_) (fun h2 => ?_)
    · (refine xG ?_)
      have h2' : d < 8 := xW
      have e8 : IntKind.i64.wrap (8 * (7 - (d : Int))) = ((8 * (7 - d) : Nat) : Int) := xW
      have e9 : IntKind.u64.wrap ((8 * (7 - d) : Nat) : Int) = ((8 * (7 - d) : Nat) : Int) := xW
      have ew : IntKind.i64.wrap (7 - (d : Int) - 1) = 7 - ((d + 1 : Nat) : Int) := xW
      refine wD <| cutG <| Tri.seq <| Tri.block <| Tri.of Tryz.mixed Tryz.T_ok ?_
      (refine xB ?_)
      simp only [e8, e9]
      (refine wN ?_ ?_; exact xW; refine xG ?_)
      (refine wP _ _ (append_op Tryz.T_ok rfl rfl rfl rfl rfl [4, 17] (old_vec rfl rfl (Nat.le_refl _) rfl) (new_vec (lo := 0) rfl rfl (Nat.le_refl _) rfl) rfl (lt1 rfl) (by simp only [maxLen]; omega) (by dsimp only; omega)) ?_; refine xZ ?_)
      refine wD <| blockN <| cutG <| Tri.of Tryz.mixed Tryz.T_ok ?_
      (refine xB ?_)
      refine wD <| loopN ⟨⟨d + 1, h2'⟩, by dsimp only; omega, ?_⟩
      dsimp only
      rw [ew]
      ((try dsimp only); refine Ent.renC [0, 1, 2, 3, 18] hC ?_ ?_ <;> repeat' (first | exact trivial | exact rfl | exact ⟨_, rfl, rfl, rfl, Nat.le_refl _, fun _ _ => rfl⟩ | exact ⟨_, rfl, rfl, rfl, fun _ _ => rfl⟩ | exact ⟨_, rfl, rfl, rfl⟩ | exact ⟨_, rfl, rfl⟩ | refine ⟨_, rfl, rfl, rfl, by omega, fun k hk => ?_⟩ | refine ⟨?_, ?_⟩ | fail))
      rw [lensB, ← List.append_assoc]
      exact rowB_snoc (by rw [List.length_append, pad0_length, lensB_length]) (by rw [lenB, u8_byteI]; rfl) (by rw [List.length_append, pad0_length, lensB_length]; exact hk)
    · (refine xG ?_)
      have h2' : d = 8 := xW
      subst h2'
      have hlen := padL_length l
      have hbl := blocks_eq l
      have hnb : blocksN l ≤ 20000000 := by omega
      refine wD <| cutE <| loopX <| blockX <| cutG <| Tri.seq ?_
      (refine Tri.cut 1 Tryz.mixed Tryz.T_ok ?_; refine xZ ?_)
      refine wD <| cutG <| Tri.block ?_
      refine Tri.loop (α := { t : Nat // t ≤ blocksN l }) (fun t => rSt3 l t.1) (fun t => blocksN l - t.1) ⟨0, Nat.zero_le _⟩ ?_ ?_
      · dsimp only
        have e1 : l.length + 1 + padZ l.length + 8 = 64 * blocksN l := by omega
        rw [e1]
        exact Ent.ren [0, 1, 2, 3, 4] (by decide) rfl (fun i hi => by replace hi := Nat.lt_of_lt_of_eq hi hC; revert i; decide) (Nat.le_trans (Nat.le_of_eq hC) (by decide)) rfl (by repeat' (first | exact trivial | exact rfl | refine ⟨?_, ?_⟩ | fail)) (by repeat' (first | exact trivial | exact ⟨_, rfl, rfl, rfl, Nat.le_refl _, fun _ _ => rfl⟩ | exact ⟨_, rfl, rfl, rfl, fun _ _ => rfl⟩ | exact ⟨_, rfl, rfl, rfl⟩ | exact ⟨_, rfl, rfl⟩ | refine ⟨?_, ?_⟩ | fail))
      rintro ⟨t, ht⟩
      dsimp only
      (refine Tri.cut 1 Tryz.mixed Tryz.T_ok ?_; refine xZ ?_)
      refine wC (fun h3 => ?_) (fun h3 => ?_)
      · (refine xG ?_)
        have h3' : t < blocksN l := xW
        refine wD <| cutG <| Tri.seq <| Tri.block ?_
        (refine Tri.cut 1 Tryz.mixed Tryz.T_ok ?_; refine xZ ?_)
        refine wD <| cutG <| Tri.ent (Ent.arr0 (c := 9) 1 64 (u32 0) (f := wordsF (sched (blockAt l t) 0)) rfl rfl rfl (by decide) rfl (by rw [hC]; decide) (fun _ _ => rfl)) <| Tri.seq ?_
        (refine Tri.cut 1 Tryz.mixed Tryz.T_ok ?_; refine xZ ?_)
        refine wD <| cutG <| Tri.block ?_
        refine Tri.loop (α := { i : Nat // i ≤ 16 }) (fun i => rSt6 l t i.1) (fun i => 16 - i.1) ⟨0, Nat.zero_le _⟩ ?_ ?_
        · exact Ent.ren [0, 1, 2, 3, 4, 9] (by decide) rfl (fun i hi => by replace hi := Nat.lt_of_lt_of_eq hi hC; revert i; decide) (Nat.le_trans (Nat.le_of_eq hC) (by decide)) rfl (by repeat' (first | exact trivial | exact rfl | refine ⟨?_, ?_⟩ | fail)) (by repeat' (first | exact trivial | exact ⟨_, rfl, rfl, rfl, Nat.le_refl _, fun _ _ => rfl⟩ | exact ⟨_, rfl, rfl, rfl, fun _ _ => rfl⟩ | exact ⟨_, rfl, rfl, rfl⟩ | exact ⟨_, rfl, rfl⟩ | refine ⟨?_, ?_⟩ | fail))
        rintro ⟨i, hi⟩
        dsimp only
        (refine Tri.cut 1 Tryz.mixed Tryz.T_ok ?_; refine xZ ?_)
        refine wC (fun h4 => ?_) (fun h4 => ?_)
        · (refine xG ?_)
          have h4' : i < 16 := xW
          have g1 : IntKind.i64.wrap (4 * (i : Int)) = ((4 * i : Nat) : Int) := xW
          have g2 : IntKind.i64.wrap (((64 * t : Nat) : Int) + ((4 * i : Nat) : Int)) = ((64 * t + 4 * i : Nat) : Int) := xW
          have g3 : IntKind.i64.wrap (((64 * t + 4 * i : Nat) : Int) + 1) = ((64 * t + 4 * i + 1 : Nat) : Int) := xW
          have g4 : IntKind.i64.wrap (((64 * t + 4 * i : Nat) : Int) + 2) = ((64 * t + 4 * i + 2 : Nat) : Int) := xW
          have g5 : IntKind.i64.wrap (((64 * t + 4 * i : Nat) : Int) + 3) = ((64 * t + 4 * i + 3 : Nat) : Int) := xW
          refine wD <| cutG <| Tri.seq <| Tri.block <| Tri.of Tryz.mixed Tryz.T_ok ?_
          (refine xB ?_)
          simp only [g1, g2]
          (refine wN ?_ ?_; exact xW; refine xG ?_)
          (refine wN ?_ ?_; exact xW; refine xG ?_)
          simp only [g1, g2, g3]
          (refine wN ?_ ?_; exact xW; refine xG ?_)
          (refine wN ?_ ?_; exact xW; refine xG ?_)
          simp only [g1, g2, g4]
          (refine wN ?_ ?_; exact xW; refine xG ?_)
          (refine wN ?_ ?_; exact xW; refine xG ?_)
          simp only [g1, g2, g5]
          (refine wN ?_ ?_; exact xW; refine xG ?_)
          (refine wN ?_ ?_; exact xW; refine xG ?_)
          (repeat (refine wN ?_ ?_; exact xW; refine xG ?_))
          refine wD <| blockN <| cutG <| Tri.of Tryz.mixed Tryz.T_ok ?_
          (refine xB ?_)
          have hw : IntKind.i64.wrap ((i : Int) + 1) = ((i + 1 : Nat) : Int) := xW
          refine wD <| loopN ⟨⟨i + 1, h4'⟩, by dsimp only; omega, ?_⟩
          rw [hw]
          ((try dsimp only); refine Ent.renC [0, 1, 2, 3, 4, 5] hC ?_ ?_ <;> repeat' (first | exact trivial | exact rfl | exact ⟨_, rfl, rfl, rfl, Nat.le_refl _, fun _ _ => rfl⟩ | exact ⟨_, rfl, rfl, rfl, fun _ _ => rfl⟩ | exact ⟨_, rfl, rfl, rfl⟩ | exact ⟨_, rfl, rfl⟩ | refine ⟨_, rfl, rfl, rfl, by omega, fun k hk => ?_⟩ | refine ⟨?_, ?_⟩ | fail))
          simp only [Int.toNat_natCast, Nat.zero_add]
          rw [updW]
          simp only [wordsF, sched_step]
          split
          · rw [← word4_eq]; rfl
          · rfl
        · (refine xG ?_)
          have h4' : i = 16 := xW
          subst h4'
          refine wD <| cutE <| loopX <| blockX <| cutG <| Tri.seq ?_
          (refine Tri.cut 1 Tryz.mixed Tryz.T_ok ?_; refine xZ ?_)
          refine wD <| cutG <| Tri.block ?_
          refine Tri.loop (α := { i : Nat // 16 ≤ i ∧ i ≤ 64 }) (fun i => rSt8 l t i.1) (fun i => 64 - i.1) ⟨16, Nat.le_refl _, by decide⟩ ?_ ?_
          · exact Ent.ren [0, 1, 2, 3, 4, 5] (by decide) rfl (fun i hi => by replace hi := Nat.lt_of_lt_of_eq hi hC; revert i; decide) (Nat.le_trans (Nat.le_of_eq hC) (by decide)) rfl (by repeat' (first | exact trivial | exact rfl | refine ⟨?_, ?_⟩ | fail)) (by repeat' (first | exact trivial | exact ⟨_, rfl, rfl, rfl, Nat.le_refl _, fun _ _ => rfl⟩ | exact ⟨_, rfl, rfl, rfl, fun _ _ => rfl⟩ | exact ⟨_, rfl, rfl, rfl⟩ | exact ⟨_, rfl, rfl⟩ | refine ⟨?_, ?_⟩ | fail))
          rintro ⟨i, hi0, hi⟩
          dsimp only
          (refine Tri.cut 1 Tryz.mixed Tryz.T_ok ?_; refine xZ ?_)
          refine wC (fun h4 => ?_) (fun h4 => ?_)
          · (refine xG ?_)
            have h4' : i < 64 := xW
            have e15 : IntKind.i64.wrap ((i : Int) - 15) = ((i - 15 : Nat) : Int) := xW
            have e16 : IntKind.i64.wrap ((i : Int) - 16) = ((i - 16 : Nat) : Int) := xW
            have e7 : IntKind.i64.wrap ((i : Int) - 7) = ((i - 7 : Nat) : Int) := xW
            have e2 : IntKind.i64.wrap ((i : Int) - 2) = ((i - 2 : Nat) : Int) := xW
            refine wD <| cutG <| Tri.seq <| Tri.block <| Tri.of Tryz.mixed Tryz.T_ok ?_
            (refine xB ?_)
            (repeat (refine wN ?_ ?_; exact xW; refine xG ?_))
            (apply wP; exact (call_op rfl (entersB_of Tryz.func151 (by kernel_rfl)) rfl (turned_spec _ _ (by decide) _ _)); refine xZ ?_)
            (apply wP; exact (call_op rfl (entersB_of Tryz.func151 (by kernel_rfl)) rfl (turned_spec _ _ (by decide) _ _)); refine xZ ?_)
            (repeat (refine wN ?_ ?_; exact xW; refine xG ?_))
            (apply wP; exact (call_op rfl (entersB_of Tryz.func151 (by kernel_rfl)) rfl (turned_spec _ _ (by decide) _ _)); refine xZ ?_)
            (apply wP; exact (call_op rfl (entersB_of Tryz.func151 (by kernel_rfl)) rfl (turned_spec _ _ (by decide) _ _)); refine xZ ?_)
            (repeat (refine wN ?_ ?_; exact xW; refine xG ?_))
            refine wD <| blockN <| cutG <| Tri.of Tryz.mixed Tryz.T_ok ?_
            (refine xB ?_)
            have hw : IntKind.i64.wrap ((i : Int) + 1) = ((i + 1 : Nat) : Int) := xW
            refine wD <| loopN ⟨⟨i + 1, by omega, h4'⟩, by dsimp only; omega, ?_⟩
            rw [hw]
            ((try dsimp only); refine Ent.renC [0, 1, 2, 3, 4, 5] hC ?_ ?_ <;> repeat' (first | exact trivial | exact rfl | exact ⟨_, rfl, rfl, rfl, Nat.le_refl _, fun _ _ => rfl⟩ | exact ⟨_, rfl, rfl, rfl, fun _ _ => rfl⟩ | exact ⟨_, rfl, rfl, rfl⟩ | exact ⟨_, rfl, rfl⟩ | refine ⟨_, rfl, rfl, rfl, by omega, fun k hk => ?_⟩ | refine ⟨?_, ?_⟩ | fail))
            simp only [e15, e16, e7, e2, turn7, turn18, turn17, turn19, Int.toNat_natCast]
            rw [updW]
            simp only [wordsF, sched_step]
            split
            · rw [if_neg (by omega)]
              exact congrArg (fun x => [u32 x]) (mix_ref _ _ _ _)
            · rfl
          · (refine xG ?_)
            have h4' : i = 64 := xW
            subst h4'
            refine wD <| cutE <| loopX <| blockX <| cutG ?_
            (refine Tri.cut 1 Tryz.mixed Tryz.T_ok ?_; refine xZ ?_)
            (repeat (refine wN ?_ ?_; exact xW; refine xG ?_))
            refine wD <| cutG <| Tri.seq ?_
            (refine Tri.cut 1 Tryz.mixed Tryz.T_ok ?_; refine xZ ?_)
            refine wD <| cutG <| Tri.block ?_
            refine Tri.loop (α := { i : Nat // i ≤ 64 }) (fun i => rSt10 l t i.1) (fun i => 64 - i.1) ⟨0, Nat.zero_le _⟩ ?_ ?_
            · exact Ent.ren [0, 1, 2, 3, 4, 5, 9] (by decide) rfl (fun i hi => by replace hi := Nat.lt_of_lt_of_eq hi hC; revert i; decide) (Nat.le_trans (Nat.le_of_eq hC) (by decide)) rfl (by repeat' (first | exact trivial | exact rfl | refine ⟨?_, ?_⟩ | fail)) (by repeat' (first | exact trivial | exact ⟨_, rfl, rfl, rfl, Nat.le_refl _, fun _ _ => rfl⟩ | exact ⟨_, rfl, rfl, rfl, fun _ _ => rfl⟩ | exact ⟨_, rfl, rfl, rfl⟩ | exact ⟨_, rfl, rfl⟩ | refine ⟨?_, ?_⟩ | fail))
            rintro ⟨i, hi⟩
            dsimp only
            (refine Tri.cut 1 Tryz.mixed Tryz.T_ok ?_; refine xZ ?_)
            refine wC (fun h5 => ?_) (fun h5 => ?_)
            · (refine xG ?_)
              have h5' : i < 64 := xW
              refine wD <| cutG <| Tri.seq <| Tri.block <| Tri.of Tryz.mixed Tryz.T_ok ?_
              (refine xB ?_)
              (repeat (refine wN ?_ ?_; exact xW; refine xG ?_))
              (apply wP; exact (call_op rfl (entersB_of Tryz.func151 (by kernel_rfl)) rfl (turned_spec _ _ (by decide) _ _)); refine xZ ?_)
              (apply wP; exact (call_op rfl (entersB_of Tryz.func151 (by kernel_rfl)) rfl (turned_spec _ _ (by decide) _ _)); refine xZ ?_)
              (apply wP; exact (call_op rfl (entersB_of Tryz.func151 (by kernel_rfl)) rfl (turned_spec _ _ (by decide) _ _)); refine xZ ?_)
              (repeat (refine wN ?_ ?_; exact xW; refine xG ?_))
              (apply wP; exact (call_op rfl (entersB_of Tryz.func151 (by kernel_rfl)) rfl (turned_spec _ _ (by decide) _ _)); refine xZ ?_)
              (apply wP; exact (call_op rfl (entersB_of Tryz.func151 (by kernel_rfl)) rfl (turned_spec _ _ (by decide) _ _)); refine xZ ?_)
              (apply wP; exact (call_op rfl (entersB_of Tryz.func151 (by kernel_rfl)) rfl (turned_spec _ _ (by decide) _ _)); refine xZ ?_)
              (repeat (refine wN ?_ ?_; exact xW; refine xG ?_))
              refine wD <| blockN <| cutG <| Tri.of Tryz.mixed Tryz.T_ok ?_
              (refine xB ?_)
              have hw : IntKind.i64.wrap ((i : Int) + 1) = ((i + 1 : Nat) : Int) := xW
              refine wD <| loopN ⟨⟨i + 1, h5'⟩, by dsimp only; omega, ?_⟩
              rw [hw]
              simp only [turn6, turn11, turn25, turn2, turn13, turn22]
              exact Ent.ren [0, 1, 2, 3, 4, 5, 6] (by decide) rfl (fun i hi => by replace hi := Nat.lt_of_lt_of_eq hi hC; revert i; decide) (Nat.le_trans (Nat.le_of_eq hC) (by decide)) rfl (by repeat' (first | exact trivial | exact rfl | refine ⟨?_, ?_⟩ | fail)) (by repeat' (first | exact trivial | exact ⟨_, rfl, rfl, rfl, Nat.le_refl _, fun _ _ => rfl⟩ | exact ⟨_, rfl, rfl, rfl, fun _ _ => rfl⟩ | exact ⟨_, rfl, rfl, rfl⟩ | exact ⟨_, rfl, rfl⟩ | refine ⟨?_, ?_⟩ | fail))
            · (refine xG ?_)
              have h5' : i = 64 := xW
              subst h5'
              refine wD <| cutE <| loopX <| blockX <| cutG <| Tri.ent (Ent.arrT (c := 6) 1 8 (wordsF (stepsV (stateH l t) (blockAt l t) 64)) rfl rfl rfl (fun _ _ => rfl) (by decide) rfl (by rw [hC]; decide)) ?_
              (refine Tri.cut 1 Tryz.mixed Tryz.T_ok ?_; refine xZ ?_)
              refine wD <| cutG <| Tri.block ?_
              refine Tri.loop (α := { i : Nat // i ≤ 8 }) (fun i => rSt12 l t i.1) (fun i => 8 - i.1) ⟨0, Nat.zero_le _⟩ ?_ ?_
              · exact Ent.ren [0, 1, 2, 3, 4, 6] (by decide) rfl (fun i hi => by replace hi := Nat.lt_of_lt_of_eq hi hC; revert i; decide) (Nat.le_trans (Nat.le_of_eq hC) (by decide)) rfl (by repeat' (first | exact trivial | exact rfl | refine ⟨?_, ?_⟩ | fail)) (by repeat' (first | exact trivial | exact ⟨_, rfl, rfl, rfl, Nat.le_refl _, fun _ _ => rfl⟩ | exact ⟨_, rfl, rfl, rfl, fun _ _ => rfl⟩ | exact ⟨_, rfl, rfl, rfl⟩ | exact ⟨_, rfl, rfl⟩ | refine ⟨?_, ?_⟩ | fail))
              rintro ⟨j, hj⟩
              dsimp only
              (refine Tri.cut 1 Tryz.mixed Tryz.T_ok ?_; refine xZ ?_)
              refine wC (fun h6 => ?_) (fun h6 => ?_)
              · (refine xG ?_)
                have h6' : j < 8 := xW
                refine wD <| cutG <| Tri.seq <| Tri.block <| Tri.of Tryz.mixed Tryz.T_ok ?_
                (refine xB ?_)
                (repeat (refine wN ?_ ?_; exact xW; refine xG ?_))
                refine wD <| blockN <| cutG <| Tri.of Tryz.mixed Tryz.T_ok ?_
                (refine xB ?_)
                have hw : IntKind.i64.wrap ((j : Int) + 1) = ((j + 1 : Nat) : Int) := xW
                refine wD <| loopN ⟨⟨j + 1, h6'⟩, by dsimp only; omega, ?_⟩
                rw [hw]
                ((try dsimp only); refine Ent.renC [0, 1, 2, 3, 4, 5] hC ?_ ?_ <;> repeat' (first | exact trivial | exact rfl | exact ⟨_, rfl, rfl, rfl, Nat.le_refl _, fun _ _ => rfl⟩ | exact ⟨_, rfl, rfl, rfl, fun _ _ => rfl⟩ | exact ⟨_, rfl, rfl, rfl⟩ | exact ⟨_, rfl, rfl⟩ | refine ⟨_, rfl, rfl, rfl, by omega, fun k hk => ?_⟩ | refine ⟨?_, ?_⟩ | fail))
                simp only [Int.toNat_natCast]
                rw [updW]
                simp only [wordsF, addedW]
                by_cases hk2 : k = j
                · subst hk2
                  rw [if_pos rfl, if_neg (Nat.lt_irrefl k), if_pos (Nat.lt_succ_self k)]
                  rfl
                · rw [if_neg hk2]
                  by_cases hk3 : k < j
                  · rw [if_pos hk3, if_pos (by omega)]
                  · rw [if_neg hk3, if_neg (by omega)]
              · (refine xG ?_)
                have h6' : j = 8 := xW
                subst h6'
                have hf : ∀ k, k < 8 → wordsF (addedW (stateH l t) (blockAt l t) 8) k = wordsF (stateH l (t + 1)) k := fun k hk => by simp [wordsF, addedW, stateH, hk]
                refine wD <| cutE <| loopX <| blockX <| blockN <| cutG <| Tri.ent (Ent.chg0 (c := 2) (g := wordsF (stateH l (t + 1))) rfl hf) <| Tri.of Tryz.mixed Tryz.T_ok ?_
                (refine xB ?_)
                have hw : IntKind.i64.wrap (((64 * t : Nat) : Int) + 64) = ((64 * (t + 1) : Nat) : Int) := xW
                refine wD <| loopN ⟨⟨t + 1, h3'⟩, by dsimp only; omega, ?_⟩
                rw [hw]
                exact Ent.ren [0, 1, 2, 3, 4] (by decide) rfl (fun i hi => by replace hi := Nat.lt_of_lt_of_eq hi hC; revert i; decide) (Nat.le_trans (Nat.le_of_eq hC) (by decide)) rfl (by repeat' (first | exact trivial | exact rfl | refine ⟨?_, ?_⟩ | fail)) (by repeat' (first | exact trivial | exact ⟨_, rfl, rfl, rfl, Nat.le_refl _, fun _ _ => rfl⟩ | exact ⟨_, rfl, rfl, rfl, fun _ _ => rfl⟩ | exact ⟨_, rfl, rfl, rfl⟩ | exact ⟨_, rfl, rfl⟩ | refine ⟨?_, ?_⟩ | fail))
      · (refine xG ?_)
        have h3' : t = blocksN l := xW
        subst h3'
        refine wD <| cutE <| loopX <| blockX <| cutG ?_
        (refine Tri.cut 1 Tryz.mixed Tryz.T_ok ?_; refine xZ ?_)
        refine wD <| cutG <| Tri.ent (Ent.arr0 (c := 9) 1 32 (u8 0) (f := bytesF (shaP l 0)) rfl rfl rfl (by decide) rfl (by rw [hC]; decide) (fun _ _ => rfl)) <| Tri.seq ?_
        (refine Tri.cut 1 Tryz.mixed Tryz.T_ok ?_; refine xZ ?_)
        refine wD <| cutG <| Tri.block ?_
        refine Tri.loop (α := { i : Nat // i ≤ 32 }) (fun i => rSt14 l i.1) (fun i => 32 - i.1) ⟨0, Nat.zero_le _⟩ ?_ ?_
        · exact Ent.ren [0, 1, 2, 9] (by decide) rfl (fun i hi => by replace hi := Nat.lt_of_lt_of_eq hi hC; revert i; decide) (Nat.le_trans (Nat.le_of_eq hC) (by decide)) rfl (by repeat' (first | exact trivial | exact rfl | refine ⟨?_, ?_⟩ | fail)) (by repeat' (first | exact trivial | exact ⟨_, rfl, rfl, rfl, Nat.le_refl _, fun _ _ => rfl⟩ | exact ⟨_, rfl, rfl, rfl, fun _ _ => rfl⟩ | exact ⟨_, rfl, rfl, rfl⟩ | exact ⟨_, rfl, rfl⟩ | refine ⟨?_, ?_⟩ | fail))
        rintro ⟨i, hi⟩
        dsimp only
        (refine Tri.cut 1 Tryz.mixed Tryz.T_ok ?_; refine xZ ?_)
        refine wC (fun h4 => ?_) (fun h4 => ?_)
        · (refine xG ?_)
          have h4' : i < 32 := xW
          have q1 : IntKind.i64.wrap (Int.tdiv (i : Int) 4) = ((i / 4 : Nat) : Int) := by
            have : Int.tdiv (i : Int) 4 = ((i / 4 : Nat) : Int) := rfl
            rw [this]; exact xW
          have q2 : Int.tmod (i : Int) 4 = ((i % 4 : Nat) : Int) := rfl
          have q3 : IntKind.i64.wrap (8 * ((i % 4 : Nat) : Int)) = ((i % 4 * 8 : Nat) : Int) := xW
          have q4 : IntKind.i64.wrap (24 - ((i % 4 * 8 : Nat) : Int)) = ((24 - i % 4 * 8 : Nat) : Int) := xW
          have q5 : IntKind.u64.wrap ((24 - i % 4 * 8 : Nat) : Int) = ((24 - i % 4 * 8 : Nat) : Int) := xW
          refine wD <| cutG <| Tri.seq <| Tri.block <| Tri.of Tryz.mixed Tryz.T_ok ?_
          (refine xB ?_)
          simp only [q1]
          (refine wN ?_ ?_; exact xW; refine xG ?_)
          (refine wN ?_ ?_; exact xW; refine xG ?_)
          simp only [q2, q3, q4, q5]
          (repeat (refine wN ?_ ?_; exact xW; refine xG ?_))
          refine wD <| blockN <| cutG <| Tri.of Tryz.mixed Tryz.T_ok ?_
          (refine xB ?_)
          have hw : IntKind.i64.wrap ((i : Int) + 1) = ((i + 1 : Nat) : Int) := xW
          refine wD <| loopN ⟨⟨i + 1, h4'⟩, by dsimp only; omega, ?_⟩
          rw [hw]
          ((try dsimp only); refine Ent.renC [0, 1, 2, 3] hC ?_ ?_ <;> repeat' (first | exact trivial | exact rfl | exact ⟨_, rfl, rfl, rfl, Nat.le_refl _, fun _ _ => rfl⟩ | exact ⟨_, rfl, rfl, rfl, fun _ _ => rfl⟩ | exact ⟨_, rfl, rfl, rfl⟩ | exact ⟨_, rfl, rfl⟩ | refine ⟨_, rfl, rfl, rfl, by omega, fun k hk => ?_⟩ | refine ⟨?_, ?_⟩ | fail))
          simp only [Int.toNat_natCast]
          rw [← u8_byteI, updB]
          simp only [bytesF, shaP]
          by_cases hk2 : k = i
          · subst hk2
            rw [if_pos rfl, if_pos (Nat.lt_succ_self k)]
            rfl
          · rw [if_neg hk2]
            by_cases hk3 : k < i
            · rw [if_pos hk3, if_pos (by omega)]
            · rw [if_neg hk3, if_neg (by omega)]
        · (refine xG ?_)
          have h4' : i = 32 := xW
          subst h4'
          have hf : ∀ k, k < 32 → bytesF (shaP l 32) k = bytesF (shaB l) k := fun k hk => by simp [bytesF, shaP, hk]
          refine wD <| cutE <| loopX <| blockX <| cutG <| Tri.ent (Ent.chg0 (c := 3) (g := bytesF (shaB l)) rfl hf) <| Tri.of Tryz.mixed Tryz.T_ok ?_
          (refine xB ?_)
          (repeat (refine wN ?_ ?_; exact xW; refine xG ?_))
          exact wD (Ends.plain (.inr rfl) rfl rfl)
end Go.Proofs.YtnpkdoggfnlapaaGreatDoor
namespace Go.Proofs.YtnpkdoggfnlapaaGreatDoor
set_option maxRecDepth 100000
open Go.Sx
def numB (n : Int) (i : Nat) : UInt8 := byteI (IntKind.u8.wrap (shrI .i64 n ((8 * i : Nat) : Int)))
def numL (n : Int) : Nat → List UInt8
  | 0 => []
  | i + 1 => numL n i ++ [numB n i]
theorem numL_length (n : Int) : ∀ i, (numL n i).length = i
  | 0 => rfl
  | i + 1 => by simp [numL, numL_length n i]
def numSt (n : Int) (w i : Nat) : St := ⟨[some (XV.int .i64 n), some (XV.int .i64 w), none, none, none, some (XV.sv (.slc 2 1 0 i)), some (XV.int .i64 i)] ++ List.replicate 15 none, [(2, .vec 5 1 i (rowB (numL n i)))], 3⟩
theorem num_can (n : Int) (w : Nat) (hw : w ≤ 8) : Makes Tryz.prog 72 [.plain (.one (.raw (.int .i64 n))), .plain (.one (.raw (.int .i64 w)))] [] (XV.sv (.slc 0 1 0 w)) (.vec 5 1 w (rowB (numL n w))) := by
  refine Makes.of Tryz.T_ok Tryz.func72 rfl _ _ _ _ rfl rfl rfl rfl 2 (fun C hC => ?_)
  (replace hC : C.n0 = 2 := hC; change Tri _ _ _ ⟨_, _, 2⟩ _)
  (refine Tri.cut 2 Tryz.mixed Tryz.T_ok ?_; refine xZ ?_)
  refine wD <| cutG <| Tri.ent (Ent.nils (t := 5) rfl 5 1) <| Tri.seq ?_
  (refine Tri.cut 1 Tryz.mixed Tryz.T_ok ?_; refine xZ ?_)
  refine wD <| cutG <| Tri.block ?_
  refine Tri.loop (α := { i : Nat // i ≤ w }) (fun i => numSt n w i.1) (fun i => w - i.1) ⟨0, Nat.zero_le _⟩ ?_ ?_
  · ((try dsimp only); refine Ent.renC [0, 1, 4] hC ?_ ?_ <;> repeat' (first | exact trivial | exact rfl | exact ⟨_, rfl, rfl, rfl, Nat.le_refl _, fun _ _ => rfl⟩ | exact ⟨_, rfl, rfl, rfl, fun _ _ => rfl⟩ | exact ⟨_, rfl, rfl, rfl⟩ | exact ⟨_, rfl, rfl⟩ | refine ⟨_, rfl, rfl, rfl, by omega, fun k hk => ?_⟩ | refine ⟨?_, ?_⟩ | fail))
    exact absurd hk (Nat.not_lt_zero _)
  rintro ⟨i, hi⟩
  dsimp only
  (refine Tri.cut 1 Tryz.mixed Tryz.T_ok ?_; refine xZ ?_)
  refine wC (fun h1 => ?_) (fun h1 => ?_)
  · (refine xG ?_)
    have h1' : i < w := xW
    have e1 : IntKind.i64.wrap (8 * (i : Int)) = ((8 * i : Nat) : Int) := xW
    have e2 : IntKind.u64.wrap ((8 * i : Nat) : Int) = ((8 * i : Nat) : Int) := xW
    refine wD <| cutG <| Tri.seq <| Tri.block <| Tri.of Tryz.mixed Tryz.T_ok ?_
    (refine xB ?_)
    simp only [e1, e2]
    (refine wN ?_ ?_; exact xW; refine xG ?_)
    (refine wP _ _ (append_op Tryz.T_ok rfl rfl rfl rfl rfl [2, 13] (old_vec rfl rfl (Nat.le_refl _) rfl) (new_vec (lo := 0) rfl rfl (Nat.le_refl _) rfl) rfl (lt1 rfl) (by simp only [maxLen]; omega) (by dsimp only; omega)) ?_; refine xZ ?_)
    refine wD <| blockN <| cutG <| Tri.of Tryz.mixed Tryz.T_ok ?_
    (refine xB ?_)
    have hw : IntKind.i64.wrap ((i : Int) + 1) = ((i + 1 : Nat) : Int) := xW
    refine wD <| loopN ⟨⟨i + 1, h1'⟩, by dsimp only; omega, ?_⟩
    rw [hw]
    ((try dsimp only); refine Ent.renC [0, 1, 14] hC ?_ ?_ <;> repeat' (first | exact trivial | exact rfl | exact ⟨_, rfl, rfl, rfl, Nat.le_refl _, fun _ _ => rfl⟩ | exact ⟨_, rfl, rfl, rfl, fun _ _ => rfl⟩ | exact ⟨_, rfl, rfl, rfl⟩ | exact ⟨_, rfl, rfl⟩ | refine ⟨_, rfl, rfl, rfl, by omega, fun k hk => ?_⟩ | refine ⟨?_, ?_⟩ | fail))
    exact rowB_snoc (a := numL n i) (x := numB n i) (numL_length n i).symm (by rw [numB, u8_byteI]; rfl) (by rw [numL_length]; exact hk)
  · (refine xG ?_)
    have h1' : i = w := xW
    subst h1'
    refine wD <| cutE <| loopX <| blockX <| cutG <| Tri.of Tryz.mixed Tryz.T_ok ?_
    (refine xB ?_)
    exact wD (Ends.made (.inr rfl) (Ent.refl _) rfl (Nat.le_refl _) rfl)
def encN (p : UInt8) (bss : List (List UInt8)) : Nat → List UInt8
  | 0 => [p]
  | i + 1 => encN p bss i ++ numL ((bss.getD i []).length : Int) 4 ++ bss.getD i []
theorem encN_length (p : UInt8) (bss : List (List UInt8)) (i : Nat) : (encN p bss (i + 1)).length = (encN p bss i).length + 4 + (bss.getD i []).length := by simp only [encN, List.length_append, numL_length]
theorem encN_le (p : UInt8) (bss : List (List UInt8)) {i j : Nat} (h : i ≤ j) : (encN p bss i).length ≤ (encN p bss j).length := by
  induction j with
  | zero => obtain rfl : i = 0 := by omega
            exact Nat.le_refl _
  | succ j ih =>
    by_cases hij : i = j + 1
    · subst hij; exact Nat.le_refl _
    · have := ih (by omega)
      rw [encN_length]; omega
def encAll (p : UInt8) (bss : List (List UInt8)) : List UInt8 := encN p bss bss.length
def dig (p : UInt8) (bss : List (List UInt8)) : H8 :=
  let s := shaB (encAll p bss)
  ⟨s 0, s 1, s 2, s 3, s 4, s 5, s 6, s 7⟩
def partsA (bss : List (List UInt8)) : AD := .rows 1 bss.length (fun i => (bss.getD i []).length) (fun i => rowB (bss.getD i []))
def ofSt (p : UInt8) (bss : List (List UInt8)) (ad : Nat → Option Addr) (cp : Nat → Nat) (i : Nat) : St :=
  ⟨[none, none, none, none, some (XV.sv (.ptr 4 0 0 0)), some (XV.sv (.slc 5 1 0 (encN p bss i).length)), none, none, none, none, none, none, none, some (XV.sv (.slc 1 1 0 bss.length)), some (XV.int .i64 bss.length), some (XV.int .i64 i)] ++ List.replicate 28 none,
   [(1, .ro 1 bss.length fun i => [.slice (ad i) (bss.getD i []).length (cp i)]), (2, .ext stepsP), (3, .ext (PartsAt 1 bss.length (fun i => (bss.getD i []).length) (fun i => rowB (bss.getD i [])) ad)), (4, .cells 29 ((List.replicate 8 (u8 0)).map .raw)), (5, .vec 5 1 (encN p bss i).length (rowB (encN p bss i)))], 6⟩
theorem le4_row (n : Nat) (x0 x1 x2 x3 : Value) (h0 : x0 = u8 (numB n 0)) (h1 : x1 = u8 (numB n 1)) (h2 : x2 = u8 (numB n 2)) (h3 : x3 = u8 (numB n 3)) : ∀ i, i < (numL (n : Int) 4).length → cutF [x0, x1, x2, x3] 1 (0 + i) = rowB (numL (n : Int) 4) i := by
  subst h0 h1 h2 h3
  intro i hi
  rw [numL_length] at hi
  match i, hi with
  | 0, _ => rfl
  | 1, _ => rfl
  | 2, _ => rfl
  | 3, _ => rfl
theorem shr0 (n : Int) : shrI .i64 n 0 = n := by simp [shrI]
set_option maxHeartbeats 4000000 in
theorem of_can (p : UInt8) (bss : List (List UInt8)) (hl : Short (encAll p bss)) : Reads Tryz.prog 146 [.plain (.one (.raw (u8 p))), partsA bss] [stepsP] (.cv (.agg ((dig p bss).cells.map .raw))) := by
  have hl' : (encN p bss bss.length).length ≤ 1000000000 := hl
  refine Reads.of Tryz.T_ok Tryz.func146 rfl _ _ _ rfl (aggs_ok _ _) (fun C hC => ?_)
  (replace hC : C.n0 = 3 := hC; change Tri _ _ _ ⟨_, _, 3⟩ _)
  refine Tri.openRows (c := 1) rfl (fun ad cp => ?_)
  (refine Tri.cut 2 Tryz.mixed Tryz.T_ok ?_; refine xZ ?_)
  refine wD <| cutG <| Tri.seq ?_
  (refine Tri.cut 1 Tryz.mixed Tryz.T_ok ?_; refine xZ ?_)
  refine wD <| cutG <| Tri.block ?_
  have hbs : bss.length ≤ 1000000000 := by
    have : ∀ j, j ≤ (encN p bss j).length := by
      intro j
      induction j with
      | zero => exact Nat.zero_le _
      | succ j ih => rw [encN_length]; omega
    exact Nat.le_trans (this _) hl'
  refine Tri.loop (α := { i : Nat // i ≤ bss.length }) (fun i => ofSt p bss ad cp i.1) (fun i => bss.length - i.1) ⟨0, Nat.zero_le _⟩ ?_ ?_
  · dsimp only
    rw [ofSt, show (encN p bss 0).length = 1 from rfl]
    ((try dsimp only); refine Ent.renC [0, 1, 2, 3, 4, 6] hC ?_ ?_ <;> repeat' (first | exact trivial | exact rfl | exact ⟨_, rfl, rfl, rfl, Nat.le_refl _, fun _ _ => rfl⟩ | exact ⟨_, rfl, rfl, rfl, fun _ _ => rfl⟩ | exact ⟨_, rfl, rfl, rfl⟩ | exact ⟨_, rfl, rfl⟩ | refine ⟨_, rfl, rfl, rfl, by omega, fun k hk => ?_⟩ | refine ⟨?_, ?_⟩ | fail))
    exact lt1 (P := fun k => cutF [u8 p] 1 k = rowB [p] k) rfl k hk
  rintro ⟨i, hi⟩
  dsimp only
  (refine Tri.cut 2 Tryz.mixed Tryz.T_ok ?_; refine xZ ?_)
  refine wC (fun h1 => ?_) (fun h1 => ?_)
  · (refine xG ?_)
    have h1' : i < bss.length := xW
    have hle : (encN p bss (i + 1)).length ≤ 1000000000 := Nat.le_trans (encN_le p bss h1') hl'
    rw [encN_length] at hle
    refine wD <| cutG <| Tri.seq <| Tri.block <| Tri.of Tryz.mixed Tryz.T_ok ?_
    (refine xB ?_)
    (repeat (refine wN ?_ ?_; exact xW; refine xG ?_))
    have ei : 0 + ((i : Int)).toNat = i := by omega
    rw [ei]
    (refine wP _ _ (append_op Tryz.T_ok rfl rfl rfl rfl rfl [5, 25] (old_vec rfl rfl (Nat.le_refl _) rfl) (new_vec (lo := 0) rfl rfl (Nat.le_refl _) rfl) rfl (fun i hi => by rcases (by omega : i = 0 ∨ i = 1 ∨ i = 2 ∨ i = 3) with rfl | rfl | rfl | rfl <;> rfl) (by simp only [maxLen]; omega) (by dsimp only; omega)) ?_; refine xZ ?_)
    (refine wP _ _ (append_op Tryz.T_ok rfl rfl rfl rfl rfl [26, 3] (old_vec rfl rfl (Nat.le_refl _) rfl) (new_part (q := 3) (i := i) rfl rfl rfl h1') rfl (fun _ _ => rfl) (by simp only [maxLen]; omega) (by dsimp only; omega)) ?_; refine xZ ?_)
    refine wD <| blockN <| cutG <| Tri.of Tryz.mixed Tryz.T_ok ?_
    (refine xB ?_)
    have hw : IntKind.i64.wrap ((i : Int) + 1) = ((i + 1 : Nat) : Int) := xW
    refine wD <| loopN ⟨⟨i + 1, h1'⟩, by dsimp only; omega, ?_⟩
    rw [hw]
    dsimp only
    rw [ofSt, encN_length]
    ((try dsimp only); refine Ent.renC [0, 1, 2, 3, 4, 28] hC ?_ ?_ <;> repeat' (first | exact trivial | exact rfl | exact ⟨_, rfl, rfl, rfl, Nat.le_refl _, fun _ _ => rfl⟩ | exact ⟨_, rfl, rfl, rfl, fun _ _ => rfl⟩ | exact ⟨_, rfl, rfl, rfl⟩ | exact ⟨_, rfl, rfl⟩ | refine ⟨_, rfl, rfl, rfl, by omega, fun k hk => ?_⟩ | refine ⟨?_, ?_⟩ | fail))
    refine rowB_join (a := encN p bss i ++ numL ((bss.getD i []).length : Int) 4) (b := bss.getD i []) (by rw [List.length_append, numL_length]) (fun i' hi' => ?_) (fun _ _ => rfl) (by rw [List.length_append, numL_length]; exact hk)
    refine rowB_join (b := numL ((bss.getD i []).length : Int) 4) rfl (fun _ _ => rfl) (le4_row _ _ _ _ _ ?_ ?_ ?_ ?_) (by rw [← List.length_append]; exact hi')
    · rw [numB, u8_byteI, show ((8 * 0 : Nat) : Int) = 0 from rfl, shr0]
    · rw [numB, u8_byteI]; rfl
    · rw [numB, u8_byteI]; rfl
    · rw [numB, u8_byteI]; rfl
  · (refine xG ?_)
    have h1' : i = bss.length := xW
    subst h1'
    refine wD <| cutE <| loopX <| blockX <| cutG ?_
    (refine Tri.cut 1 Tryz.mixed Tryz.T_ok ?_; refine xZ ?_)
    (apply wP; exact (call_op rfl (entersB_of Tryz.func181 (by kernel_rfl)) rfl ((sum_can (encAll p bss) hl).at [5, 2] ⟨lend_vec rfl rfl (Nat.le_of_eq (Nat.zero_add _)) (fun i _ => by rw [Nat.zero_add]; rfl), trivial⟩ ⟨lend_ext (c := 2) rfl rfl, trivial⟩)); refine xZ ?_)
    refine wD <| cutG ?_
    (refine Tri.cut 1 Tryz.mixed Tryz.T_ok ?_; refine xZ ?_)
    refine wD <| cutG ?_
    (refine Tri.cut 1 Tryz.mixed Tryz.T_ok ?_; refine xZ ?_)
    (refine wP _ _ (copy_op Tryz.T_ok (k := 32) (m := 8) (g := bytesF (shaB (encAll p bss))) [11, 9] rfl rfl rfl rfl rfl (by decide) rfl rfl (new_sla rfl rfl rfl (fun _ _ => rfl) rfl) rfl (by decide) (Nat.le_of_ble_eq_true rfl) (fun _ _ => rfl) rfl) ?_; refine xZ ?_)
    refine wD <| cutG <| Tri.of Tryz.mixed Tryz.T_ok ?_
    (refine xB ?_)
    exact wD (Ends.plain (.inr rfl) rfl rfl)
def dgSt (p : UInt8) (bss : List (List UInt8)) (ad : Nat → Option Addr) (cp : Nat → Nat) (i : Nat) : St :=
  ⟨[none, some (XV.sv (.slc 1 1 0 bss.length)), none, none, some (XV.sv (.ptr 3 0 0 0)), some (XV.sv (.slc 4 1 0 (encN p bss i).length)), some (XV.int .i64 i)] ++ List.replicate 29 none,
   [(1, .ro 1 bss.length fun i => [.slice (ad i) (bss.getD i []).length (cp i)]), (2, .ext (PartsAt 1 bss.length (fun i => (bss.getD i []).length) (fun i => rowB (bss.getD i [])) ad)), (3, .cells 29 ((List.replicate 8 (u8 0)).map .raw)), (4, .vec 5 1 (encN p bss i).length (rowB (encN p bss i)))], 5⟩
set_option maxHeartbeats 4000000 in
theorem digest_can (p : UInt8) (bss : List (List UInt8)) (hl : Short (encAll p bss)) : Reads Tryz.prog 45 [.plain (.one (.raw (u8 p))), partsA bss] [] (.cv (.agg ((dig p bss).cells.map .raw))) := by
  have hl' : (encN p bss bss.length).length ≤ 1000000000 := hl
  refine Reads.of Tryz.T_ok Tryz.func45 rfl _ _ _ rfl (aggs_ok _ _) (fun C hC => ?_)
  (replace hC : C.n0 = 2 := hC; change Tri _ _ _ ⟨_, _, 2⟩ _)
  refine Tri.openRows (c := 1) rfl (fun ad cp => ?_)
  (refine Tri.cut 2 Tryz.mixed Tryz.T_ok ?_; refine xZ ?_)
  refine wD <| cutG <| Tri.seq ?_
  (refine Tri.cut 1 Tryz.mixed Tryz.T_ok ?_; refine xZ ?_)
  refine wD <| cutG <| Tri.block ?_
  have hbs : bss.length ≤ 1000000000 := by
    have : ∀ j, j ≤ (encN p bss j).length := by
      intro j
      induction j with
      | zero => exact Nat.zero_le _
      | succ j ih => rw [encN_length]; omega
    exact Nat.le_trans (this _) hl'
  refine Tri.loop (α := { i : Nat // i ≤ bss.length }) (fun i => dgSt p bss ad cp i.1) (fun i => bss.length - i.1) ⟨0, Nat.zero_le _⟩ ?_ ?_
  · dsimp only
    rw [dgSt, show (encN p bss 0).length = 1 from rfl]
    ((try dsimp only); refine Ent.renC [0, 1, 2, 3, 5] hC ?_ ?_ <;> repeat' (first | exact trivial | exact rfl | exact ⟨_, rfl, rfl, rfl, Nat.le_refl _, fun _ _ => rfl⟩ | exact ⟨_, rfl, rfl, rfl, fun _ _ => rfl⟩ | exact ⟨_, rfl, rfl, rfl⟩ | exact ⟨_, rfl, rfl⟩ | refine ⟨_, rfl, rfl, rfl, by omega, fun k hk => ?_⟩ | refine ⟨?_, ?_⟩ | fail))
    exact lt1 (P := fun k => cutF [u8 p] 1 k = rowB [p] k) rfl k hk
  rintro ⟨i, hi⟩
  dsimp only
  (refine Tri.cut 1 Tryz.mixed Tryz.T_ok ?_; refine xZ ?_)
  refine wC (fun h1 => ?_) (fun h1 => ?_)
  · (refine xG ?_)
    have h1' : i < bss.length := xW
    have hle : (encN p bss (i + 1)).length ≤ 1000000000 := Nat.le_trans (encN_le p bss h1') hl'
    rw [encN_length] at hle
    refine wD <| cutG <| Tri.seq <| Tri.block <| Tri.of Tryz.mixed Tryz.T_ok ?_
    (refine xB ?_)
    (repeat (refine wN ?_ ?_; exact xW; refine xG ?_))
    have ei : 0 + ((i : Int)).toNat = i := by omega
    rw [ei]
    (apply wP; exact (call_op rfl (entersB_of Tryz.func72 (by kernel_rfl)) rfl ((num_can _ 4 (by decide)).at [] ⟨lend_plain rfl, lend_plain rfl, trivial⟩ trivial)); refine xZ ?_)
    (refine wP _ _ (append_op Tryz.T_ok rfl rfl rfl rfl rfl [4, 15] (old_vec rfl rfl (Nat.le_refl _) rfl) (new_vec (lo := 0) rfl rfl (Nat.le_refl _) rfl) rfl (fun i hi => by rcases (by omega : i = 0 ∨ i = 1 ∨ i = 2 ∨ i = 3) with rfl | rfl | rfl | rfl <;> rfl) (by simp only [maxLen]; omega) (by dsimp only; omega)) ?_; refine xZ ?_)
    (repeat (refine wN ?_ ?_; exact xW; refine xG ?_))
    rw [ei]
    (refine wP _ _ (append_op Tryz.T_ok rfl rfl rfl rfl rfl [16, 2] (old_vec rfl rfl (Nat.le_refl _) rfl) (new_part (q := 2) (i := i) rfl rfl rfl h1') rfl (fun _ _ => rfl) (by simp only [maxLen]; omega) (by dsimp only; omega)) ?_; refine xZ ?_)
    refine wD <| blockN <| cutG <| Tri.of Tryz.mixed Tryz.T_ok ?_
    (refine xB ?_)
    have hw : IntKind.i64.wrap ((i : Int) + 1) = ((i + 1 : Nat) : Int) := xW
    refine wD <| loopN ⟨⟨i + 1, h1'⟩, by dsimp only; omega, ?_⟩
    rw [hw]
    dsimp only
    rw [dgSt, encN_length]
    ((try dsimp only); refine Ent.renC [0, 1, 2, 3, 21] hC ?_ ?_ <;> repeat' (first | exact trivial | exact rfl | exact ⟨_, rfl, rfl, rfl, Nat.le_refl _, fun _ _ => rfl⟩ | exact ⟨_, rfl, rfl, rfl, fun _ _ => rfl⟩ | exact ⟨_, rfl, rfl, rfl⟩ | exact ⟨_, rfl, rfl⟩ | refine ⟨_, rfl, rfl, rfl, by omega, fun k hk => ?_⟩ | refine ⟨?_, ?_⟩ | fail))
    refine rowB_join (a := encN p bss i ++ numL ((bss.getD i []).length : Int) 4) (b := bss.getD i []) (by rw [List.length_append, numL_length]) (fun i' hi' => ?_) (fun _ _ => rfl) (by rw [List.length_append, numL_length]; exact hk)
    exact rowB_join (b := numL ((bss.getD i []).length : Int) 4) rfl (fun _ _ => rfl) (fun j _ => by rw [Nat.zero_add]) (by rw [← List.length_append]; exact hi')
  · (refine xG ?_)
    have h1' : i = bss.length := xW
    subst h1'
    refine wD <| cutE <| loopX <| blockX <| cutG ?_
    (refine Tri.cut 1 Tryz.mixed Tryz.T_ok ?_; refine xZ ?_)
    (apply wP; exact (call_op rfl (entersB_of Tryz.func95 (by kernel_rfl)) rfl ((rsum_can (encAll p bss) hl).at [4] ⟨lend_vec rfl rfl (Nat.le_of_eq (Nat.zero_add _)) (fun i _ => by rw [Nat.zero_add]; rfl), trivial⟩ trivial)); refine xZ ?_)
    refine wD <| cutG ?_
    (refine Tri.cut 1 Tryz.mixed Tryz.T_ok ?_; refine xZ ?_)
    refine wD <| cutG ?_
    (refine Tri.cut 1 Tryz.mixed Tryz.T_ok ?_; refine xZ ?_)
    (repeat (refine wN ?_ ?_; exact xW; refine xG ?_))
    (refine wP _ _ (copy_op Tryz.T_ok (k := 8) (m := 8) (g := bytesF (shaB (encAll p bss))) [13, 11] rfl rfl rfl rfl rfl (by decide) rfl rfl (new_sla rfl rfl rfl (fun _ _ => rfl) rfl) rfl (by decide) (Nat.le_of_ble_eq_true rfl) (fun _ _ => rfl) rfl) ?_; refine xZ ?_)
    refine wD <| cutG <| Tri.of Tryz.mixed Tryz.T_ok ?_
    (refine xB ?_)
    exact wD (Ends.plain (.inr rfl) rfl rfl)
end Go.Proofs.YtnpkdoggfnlapaaGreatDoor
namespace Go.Proofs.YtnpkdoggfnlapaaGreatDoor
set_option maxRecDepth 100000
open Go.Sx
structure USet where
  coins : List (Pt × Coin)
  steps : List Stp
  total : Int
def USet.mem (S : USet) : Mem := [(0, .cells 131 [.map 1, .slc 2 21 0 S.steps.length, .raw (.int .i64 S.total)]), (1, .abs (MapP Pt.v Coin.v S.coins)), (2, .vec 236 21 S.steps.length fun i => (S.steps.getD i default).cells)]
def usetP (S : USet) : AbsP := packP S.mem True
theorem USet.opens {P : Program} {C : Ctx} {cd : Code} {slots : List (Option XV)} {mem : Mem} {nx : Nat} {Q : Exit → St → Prop} (S : USet) (c : Nat) (hc : mem.get c = some (.abs (usetP S)))
    (h : Tri P C cd ⟨slots, (c, .cells 131 [.map (nx + 1), .slc (nx + 2) 21 0 S.steps.length, .raw (.int .i64 S.total)]) :: (nx + 1, .abs (MapP Pt.v Coin.v S.coins)) :: (nx + 2, .vec 236 21 S.steps.length fun i => (S.steps.getD i default).cells) :: mem.del c, nx + 3⟩ Q) :
    Tri P C cd ⟨slots, mem, nx⟩ Q :=
  Tri.opens (M := S.mem) (m := 3) (inv := True) (c := c) hc rfl fun _ => h
theorem USet.shuts {C : Ctx} {slots : List (Option XV)} {mem : Mem} {nx : Nat} (S : USet) (c : Nat) {i1 i2 : Nat} {m n : Nat} {total : Int} {f : Nat → List Value}
    (k0 : mem.get c = some (.cells 131 [.map i1, .slc i2 21 0 m, .raw (.int .i64 total)])) (k1 : mem.get i1 = some (.abs (MapP Pt.v Coin.v S.coins))) (k2 : mem.get i2 = some (.vec 236 21 n f))
    (hids : (Nat.beq c i1 || Nat.beq c i2 || Nat.beq i1 i2) = false) (hm : m = S.steps.length) (ht : total = S.total) (hle : S.steps.length ≤ n) (hf : ∀ i, i < S.steps.length → f i = (S.steps.getD i default).cells) :
    Ent C ⟨slots, mem, nx⟩ ⟨slots, (c, .abs (usetP S)) :: mem.dels [c, i1, i2], nx⟩ := by
  subst hm ht
  exact Ent.shut3 (S := ⟨slots, mem, nx⟩) (M := S.mem) (inv := True) hids trivial rfl rfl rfl rfl k0 k1 k2 rfl ⟨rfl, rfl⟩ rfl ⟨rfl, rfl, hle, hf⟩
theorem USet.ends {C : Ctx} {T : TyTab} {rs : List ResultVar} {X X' : XV} {e : Exit} {slots : List (Option XV)} {mem : Mem} {nx : Nat} {S0 : USet} (S : USet) {i1 i2 : Nat} {m n : Nat} {total : Int} {f : Nat → List Value} (he : e = .normal ∨ e = .ret)
    (k0 : mem.get 0 = some (.cells 131 [.map i1, .slc i2 21 0 m, .raw (.int .i64 total)])) (k1 : mem.get i1 = some (.abs (MapP Pt.v Coin.v S.coins))) (k2 : mem.get i2 = some (.vec 236 21 n f))
    (hids : (Nat.beq 0 i1 || Nat.beq 0 i2 || Nat.beq i1 i2) = false)
    (hr : resX T ⟨slots, (0, .abs (usetP S)) :: mem.dels [0, i1, i2], nx⟩ rs = some X') (hX : X' = X) (hS : S = S0) (hm : m = S.steps.length) (ht : total = S.total) (hle : S.steps.length ≤ n) (hf : ∀ i, i < S.steps.length → f i = (S.steps.getD i default).cells) :
    Sx.Ends C T rs 1 1 ⟨X, [(0, .abs (usetP S0))], none⟩ e ⟨slots, mem, nx⟩ := by
  subst hX hS
  refine ⟨he, _, USet.shuts S 0 k0 k1 k2 hids hm ht hle hf, hr, fun i ch h => ?_, fun i ch h => by cases h⟩
  simp only [Mem.get, nbeq] at h
  by_cases hk : 0 = i
  · subst hk
    simp only [decide_true, cond_true, Option.some.injEq] at h
    exact ⟨by omega, by rw [← h]; rfl⟩
  · simp [hk] at h
abbrev Pt.cv (p : Pt) : CV := .agg (p.cells.map .raw)
abbrev Coin.cv (p : Coin) : CV := .agg (p.cells.map .raw)
def USet.put (S : USet) (p : Pt) (c : Coin) : USet := { S with coins := mput S.coins p c, total := IntKind.i64.wrap (S.total + c.amt.toInt) }
theorem coin_map : Tryz.prog.underlying 128 = some (.map 65 61) := Tryz.underlying128
set_option maxRecDepth 100000 in
theorem put_spec (S : USet) (p : Pt) (c : Coin) {M : Mem} {c0 d : Nat} (hM : M.get c0 = some (.abs (usetP S))) (hd : Nat.beq d c0 = false) : CallSpec Tryz.prog 155 [.one (.ptr c0 0 0 0), p.cv, c.cv] M d { v := .tup [], upd := [(c0, .abs (usetP (S.put p c)))], wr := [c0] } [c0] := by
  refine spec_obj Tryz.T_ok Tryz.func155 rfl [p.cv, c.cv] (.tup []) rfl rfl hM hd (fun C _ => ?_)
  refine USet.opens S 0 rfl ?_
  refine Tri.of Tryz.mixed Tryz.T_ok ?_
  (refine xB ?_)
  (refine wP _ _ (update_op ptK coin_map rfl rfl p c rfl rfl rfl) ?_; refine xZ ?_)
  exact USet.ends (S.put p c) (.inl rfl) rfl rfl rfl rfl rfl rfl rfl rfl rfl (Nat.le_refl _) (fun _ _ => rfl)
def USet.take (S : USet) (p : Pt) (c : Coin) : USet := { S with coins := mdel S.coins p, total := IntKind.i64.wrap (S.total - c.amt.toInt) }
theorem coin_zero : ∀ w : World, (zeroValue 61).run Tryz.prog w = .ok (Coin.v coin0) w := fun w => by kernel_rfl
def USet.get (S : USet) (p : Pt) : Coin := (mget S.coins p).getD coin0
def USet.has (S : USet) (p : Pt) : Bool := (mget S.coins p).isSome
set_option maxRecDepth 100000 in
theorem get_spec (S : USet) (p : Pt) {M : Mem} {c0 d : Nat} (hM : M.get c0 = some (.abs (usetP S))) (hd : Nat.beq d c0 = false) : CallSpec Tryz.prog 21 [.one (.ptr c0 0 0 0), p.cv] M d { v := .tup [(S.get p).cv, .one (.raw (.bool (S.has p)))], upd := [(c0, .abs (usetP S))], wr := [c0] } [c0] := by
  refine spec_obj Tryz.T_ok Tryz.func21 rfl [p.cv] (.tup [(S.get p).cv, .one (.raw (.bool (S.has p)))]) rfl rfl hM hd (fun C _ => ?_)
  refine USet.opens S 0 rfl ?_
  refine Tri.of Tryz.mixed Tryz.T_ok ?_
  (refine xB ?_)
  (refine wP _ _ (lookup_op (ok := true) ptK coin_map (z0 := coin0) coin_zero rfl rfl p rfl rfl) ?_; refine xZ ?_)
  exact USet.ends S (.inr rfl) rfl rfl rfl rfl rfl rfl rfl rfl rfl (Nat.le_refl _) (fun _ _ => rfl)
set_option maxRecDepth 100000 in
theorem total_spec (S : USet) {M : Mem} {c0 d : Nat} (hM : M.get c0 = some (.abs (usetP S))) (hd : Nat.beq d c0 = false) : CallSpec Tryz.prog 23 [.one (.ptr c0 0 0 0)] M d { v := XV.int .i64 S.total, upd := [(c0, .abs (usetP S))], wr := [c0] } [c0] := by
  refine spec_obj Tryz.T_ok Tryz.func23 rfl [] (XV.int .i64 S.total) rfl rfl hM hd (fun C _ => ?_)
  refine USet.opens S 0 rfl ?_
  refine Tri.of Tryz.mixed Tryz.T_ok ?_
  (refine xB ?_)
  exact USet.ends S (.inr rfl) rfl rfl rfl rfl rfl rfl rfl rfl rfl (Nat.le_refl _) (fun _ _ => rfl)
def USet.empty : USet := ⟨[], [], 0⟩
theorem USet.ends_new {C : Ctx} {T : TyTab} {rs : List ResultVar} {X : XV} {e : Exit} {slots : List (Option XV)} {mem : Mem} {nx n0 : Nat} (l : List (Pt × Coin)) (total : Int) (i0 i1 : Nat) (he : e = .normal ∨ e = .ret) (hids : (Nat.beq i0 i1 || Nat.beq i0 nx || Nat.beq i1 nx) = false) (hn : n0 ≤ i0)
    (k0 : mem.get i0 = some (.cells 131 [.map i1, .raw (.slice none 0 0), .raw (.int .i64 total)])) (k1 : mem.get i1 = some (.abs (MapP Pt.v Coin.v l)))
    (hr : resX T ((St.nilc ⟨slots, mem, nx⟩ i0 131 [.map i1, .raw (.slice none 0 0), .raw (.int .i64 total)] 1 236 21).shut i0 [i0, i1, nx] (USet.mem ⟨l, [], total⟩) True) rs = some X) :
    Sx.Ends C T rs 0 n0 ⟨X, [], some (i0, .abs (usetP ⟨l, [], total⟩))⟩ e ⟨slots, mem, nx⟩ := by
  have hids' := hids
  simp only [Bool.or_eq_false_iff] at hids'
  obtain ⟨⟨h1, h2⟩, h3⟩ := hids'
  have h0 : ∀ a : Nat, Nat.beq a a = true := fun a => by rw [nbeq]; simp
  refine ⟨he, _, (Ent.nilc (S := ⟨slots, mem, nx⟩) k0 rfl 236 21).trans (Ent.shut3 (M := USet.mem ⟨l, [], total⟩) (b0 := .cells 131 [.map i1, .slc nx 21 0 0, .raw (.int .i64 total)]) (b1 := .abs (MapP Pt.v Coin.v l)) (b2 := .vec 236 21 0 fun _ => []) hids trivial rfl rfl rfl rfl ?_ ?_ ?_ rfl ⟨rfl, rfl⟩ rfl ⟨rfl, rfl, Nat.le_refl _, fun i hi => by simp at hi⟩), hr, fun i ch h => by simp [Mem.get] at h, fun i ch h => ?_⟩
  · simp [St.nilc, Mem.get]
  · have h3' : nx ≠ i1 := fun e => by rw [e, h0] at h3; cases h3
    have h1' : i1 ≠ i0 := fun e => by rw [e, h0] at h1; cases h1
    have : Nat.beq nx i1 = false := by rw [nbeq]; simpa using h3'
    simp only [St.nilc, Mem.get, h1, this, cond_false, Mem.get_del, if_neg h1', k1]
  · simp only [St.nilc, Mem.get, h2, h0, cond_false, cond_true]
  · cases h
    exact ⟨hn, by simp only [St.shut, Mem.get, h0, cond_true]; rfl⟩
theorem new_spec {M : Mem} {d : Nat} : CallSpec Tryz.prog 19 [] M d { v := XV.sv (.ptr d 0 0 0), upd := [(d, .abs (usetP USet.empty))] } [] := by
  refine spec_new Tryz.T_ok Tryz.func19 rfl [] rfl 3 (fun C _ => ?_)
  refine Tri.of Tryz.mixed Tryz.T_ok ?_
  (refine xB ?_)
  (refine wP _ _ (makeMap_op Pt.v Coin.v rfl) ?_; refine xZ ?_)
  exact USet.ends_new [] 0 3 1 (.inr rfl) rfl (by decide) rfl rfl rfl
theorem snoc_steps (l : List Stp) (s : Stp) (i : Nat) (hi : i < l.length + 1) : snocF (fun i => (l.getD i default).cells) l.length s.cells i = ((l ++ [s]).getD i default).cells := by
  have e : Nat.blt i l.length = decide (i < l.length) := by
    by_cases h : i < l.length
    · rw [decide_eq_true h]; simpa using h
    · rw [decide_eq_false h]
      cases hb : Nat.blt i l.length with
      | false => rfl
      | true => exact absurd (by simpa using hb) h
  simp only [snocF, e]
  by_cases h : i < l.length
  · simp [h, List.getD_eq_getElem?_getD, List.getElem?_append_left h]
  · have h' : i = l.length := by omega
    simp [h', List.getD_eq_getElem?_getD]
def USet.okB (S : USet) (p : Pt) (c : Coin) : Bool := !(decide (p.no.toInt < 0)) && !(decide (p.no.toInt > 255)) && !(decide (c.amt.toInt < 1)) && !(S.has p) && bothB S.total c.amt.toInt (IntKind.i64.wrap (S.total + c.amt.toInt))
def USet.add1 (S : USet) (p : Pt) (c : Coin) : USet := { S.put p c with steps := S.steps ++ [⟨p, c, true⟩] }
def USet.add (S : USet) (p : Pt) (c : Coin) : USet := if S.okB p c = true then S.add1 p c else S
set_option maxRecDepth 100000 in
theorem uadd_spec (S : USet) (p : Pt) (c : Coin) (hlen : S.steps.length < 1000000) {M : Mem} {c0 d : Nat} (hM : M.get c0 = some (.abs (usetP S))) (hd : Nat.beq d c0 = false) : CallSpec Tryz.prog 99 [.one (.ptr c0 0 0 0), p.cv, c.cv] M d { v := XV.bool (S.okB p c), upd := [(c0, .abs (usetP (S.add p c)))], wr := [c0] } [c0] := by
  refine spec_obj Tryz.T_ok Tryz.func99 rfl [p.cv, c.cv] (XV.bool (S.okB p c)) rfl rfl hM hd (fun C _ => ?_)
  refine USet.opens S 0 rfl ?_
  (refine Tri.cut 5 Tryz.mixed Tryz.T_ok ?_; refine xZ ?_)
  refine wC (fun h1 => ?_) (fun h1 => ?_)
  · (refine xG ?_)
    refine wD <| cutR (USet.ends S (.inr rfl) rfl rfl rfl rfl rfl ?_ ?_ rfl rfl (Nat.le_refl _) (fun _ _ => rfl))
    · simp [USet.okB, h1]
    · simp [USet.add, USet.okB, h1]
  (refine xG ?_)
  refine wC (fun h2 => ?_) (fun h2 => ?_)
  · (refine xG ?_)
    refine wD <| cutR (USet.ends S (.inr rfl) rfl rfl rfl rfl rfl ?_ ?_ rfl rfl (Nat.le_refl _) (fun _ _ => rfl))
    · simp [USet.okB, h2]
    · simp [USet.add, USet.okB, h2]
  (refine xG ?_)
  refine wC (fun h3 => ?_) (fun h3 => ?_)
  · (refine xG ?_)
    refine wD <| cutR (USet.ends S (.inr rfl) rfl rfl rfl rfl rfl ?_ ?_ rfl rfl (Nat.le_refl _) (fun _ _ => rfl))
    · simp [USet.okB, h3]
    · simp [USet.add, USet.okB, h3]
  (refine xG ?_)
  (refine wP _ _ (lookup_op (ok := true) ptK coin_map (z0 := coin0) coin_zero rfl rfl p rfl rfl) ?_; refine xZ ?_)
  (apply wP; exact (call_op rfl (entersB_of Tryz.func154 (by kernel_rfl)) rfl (add_spec _ _ _ _)); refine xZ ?_)
  refine wC (fun h4 => ?_) (fun h4 => ?_)
  · (refine xG ?_)
    refine wD <| cutR (USet.ends S (.inr rfl) rfl rfl rfl rfl rfl ?_ ?_ rfl rfl (Nat.le_refl _) (fun _ _ => rfl))
    · simp [USet.okB, USet.has, h4]
    · simp [USet.add, USet.okB, USet.has, h4]
  (refine xG ?_)
  refine wC (fun h5 => ?_) (fun h5 => ?_)
  · (refine xG ?_)
    simp only [Bool.not_eq_true'] at h5
    refine wD <| cutR (USet.ends S (.inr rfl) rfl rfl rfl rfl rfl ?_ ?_ rfl rfl (Nat.le_refl _) (fun _ _ => rfl))
    · simp [USet.okB, h5]
    · simp [USet.add, USet.okB, h5]
  (refine xG ?_)
  simp only [Bool.not_eq_false'] at h5
  have hok : S.okB p c = true := by simp [USet.okB, USet.has, h1, h2, h3, h4, h5]
  refine wD <| cutG (Tri.ent (USet.shuts S 0 rfl rfl rfl rfl rfl rfl (Nat.le_refl _) (fun _ _ => rfl)) ?_)
  (refine Tri.cut 1 Tryz.mixed Tryz.T_ok ?_; refine xZ ?_)
  (apply wP; exact (call_op rfl (entersB_of Tryz.func155 (by kernel_rfl)) rfl (put_spec S p c rfl rfl)); refine xZ ?_)
  have hA : (S.put p c).steps.length + 1 ≤ maxLen := by
    show S.steps.length + 1 ≤ maxLen
    simp only [maxLen]; omega
  have hB : ((S.put p c).steps.length + 1) * 56 ≤ 140737488355328 := by
    show (S.steps.length + 1) * 56 ≤ 140737488355328
    omega
  refine wD <| cutG (USet.opens (S.put p c) 0 rfl ?_)
  refine Tri.of Tryz.mixed Tryz.T_ok ?_
  (refine xB ?_)
  (refine wP _ _ (append1_op Tryz.T_ok rfl rfl rfl rfl (Stp.cells ⟨p, c, true⟩) rfl rfl rfl (Nat.le_refl _) rfl rfl rfl rfl rfl hA hB) ?_; refine xZ ?_)
  refine USet.ends (S.add1 p c) (.inr rfl) rfl rfl rfl rfl rfl ?_ ?_ ?_ rfl ?_ ?_
  · rw [hok]
  · rw [USet.add, if_pos hok]
  · simp [USet.add1, USet.put]
  · simp [USet.add1, USet.put]
  · intro i hi
    exact snoc_steps S.steps ⟨p, c, true⟩ i (by simpa [USet.add1] using hi)
end Go.Proofs.YtnpkdoggfnlapaaGreatDoor
namespace Go.Proofs.YtnpkdoggfnlapaaGreatDoor
set_option maxRecDepth 100000
open Go.Sx
abbrev H8.cv (h : H8) : CV := .agg (h.cells.map .raw)
def H8.l (h : H8) : List UInt8 := [h.b0, h.b1, h.b2, h.b3, h.b4, h.b5, h.b6, h.b7]
def ltL : List UInt8 → List UInt8 → Bool
  | x :: xs, y :: ys => if x = y then ltL xs ys else decide (x < y)
  | _, _ => false
end Go.Proofs.YtnpkdoggfnlapaaGreatDoor

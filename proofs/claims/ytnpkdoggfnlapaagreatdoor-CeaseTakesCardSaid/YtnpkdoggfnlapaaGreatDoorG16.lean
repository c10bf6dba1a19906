/- Parts Hf Hg Hh Hi. -/
import Derived.Test.YtnpkdoggfnlapaaGreatDoorG15
import Derived.Test.YtnpkdoggfnlapaaGreatDoorG13
set_option linter.unusedSimpArgs false
set_option linter.unusedVariables false
namespace Go.Proofs.YtnpkdoggfnlapaaGreatDoor
set_option maxRecDepth 100000
open Go.Sx
def rS (b h k m at_ w i9 i10 v i14 i19 : Option XV) : List (Option XV) :=
  [b, none, some (XV.sv (.ptr 1 0 0 0)), h, k, m, none, at_, w, i9, i10, none, none, v, i14, none, none, none, none, i19, none, none] ++ List.replicate 237 none
def rM (l L : List UInt8) (m : Nat) (h : Nat → Int) : Mem :=
  [(0, .ro 1 l.length (rowB l)), (1, .cells 174 ((List.replicate 32 (u8 0)).map .raw)), (2, .vec 226 1 8 (wordsF h)), (3, .vec 227 1 64 (wordsF stepW)), (4, .vec 5 1 m (rowB L))]
def rp (c : Nat) : Option XV := some (XV.sv (.ptr c 0 0 0))
def ri (i : Int) : Option XV := some (XV.int .i64 i)
def rSt1 (l L : List UInt8) (m : Nat) : St := ⟨rS (some (XV.sv (.slc 0 1 0 l.length))) (rp 2) (rp 3) (some (XV.sv (.slc 4 1 0 m))) none none none none none none none, rM l L m startW, 5⟩
def rSt2 (l L : List UInt8) (m : Nat) (i : Int) : St := ⟨[some (XV.sv (.slc 0 1 0 l.length)), none, some (XV.sv (.ptr 1 0 0 0)), rp 2, rp 3, some (XV.sv (.slc 4 1 0 m)), ri i] ++ List.replicate 252 none, rM l L m startW, 5⟩
def rMt (l : List UInt8) (t : Nat) : Mem := rM l (padL l) (64 * blocksN l) (stateH l t)
def rSt3 (l : List UInt8) (t : Nat) : St := ⟨rS none (rp 2) (rp 3) (some (XV.sv (.slc 4 1 0 (64 * blocksN l)))) (ri ((64 * t : Nat) : Int)) none none none none none none, rMt l t, 5⟩
def rSt6 (l : List UInt8) (t i : Nat) : St := ⟨rS none (rp 2) (rp 3) (some (XV.sv (.slc 4 1 0 (64 * blocksN l)))) (ri ((64 * t : Nat) : Int)) (rp 5) (ri i) none none none none, rMt l t ++ [(5, .vec 227 1 64 (wordsF (sched (blockAt l t) i)))], 6⟩
def rSt8 (l : List UInt8) (t i : Nat) : St := ⟨rS none (rp 2) (rp 3) (some (XV.sv (.slc 4 1 0 (64 * blocksN l)))) (ri ((64 * t : Nat) : Int)) (rp 5) none (ri i) none none none, rMt l t ++ [(5, .vec 227 1 64 (wordsF (sched (blockAt l t) i)))], 6⟩
def rSt10 (l : List UInt8) (t i : Nat) : St := ⟨rS none (rp 2) (rp 3) (some (XV.sv (.slc 4 1 0 (64 * blocksN l)))) (ri ((64 * t : Nat) : Int)) (rp 5) none none (rp 6) (ri i) none, rMt l t ++ [(5, .vec 227 1 64 (wordsF (sched (blockAt l t) 64))), (6, .cells 226 (vCells (stepsV (stateH l t) (blockAt l t) i)))], 7⟩
def rSt12 (l : List UInt8) (t i : Nat) : St := ⟨rS none (rp 2) (rp 3) (some (XV.sv (.slc 4 1 0 (64 * blocksN l)))) (ri ((64 * t : Nat) : Int)) none none none (rp 5) none (ri i), rM l (padL l) (64 * blocksN l) (addedW (stateH l t) (blockAt l t) i) ++ [(5, .vec 226 1 8 (wordsF (stepsV (stateH l t) (blockAt l t) 64)))], 6⟩
def rSt14 (l : List UInt8) (i : Nat) : St := ⟨[none, none, rp 1, rp 2] ++ List.replicate 16 none ++ [rp 3, ri i] ++ List.replicate 237 none,
  [(0, .ro 1 l.length (rowB l)), (1, .cells 174 ((List.replicate 32 (u8 0)).map .raw)), (2, .vec 226 1 8 (wordsF (stateH l (blocksN l)))), (3, .vec 174 1 32 (bytesF (shaP l i)))], 4⟩
set_option maxHeartbeats 8000000 in
theorem rsum_can (l : List UInt8) (hl : Short l) : Reads Tryz.prog 95 [.row 1 l.length (rowB l)] [] (.cv (.agg ((tabF (bytesF (shaB l)) 0 32).map .raw))) := by
  have hl' : l.length ≤ 1000000000 := hl
  have hZ : padZ l.length < 64 := by unfold padZ; omega
  refine Reads.of Tryz.T_ok Tryz.func95 rfl _ _ _ rfl (aggs_ok _ _) (fun C hC => ?_)
  (replace hC : C.n0 = 1 := hC; change Tri _ _ _ ⟨_, _, 1⟩ _)
  (refine Tri.cut 4 Tryz.mixed Tryz.T_ok ?_; refine xZ ?_)
  (apply wP; exact (call_op rfl (entersB_of Tryz.func150 (by kernel_rfl)) rfl (rounds_can.at [] trivial trivial)); refine xZ ?_)
  (refine wP _ _ (append_op Tryz.T_ok rfl rfl rfl rfl rfl [0] (old_nil rfl _ _ _ fun _ => []) (new_ro (lo := 0) rfl rfl (by omega) rfl) rfl (fun _ _ => rfl) (by simp only [maxLen]; omega) (by dsimp only; omega)) ?_; refine xZ ?_)
  (refine wP _ _ (append_op Tryz.T_ok rfl rfl rfl rfl rfl [9, 10] (old_vec rfl rfl (Nat.le_refl _) rfl) (new_vec (lo := 0) rfl rfl (Nat.le_refl _) rfl) rfl (lt1 rfl) (by simp only [maxLen]; omega) (by dsimp only; omega)) ?_; refine xZ ?_)
  refine wD <| cutG <| Tri.ent (Ent.arrT (c := 3) 1 8 (wordsF startW) rfl rfl rfl (fun _ _ => rfl) (by decide) rfl (by rw [hC]; decide)) <| Tri.ent (Ent.arrT (c := 6) 1 64 (wordsF stepW) rfl rfl rfl (fun _ _ => rfl) (by decide) rfl (by rw [hC]; decide)) ?_
  refine Tri.seq <| Tri.block ?_
  simp only [Nat.zero_add]
  refine Tri.loop (α := { j : Nat // j ≤ padZ l.length }) (fun j => rSt1 l (pad0 l j.1) (l.length + 1 + j.1)) (fun j => padZ l.length - j.1) ⟨0, Nat.zero_le _⟩ ?_ ?_
  · dsimp only
    ((try dsimp only); refine Ent.renC [0, 1, 3, 6, 11] hC ?_ ?_ <;> repeat' (first | exact trivial | exact rfl | exact ⟨_, rfl, rfl, rfl, Nat.le_refl _, fun _ _ => rfl⟩ | exact ⟨_, rfl, rfl, rfl, fun _ _ => rfl⟩ | exact ⟨_, rfl, rfl, rfl⟩ | exact ⟨_, rfl, rfl⟩ | refine ⟨_, rfl, rfl, rfl, by omega, fun k hk => ?_⟩ | refine ⟨?_, ?_⟩ | fail))
    rw [show pad0 l 0 = l ++ [0x80] by simp [pad0]]
    refine rowB_join (b := [0x80]) rfl (fun i hi => ?_) (lt1 rfl) hk
    exact rowB_join (a := []) rfl (fun i hi => absurd hi (Nat.not_lt_zero _)) (fun _ _ => rfl) (by simpa using hi)
  rintro ⟨j, hj⟩
  dsimp only
  (refine Tri.cut 1 Tryz.mixed Tryz.T_ok ?_; refine xZ ?_)
  refine wC (fun h1 => ?_) (fun h1 => ?_)
  · (refine xG ?_)
    have h1' : j < padZ l.length := by
      rw [rem64, decide_eq_true_eq] at h1
      rcases Nat.lt_or_ge j (padZ l.length) with h | h
      · exact h
      · have : j = padZ l.length := by omega
        subst this
        unfold padZ at h1
        omega
    refine wD <| cutG <| Tri.block <| Tri.of Tryz.mixed Tryz.T_ok ?_
    (refine xB ?_)
    (refine wP _ _ (append_op Tryz.T_ok rfl rfl rfl rfl rfl [4, 10] (old_vec rfl rfl (Nat.le_refl _) rfl) (new_vec (lo := 0) rfl rfl (Nat.le_refl _) rfl) rfl (lt1 rfl) (by simp only [maxLen]; omega) (by dsimp only; omega)) ?_; refine xZ ?_)
    refine wD <| blockN <| loopN ⟨⟨j + 1, h1'⟩, by dsimp only; omega, ?_⟩
    dsimp only
    ((try dsimp only); refine Ent.renC [0, 1, 2, 3, 11] hC ?_ ?_ <;> repeat' (first | exact trivial | exact rfl | exact ⟨_, rfl, rfl, rfl, Nat.le_refl _, fun _ _ => rfl⟩ | exact ⟨_, rfl, rfl, rfl, fun _ _ => rfl⟩ | exact ⟨_, rfl, rfl, rfl⟩ | exact ⟨_, rfl, rfl⟩ | refine ⟨_, rfl, rfl, rfl, by omega, fun k hk => ?_⟩ | refine ⟨?_, ?_⟩ | fail))
    rw [pad0_succ]
    exact rowB_snoc (pad0_length l j).symm rfl (by rw [pad0_length]; exact hk)
  · (refine xG ?_)
    have h1' : j = padZ l.length := by
      rw [rem64, decide_eq_false_iff_not, Decidable.not_not] at h1
      unfold padZ at hj ⊢
      omega
    subst h1'
    refine wD <| cutE <| loopX <| blockX <| cutG <| Tri.seq ?_
    (refine Tri.cut 1 Tryz.mixed Tryz.T_ok ?_; refine xZ ?_)
    refine wD <| cutG <| Tri.block ?_
    refine Tri.loop (α := { d : Nat // d ≤ 8 }) (fun d => rSt2 l (pad0 l (padZ l.length) ++ lensB l.length d.1) (l.length + 1 + padZ l.length + d.1) (7 - (d.1 : Int))) (fun d => 8 - d.1) ⟨0, Nat.zero_le _⟩ ?_ ?_
    · dsimp only
      ((try dsimp only); refine Ent.renC [0, 1, 2, 3, 4] hC ?_ ?_ <;> repeat' (first | exact trivial | exact rfl | exact ⟨_, rfl, rfl, rfl, Nat.le_refl _, fun _ _ => rfl⟩ | exact ⟨_, rfl, rfl, rfl, fun _ _ => rfl⟩ | exact ⟨_, rfl, rfl, rfl⟩ | exact ⟨_, rfl, rfl⟩ | refine ⟨_, rfl, rfl, rfl, by omega, fun k hk => ?_⟩ | refine ⟨?_, ?_⟩ | fail))
      simp [lensB]
    rintro ⟨d, hd⟩
    dsimp only
    (refine Tri.cut 1 Tryz.mixed Tryz.T_ok ?_; refine xZ ?_)
    refine wC (fun h2 => ?_) (fun h2 => ?_)
    · (refine xG ?_)
      have h2' : d < 8 := xW
      have e8 : IntKind.i64.wrap (8 * (7 - (d : Int))) = ((8 * (7 - d) : Nat) : Int) := xW
      have e9 : IntKind.u64.wrap ((8 * (7 - d) : Nat) : Int) = ((8 * (7 - d) : Nat) : Int) := xW
      have ew : IntKind.i64.wrap (7 - (d : Int) - 1) = 7 - ((d + 1 : Nat) : Int) := xW
      refine wD <| cutG <| Tri.seq <| Tri.block <| Tri.of Tryz.mixed Tryz.T_ok ?_
      (refine xB ?_)
      simp only [e8, e9]
      (refine wN ?_ ?_; exact xW; refine xG ?_)
      (refine wP _ _ (append_op Tryz.T_ok rfl rfl rfl rfl rfl [4, 17] (old_vec rfl rfl (Nat.le_refl _) rfl) (new_vec (lo := 0) rfl rfl (Nat.le_refl _) rfl) rfl (lt1 rfl) (by simp only [maxLen]; omega) (by dsimp only; omega)) ?_; refine xZ ?_)
      refine wD <| blockN <| cutG <| Tri.of Tryz.mixed Tryz.T_ok ?_
      (refine xB ?_)
      refine wD <| loopN ⟨⟨d + 1, h2'⟩, by dsimp only; omega, ?_⟩
      dsimp only
      rw [ew]
      ((try dsimp only); refine Ent.renC [0, 1, 2, 3, 18] hC ?_ ?_ <;> repeat' (first | exact trivial | exact rfl | exact ⟨_, rfl, rfl, rfl, Nat.le_refl _, fun _ _ => rfl⟩ | exact ⟨_, rfl, rfl, rfl, fun _ _ => rfl⟩ | exact ⟨_, rfl, rfl, rfl⟩ | exact ⟨_, rfl, rfl⟩ | refine ⟨_, rfl, rfl, rfl, by omega, fun k hk => ?_⟩ | refine ⟨?_, ?_⟩ | fail))
      rw [lensB, ← List.append_assoc]
      exact rowB_snoc (by rw [List.length_append, pad0_length, lensB_length]) (by rw [lenB, u8_byteI]; rfl) (by rw [List.length_append, pad0_length, lensB_length]; exact hk)
    · (refine xG ?_)
      have h2' : d = 8 := xW
      subst h2'
      have hlen := padL_length l
      have hbl := blocks_eq l
      have hnb : blocksN l ≤ 20000000 := by omega
      refine wD <| cutE <| loopX <| blockX <| cutG <| Tri.seq ?_
      (refine Tri.cut 1 Tryz.mixed Tryz.T_ok ?_; refine xZ ?_)
      refine wD <| cutG <| Tri.block ?_
      refine Tri.loop (α := { t : Nat // t ≤ blocksN l }) (fun t => rSt3 l t.1) (fun t => blocksN l - t.1) ⟨0, Nat.zero_le _⟩ ?_ ?_
      · dsimp only
        have e1 : l.length + 1 + padZ l.length + 8 = 64 * blocksN l := by omega
        rw [e1]
        exact Ent.ren [0, 1, 2, 3, 4] (by decide) rfl (fun i hi => by replace hi := Nat.lt_of_lt_of_eq hi hC; revert i; decide) (Nat.le_trans (Nat.le_of_eq hC) (by decide)) rfl (by repeat' (first | exact trivial | exact rfl | refine ⟨?_, ?_⟩ | fail)) (by repeat' (first | exact trivial | exact ⟨_, rfl, rfl, rfl, Nat.le_refl _, fun _ _ => rfl⟩ | exact ⟨_, rfl, rfl, rfl, fun _ _ => rfl⟩ | exact ⟨_, rfl, rfl, rfl⟩ | exact ⟨_, rfl, rfl⟩ | refine ⟨?_, ?_⟩ | fail))
      rintro ⟨t, ht⟩
      dsimp only
      (refine Tri.cut 1 Tryz.mixed Tryz.T_ok ?_; refine xZ ?_)
      refine wC (fun h3 => ?_) (fun h3 => ?_)
      · (refine xG ?_)
        have h3' : t < blocksN l := xW
        refine wD <| cutG <| Tri.seq <| Tri.block ?_
        (refine Tri.cut 1 Tryz.mixed Tryz.T_ok ?_; refine xZ ?_)
        refine wD <| cutG <| Tri.ent (Ent.arr0 (c := 9) 1 64 (u32 0) (f := wordsF (sched (blockAt l t) 0)) rfl rfl rfl (by decide) rfl (by rw [hC]; decide) (fun _ _ => rfl)) <| Tri.seq ?_
        (refine Tri.cut 1 Tryz.mixed Tryz.T_ok ?_; refine xZ ?_)
        refine wD <| cutG <| Tri.block ?_
        refine Tri.loop (α := { i : Nat // i ≤ 16 }) (fun i => rSt6 l t i.1) (fun i => 16 - i.1) ⟨0, Nat.zero_le _⟩ ?_ ?_
        · exact Ent.ren [0, 1, 2, 3, 4, 9] (by decide) rfl (fun i hi => by replace hi := Nat.lt_of_lt_of_eq hi hC; revert i; decide) (Nat.le_trans (Nat.le_of_eq hC) (by decide)) rfl (by repeat' (first | exact trivial | exact rfl | refine ⟨?_, ?_⟩ | fail)) (by repeat' (first | exact trivial | exact ⟨_, rfl, rfl, rfl, Nat.le_refl _, fun _ _ => rfl⟩ | exact ⟨_, rfl, rfl, rfl, fun _ _ => rfl⟩ | exact ⟨_, rfl, rfl, rfl⟩ | exact ⟨_, rfl, rfl⟩ | refine ⟨?_, ?_⟩ | fail))
        rintro ⟨i, hi⟩
        dsimp only
        (refine Tri.cut 1 Tryz.mixed Tryz.T_ok ?_; refine xZ ?_)
        refine wC (fun h4 => ?_) (fun h4 => ?_)
        · (refine xG ?_)
          have h4' : i < 16 := xW
          have g1 : IntKind.i64.wrap (4 * (i : Int)) = ((4 * i : Nat) : Int) := xW
          have g2 : IntKind.i64.wrap (((64 * t : Nat) : Int) + ((4 * i : Nat) : Int)) = ((64 * t + 4 * i : Nat) : Int) := xW
          have g3 : IntKind.i64.wrap (((64 * t + 4 * i : Nat) : Int) + 1) = ((64 * t + 4 * i + 1 : Nat) : Int) := xW
          have g4 : IntKind.i64.wrap (((64 * t + 4 * i : Nat) : Int) + 2) = ((64 * t + 4 * i + 2 : Nat) : Int) := xW
          have g5 : IntKind.i64.wrap (((64 * t + 4 * i : Nat) : Int) + 3) = ((64 * t + 4 * i + 3 : Nat) : Int) := xW
          refine wD <| cutG <| Tri.seq <| Tri.block <| Tri.of Tryz.mixed Tryz.T_ok ?_
          (refine xB ?_)
          simp only [g1, g2]
          (refine wN ?_ ?_; exact xW; refine xG ?_)
          (refine wN ?_ ?_; exact xW; refine xG ?_)
          simp only [g1, g2, g3]
          (refine wN ?_ ?_; exact xW; refine xG ?_)
          (refine wN ?_ ?_; exact xW; refine xG ?_)
          simp only [g1, g2, g4]
          (refine wN ?_ ?_; exact xW; refine xG ?_)
          (refine wN ?_ ?_; exact xW; refine xG ?_)
          simp only [g1, g2, g5]
          (refine wN ?_ ?_; exact xW; refine xG ?_)
          (refine wN ?_ ?_; exact xW; refine xG ?_)
          (repeat (refine wN ?_ ?_; exact xW; refine xG ?_))
          refine wD <| blockN <| cutG <| Tri.of Tryz.mixed Tryz.T_ok ?_
          (refine xB ?_)
          have hw : IntKind.i64.wrap ((i : Int) + 1) = ((i + 1 : Nat) : Int) := xW
          refine wD <| loopN ⟨⟨i + 1, h4'⟩, by dsimp only; omega, ?_⟩
          rw [hw]
          ((try dsimp only); refine Ent.renC [0, 1, 2, 3, 4, 5] hC ?_ ?_ <;> repeat' (first | exact trivial | exact rfl | exact ⟨_, rfl, rfl, rfl, Nat.le_refl _, fun _ _ => rfl⟩ | exact ⟨_, rfl, rfl, rfl, fun _ _ => rfl⟩ | exact ⟨_, rfl, rfl, rfl⟩ | exact ⟨_, rfl, rfl⟩ | refine ⟨_, rfl, rfl, rfl, by omega, fun k hk => ?_⟩ | refine ⟨?_, ?_⟩ | fail))
          simp only [Int.toNat_natCast, Nat.zero_add]
          rw [updW]
          simp only [wordsF, sched_step]
          split
          · rw [← word4_eq]; rfl
          · rfl
        · (refine xG ?_)
          have h4' : i = 16 := xW
          subst h4'
          refine wD <| cutE <| loopX <| blockX <| cutG <| Tri.seq ?_
          (refine Tri.cut 1 Tryz.mixed Tryz.T_ok ?_; refine xZ ?_)
          refine wD <| cutG <| Tri.block ?_
          refine Tri.loop (α := { i : Nat // 16 ≤ i ∧ i ≤ 64 }) (fun i => rSt8 l t i.1) (fun i => 64 - i.1) ⟨16, Nat.le_refl _, by decide⟩ ?_ ?_
          · exact Ent.ren [0, 1, 2, 3, 4, 5] (by decide) rfl (fun i hi => by replace hi := Nat.lt_of_lt_of_eq hi hC; revert i; decide) (Nat.le_trans (Nat.le_of_eq hC) (by decide)) rfl (by repeat' (first | exact trivial | exact rfl | refine ⟨?_, ?_⟩ | fail)) (by repeat' (first | exact trivial | exact ⟨_, rfl, rfl, rfl, Nat.le_refl _, fun _ _ => rfl⟩ | exact ⟨_, rfl, rfl, rfl, fun _ _ => rfl⟩ | exact ⟨_, rfl, rfl, rfl⟩ | exact ⟨_, rfl, rfl⟩ | refine ⟨?_, ?_⟩ | fail))
          rintro ⟨i, hi0, hi⟩
          dsimp only
          (refine Tri.cut 1 Tryz.mixed Tryz.T_ok ?_; refine xZ ?_)
          refine wC (fun h4 => ?_) (fun h4 => ?_)
          · (refine xG ?_)
            have h4' : i < 64 := xW
            have e15 : IntKind.i64.wrap ((i : Int) - 15) = ((i - 15 : Nat) : Int) := xW
            have e16 : IntKind.i64.wrap ((i : Int) - 16) = ((i - 16 : Nat) : Int) := xW
            have e7 : IntKind.i64.wrap ((i : Int) - 7) = ((i - 7 : Nat) : Int) := xW
            have e2 : IntKind.i64.wrap ((i : Int) - 2) = ((i - 2 : Nat) : Int) := xW
            refine wD <| cutG <| Tri.seq <| Tri.block <| Tri.of Tryz.mixed Tryz.T_ok ?_
            (refine xB ?_)
            (repeat (refine wN ?_ ?_; exact xW; refine xG ?_))
            (apply wP; exact (call_op rfl (entersB_of Tryz.func151 (by kernel_rfl)) rfl (turned_spec _ _ (by decide) _ _)); refine xZ ?_)
            (apply wP; exact (call_op rfl (entersB_of Tryz.func151 (by kernel_rfl)) rfl (turned_spec _ _ (by decide) _ _)); refine xZ ?_)
            (repeat (refine wN ?_ ?_; exact xW; refine xG ?_))
            (apply wP; exact (call_op rfl (entersB_of Tryz.func151 (by kernel_rfl)) rfl (turned_spec _ _ (by decide) _ _)); refine xZ ?_)
            (apply wP; exact (call_op rfl (entersB_of Tryz.func151 (by kernel_rfl)) rfl (turned_spec _ _ (by decide) _ _)); refine xZ ?_)
            (repeat (refine wN ?_ ?_; exact xW; refine xG ?_))
            refine wD <| blockN <| cutG <| Tri.of Tryz.mixed Tryz.T_ok ?_
            (refine xB ?_)
            have hw : IntKind.i64.wrap ((i : Int) + 1) = ((i + 1 : Nat) : Int) := xW
            refine wD <| loopN ⟨⟨i + 1, by omega, h4'⟩, by dsimp only; omega, ?_⟩
            rw [hw]
            ((try dsimp only); refine Ent.renC [0, 1, 2, 3, 4, 5] hC ?_ ?_ <;> repeat' (first | exact trivial | exact rfl | exact ⟨_, rfl, rfl, rfl, Nat.le_refl _, fun _ _ => rfl⟩ | exact ⟨_, rfl, rfl, rfl, fun _ _ => rfl⟩ | exact ⟨_, rfl, rfl, rfl⟩ | exact ⟨_, rfl, rfl⟩ | refine ⟨_, rfl, rfl, rfl, by omega, fun k hk => ?_⟩ | refine ⟨?_, ?_⟩ | fail))
            simp only [e15, e16, e7, e2, turn7, turn18, turn17, turn19, Int.toNat_natCast]
            rw [updW]
            simp only [wordsF, sched_step]
            split
            · rw [if_neg (by omega)]
              exact congrArg (fun x => [u32 x]) (mix_ref _ _ _ _)
            · rfl
          · (refine xG ?_)
            have h4' : i = 64 := xW
            subst h4'
            refine wD <| cutE <| loopX <| blockX <| cutG ?_
            (refine Tri.cut 1 Tryz.mixed Tryz.T_ok ?_; refine xZ ?_)
            (repeat (refine wN ?_ ?_; exact xW; refine xG ?_))
            refine wD <| cutG <| Tri.seq ?_
            (refine Tri.cut 1 Tryz.mixed Tryz.T_ok ?_; refine xZ ?_)
            refine wD <| cutG <| Tri.block ?_
            refine Tri.loop (α := { i : Nat // i ≤ 64 }) (fun i => rSt10 l t i.1) (fun i => 64 - i.1) ⟨0, Nat.zero_le _⟩ ?_ ?_
            · exact Ent.ren [0, 1, 2, 3, 4, 5, 9] (by decide) rfl (fun i hi => by replace hi := Nat.lt_of_lt_of_eq hi hC; revert i; decide) (Nat.le_trans (Nat.le_of_eq hC) (by decide)) rfl (by repeat' (first | exact trivial | exact rfl | refine ⟨?_, ?_⟩ | fail)) (by repeat' (first | exact trivial | exact ⟨_, rfl, rfl, rfl, Nat.le_refl _, fun _ _ => rfl⟩ | exact ⟨_, rfl, rfl, rfl, fun _ _ => rfl⟩ | exact ⟨_, rfl, rfl, rfl⟩ | exact ⟨_, rfl, rfl⟩ | refine ⟨?_, ?_⟩ | fail))
            rintro ⟨i, hi⟩
            dsimp only
            (refine Tri.cut 1 Tryz.mixed Tryz.T_ok ?_; refine xZ ?_)
            refine wC (fun h5 => ?_) (fun h5 => ?_)
            · (refine xG ?_)
              have h5' : i < 64 := xW
              refine wD <| cutG <| Tri.seq <| Tri.block <| Tri.of Tryz.mixed Tryz.T_ok ?_
              (refine xB ?_)
              (repeat (refine wN ?_ ?_; exact xW; refine xG ?_))
              (apply wP; exact (call_op rfl (entersB_of Tryz.func151 (by kernel_rfl)) rfl (turned_spec _ _ (by decide) _ _)); refine xZ ?_)
              (apply wP; exact (call_op rfl (entersB_of Tryz.func151 (by kernel_rfl)) rfl (turned_spec _ _ (by decide) _ _)); refine xZ ?_)
              (apply wP; exact (call_op rfl (entersB_of Tryz.func151 (by kernel_rfl)) rfl (turned_spec _ _ (by decide) _ _)); refine xZ ?_)
              (repeat (refine wN ?_ ?_; exact xW; refine xG ?_))
              (apply wP; exact (call_op rfl (entersB_of Tryz.func151 (by kernel_rfl)) rfl (turned_spec _ _ (by decide) _ _)); refine xZ ?_)
              (apply wP; exact (call_op rfl (entersB_of Tryz.func151 (by kernel_rfl)) rfl (turned_spec _ _ (by decide) _ _)); refine xZ ?_)
              (apply wP; exact (call_op rfl (entersB_of Tryz.func151 (by kernel_rfl)) rfl (turned_spec _ _ (by decide) _ _)); refine xZ ?_)
              (repeat (refine wN ?_ ?_; exact xW; refine xG ?_))
              refine wD <| blockN <| cutG <| Tri.of Tryz.mixed Tryz.T_ok ?_
              (refine xB ?_)
              have hw : IntKind.i64.wrap ((i : Int) + 1) = ((i + 1 : Nat) : Int) := xW
              refine wD <| loopN ⟨⟨i + 1, h5'⟩, by dsimp only; omega, ?_⟩
              rw [hw]
              simp only [turn6, turn11, turn25, turn2, turn13, turn22]
              exact Ent.ren [0, 1, 2, 3, 4, 5, 6] (by decide) rfl (fun i hi => by replace hi := Nat.lt_of_lt_of_eq hi hC; revert i; decide) (Nat.le_trans (Nat.le_of_eq hC) (by decide)) rfl (by repeat' (first | exact trivial | exact rfl | refine ⟨?_, ?_⟩ | fail)) (by repeat' (first | exact trivial | exact ⟨_, rfl, rfl, rfl, Nat.le_refl _, fun _ _ => rfl⟩ | exact ⟨_, rfl, rfl, rfl, fun _ _ => rfl⟩ | exact ⟨_, rfl, rfl, rfl⟩ | exact ⟨_, rfl, rfl⟩ | refine ⟨?_, ?_⟩ | fail))
            · (refine xG ?_)
              have h5' : i = 64 := xW
              subst h5'
              refine wD <| cutE <| loopX <| blockX <| cutG <| Tri.ent (Ent.arrT (c := 6) 1 8 (wordsF (stepsV (stateH l t) (blockAt l t) 64)) rfl rfl rfl (fun _ _ => rfl) (by decide) rfl (by rw [hC]; decide)) ?_
              (refine Tri.cut 1 Tryz.mixed Tryz.T_ok ?_; refine xZ ?_)
              refine wD <| cutG <| Tri.block ?_
              refine Tri.loop (α := { i : Nat // i ≤ 8 }) (fun i => rSt12 l t i.1) (fun i => 8 - i.1) ⟨0, Nat.zero_le _⟩ ?_ ?_
              · exact Ent.ren [0, 1, 2, 3, 4, 6] (by decide) rfl (fun i hi => by replace hi := Nat.lt_of_lt_of_eq hi hC; revert i; decide) (Nat.le_trans (Nat.le_of_eq hC) (by decide)) rfl (by repeat' (first | exact trivial | exact rfl | refine ⟨?_, ?_⟩ | fail)) (by repeat' (first | exact trivial | exact ⟨_, rfl, rfl, rfl, Nat.le_refl _, fun _ _ => rfl⟩ | exact ⟨_, rfl, rfl, rfl, fun _ _ => rfl⟩ | exact ⟨_, rfl, rfl, rfl⟩ | exact ⟨_, rfl, rfl⟩ | refine ⟨?_, ?_⟩ | fail))
              rintro ⟨j, hj⟩
              dsimp only
              (refine Tri.cut 1 Tryz.mixed Tryz.T_ok ?_; refine xZ ?_)
              refine wC (fun h6 => ?_) (fun h6 => ?_)
              · (refine xG ?_)
                have h6' : j < 8 := xW
                refine wD <| cutG <| Tri.seq <| Tri.block <| Tri.of Tryz.mixed Tryz.T_ok ?_
                (refine xB ?_)
                (repeat (refine wN ?_ ?_; exact xW; refine xG ?_))
                refine wD <| blockN <| cutG <| Tri.of Tryz.mixed Tryz.T_ok ?_
                (refine xB ?_)
                have hw : IntKind.i64.wrap ((j : Int) + 1) = ((j + 1 : Nat) : Int) := xW
                refine wD <| loopN ⟨⟨j + 1, h6'⟩, by dsimp only; omega, ?_⟩
                rw [hw]
                ((try dsimp only); refine Ent.renC [0, 1, 2, 3, 4, 5] hC ?_ ?_ <;> repeat' (first | exact trivial | exact rfl | exact ⟨_, rfl, rfl, rfl, Nat.le_refl _, fun _ _ => rfl⟩ | exact ⟨_, rfl, rfl, rfl, fun _ _ => rfl⟩ | exact ⟨_, rfl, rfl, rfl⟩ | exact ⟨_, rfl, rfl⟩ | refine ⟨_, rfl, rfl, rfl, by omega, fun k hk => ?_⟩ | refine ⟨?_, ?_⟩ | fail))
                simp only [Int.toNat_natCast]
                rw [updW]
                simp only [wordsF, addedW]
                by_cases hk2 : k = j
                · subst hk2
                  rw [if_pos rfl, if_neg (Nat.lt_irrefl k), if_pos (Nat.lt_succ_self k)]
                  rfl
                · rw [if_neg hk2]
                  by_cases hk3 : k < j
                  · rw [if_pos hk3, if_pos (by omega)]
                  · rw [if_neg hk3, if_neg (by omega)]
              · (refine xG ?_)
                have h6' : j = 8 := xW
                subst h6'
                have hf : ∀ k, k < 8 → wordsF (addedW (stateH l t) (blockAt l t) 8) k = wordsF (stateH l (t + 1)) k := fun k hk => by simp [wordsF, addedW, stateH, hk]
                refine wD <| cutE <| loopX <| blockX <| blockN <| cutG <| Tri.ent (Ent.chg0 (c := 2) (g := wordsF (stateH l (t + 1))) rfl hf) <| Tri.of Tryz.mixed Tryz.T_ok ?_
                (refine xB ?_)
                have hw : IntKind.i64.wrap (((64 * t : Nat) : Int) + 64) = ((64 * (t + 1) : Nat) : Int) := xW
                refine wD <| loopN ⟨⟨t + 1, h3'⟩, by dsimp only; omega, ?_⟩
                rw [hw]
                exact Ent.ren [0, 1, 2, 3, 4] (by decide) rfl (fun i hi => by replace hi := Nat.lt_of_lt_of_eq hi hC; revert i; decide) (Nat.le_trans (Nat.le_of_eq hC) (by decide)) rfl (by repeat' (first | exact trivial | exact rfl | refine ⟨?_, ?_⟩ | fail)) (by repeat' (first | exact trivial | exact ⟨_, rfl, rfl, rfl, Nat.le_refl _, fun _ _ => rfl⟩ | exact ⟨_, rfl, rfl, rfl, fun _ _ => rfl⟩ | exact ⟨_, rfl, rfl, rfl⟩ | exact ⟨_, rfl, rfl⟩ | refine ⟨?_, ?_⟩ | fail))
      · (refine xG ?_)
        have h3' : t = blocksN l := xW
        subst h3'
        refine wD <| cutE <| loopX <| blockX <| cutG ?_
        (refine Tri.cut 1 Tryz.mixed Tryz.T_ok ?_; refine xZ ?_)
        refine wD <| cutG <| Tri.ent (Ent.arr0 (c := 9) 1 32 (u8 0) (f := bytesF (shaP l 0)) rfl rfl rfl (by decide) rfl (by rw [hC]; decide) (fun _ _ => rfl)) <| Tri.seq ?_
        (refine Tri.cut 1 Tryz.mixed Tryz.T_ok ?_; refine xZ ?_)
        refine wD <| cutG <| Tri.block ?_
        refine Tri.loop (α := { i : Nat // i ≤ 32 }) (fun i => rSt14 l i.1) (fun i => 32 - i.1) ⟨0, Nat.zero_le _⟩ ?_ ?_
        · exact Ent.ren [0, 1, 2, 9] (by decide) rfl (fun i hi => by replace hi := Nat.lt_of_lt_of_eq hi hC; revert i; decide) (Nat.le_trans (Nat.le_of_eq hC) (by decide)) rfl (by repeat' (first | exact trivial | exact rfl | refine ⟨?_, ?_⟩ | fail)) (by repeat' (first | exact trivial | exact ⟨_, rfl, rfl, rfl, Nat.le_refl _, fun _ _ => rfl⟩ | exact ⟨_, rfl, rfl, rfl, fun _ _ => rfl⟩ | exact ⟨_, rfl, rfl, rfl⟩ | exact ⟨_, rfl, rfl⟩ | refine ⟨?_, ?_⟩ | fail))
        rintro ⟨i, hi⟩
        dsimp only
        (refine Tri.cut 1 Tryz.mixed Tryz.T_ok ?_; refine xZ ?_)
        refine wC (fun h4 => ?_) (fun h4 => ?_)
        · (refine xG ?_)
          have h4' : i < 32 := xW
          have q1 : IntKind.i64.wrap (Int.tdiv (i : Int) 4) = ((i / 4 : Nat) : Int) := by
            have : Int.tdiv (i : Int) 4 = ((i / 4 : Nat) : Int) := rfl
            rw [this]; exact xW
          have q2 : Int.tmod (i : Int) 4 = ((i % 4 : Nat) : Int) := rfl
          have q3 : IntKind.i64.wrap (8 * ((i % 4 : Nat) : Int)) = ((i % 4 * 8 : Nat) : Int) := xW
          have q4 : IntKind.i64.wrap (24 - ((i % 4 * 8 : Nat) : Int)) = ((24 - i % 4 * 8 : Nat) : Int) := xW
          have q5 : IntKind.u64.wrap ((24 - i % 4 * 8 : Nat) : Int) = ((24 - i % 4 * 8 : Nat) : Int) := xW
          refine wD <| cutG <| Tri.seq <| Tri.block <| Tri.of Tryz.mixed Tryz.T_ok ?_
          (refine xB ?_)
          simp only [q1]
          (refine wN ?_ ?_; exact xW; refine xG ?_)
          (refine wN ?_ ?_; exact xW; refine xG ?_)
          simp only [q2, q3, q4, q5]
          (repeat (refine wN ?_ ?_; exact xW; refine xG ?_))
          refine wD <| blockN <| cutG <| Tri.of Tryz.mixed Tryz.T_ok ?_
          (refine xB ?_)
          have hw : IntKind.i64.wrap ((i : Int) + 1) = ((i + 1 : Nat) : Int) := xW
          refine wD <| loopN ⟨⟨i + 1, h4'⟩, by dsimp only; omega, ?_⟩
          rw [hw]
          ((try dsimp only); refine Ent.renC [0, 1, 2, 3] hC ?_ ?_ <;> repeat' (first | exact trivial | exact rfl | exact ⟨_, rfl, rfl, rfl, Nat.le_refl _, fun _ _ => rfl⟩ | exact ⟨_, rfl, rfl, rfl, fun _ _ => rfl⟩ | exact ⟨_, rfl, rfl, rfl⟩ | exact ⟨_, rfl, rfl⟩ | refine ⟨_, rfl, rfl, rfl, by omega, fun k hk => ?_⟩ | refine ⟨?_, ?_⟩ | fail))
          simp only [Int.toNat_natCast]
          rw [← u8_byteI, updB]
          simp only [bytesF, shaP]
          by_cases hk2 : k = i
          · subst hk2
            rw [if_pos rfl, if_pos (Nat.lt_succ_self k)]
            rfl
          · rw [if_neg hk2]
            by_cases hk3 : k < i
            · rw [if_pos hk3, if_pos (by omega)]
            · rw [if_neg hk3, if_neg (by omega)]
        · (refine xG ?_)
          have h4' : i = 32 := xW
          subst h4'
          have hf : ∀ k, k < 32 → bytesF (shaP l 32) k = bytesF (shaB l) k := fun k hk => by simp [bytesF, shaP, hk]
          refine wD <| cutE <| loopX <| blockX <| cutG <| Tri.ent (Ent.chg0 (c := 3) (g := bytesF (shaB l)) rfl hf) <| Tri.of Tryz.mixed Tryz.T_ok ?_
          (refine xB ?_)
          (repeat (refine wN ?_ ?_; exact xW; refine xG ?_))
          exact wD (Ends.plain (.inr rfl) rfl rfl)
end Go.Proofs.YtnpkdoggfnlapaaGreatDoor
namespace Go.Proofs.YtnpkdoggfnlapaaGreatDoor
set_option maxRecDepth 100000
open Go.Sx
def numB (n : Int) (i : Nat) : UInt8 := byteI (IntKind.u8.wrap (shrI .i64 n ((8 * i : Nat) : Int)))
def numL (n : Int) : Nat → List UInt8
  | 0 => []
  | i + 1 => numL n i ++ [numB n i]
theorem numL_length (n : Int) : ∀ i, (numL n i).length = i
  | 0 => rfl
  | i + 1 => by simp [numL, numL_length n i]
def numSt (n : Int) (w i : Nat) : St := ⟨[some (XV.int .i64 n), some (XV.int .i64 w), none, none, none, some (XV.sv (.slc 2 1 0 i)), some (XV.int .i64 i)] ++ List.replicate 15 none, [(2, .vec 5 1 i (rowB (numL n i)))], 3⟩
theorem num_can (n : Int) (w : Nat) (hw : w ≤ 8) : Makes Tryz.prog 72 [.plain (.one (.raw (.int .i64 n))), .plain (.one (.raw (.int .i64 w)))] [] (XV.sv (.slc 0 1 0 w)) (.vec 5 1 w (rowB (numL n w))) := by
  refine Makes.of Tryz.T_ok Tryz.func72 rfl _ _ _ _ rfl rfl rfl rfl 2 (fun C hC => ?_)
  (replace hC : C.n0 = 2 := hC; change Tri _ _ _ ⟨_, _, 2⟩ _)
  (refine Tri.cut 2 Tryz.mixed Tryz.T_ok ?_; refine xZ ?_)
  refine wD <| cutG <| Tri.ent (Ent.nils (t := 5) rfl 5 1) <| Tri.seq ?_
  (refine Tri.cut 1 Tryz.mixed Tryz.T_ok ?_; refine xZ ?_)
  refine wD <| cutG <| Tri.block ?_
  refine Tri.loop (α := { i : Nat // i ≤ w }) (fun i => numSt n w i.1) (fun i => w - i.1) ⟨0, Nat.zero_le _⟩ ?_ ?_
  · ((try dsimp only); refine Ent.renC [0, 1, 4] hC ?_ ?_ <;> repeat' (first | exact trivial | exact rfl | exact ⟨_, rfl, rfl, rfl, Nat.le_refl _, fun _ _ => rfl⟩ | exact ⟨_, rfl, rfl, rfl, fun _ _ => rfl⟩ | exact ⟨_, rfl, rfl, rfl⟩ | exact ⟨_, rfl, rfl⟩ | refine ⟨_, rfl, rfl, rfl, by omega, fun k hk => ?_⟩ | refine ⟨?_, ?_⟩ | fail))
    exact absurd hk (Nat.not_lt_zero _)
  rintro ⟨i, hi⟩
  dsimp only
  (refine Tri.cut 1 Tryz.mixed Tryz.T_ok ?_; refine xZ ?_)
  refine wC (fun h1 => ?_) (fun h1 => ?_)
  · (refine xG ?_)
    have h1' : i < w := xW
    have e1 : IntKind.i64.wrap (8 * (i : Int)) = ((8 * i : Nat) : Int) := xW
    have e2 : IntKind.u64.wrap ((8 * i : Nat) : Int) = ((8 * i : Nat) : Int) := xW
    refine wD <| cutG <| Tri.seq <| Tri.block <| Tri.of Tryz.mixed Tryz.T_ok ?_
    (refine xB ?_)
    simp only [e1, e2]
    (refine wN ?_ ?_; exact xW; refine xG ?_)
    (refine wP _ _ (append_op Tryz.T_ok rfl rfl rfl rfl rfl [2, 13] (old_vec rfl rfl (Nat.le_refl _) rfl) (new_vec (lo := 0) rfl rfl (Nat.le_refl _) rfl) rfl (lt1 rfl) (by simp only [maxLen]; omega) (by dsimp only; omega)) ?_; refine xZ ?_)
    refine wD <| blockN <| cutG <| Tri.of Tryz.mixed Tryz.T_ok ?_
    (refine xB ?_)
    have hw : IntKind.i64.wrap ((i : Int) + 1) = ((i + 1 : Nat) : Int) := xW
    refine wD <| loopN ⟨⟨i + 1, h1'⟩, by dsimp only; omega, ?_⟩
    rw [hw]
    ((try dsimp only); refine Ent.renC [0, 1, 14] hC ?_ ?_ <;> repeat' (first | exact trivial | exact rfl | exact ⟨_, rfl, rfl, rfl, Nat.le_refl _, fun _ _ => rfl⟩ | exact ⟨_, rfl, rfl, rfl, fun _ _ => rfl⟩ | exact ⟨_, rfl, rfl, rfl⟩ | exact ⟨_, rfl, rfl⟩ | refine ⟨_, rfl, rfl, rfl, by omega, fun k hk => ?_⟩ | refine ⟨?_, ?_⟩ | fail))
    exact rowB_snoc (a := numL n i) (x := numB n i) (numL_length n i).symm (by rw [numB, u8_byteI]; rfl) (by rw [numL_length]; exact hk)
  · (refine xG ?_)
    have h1' : i = w := xW
    subst h1'
    refine wD <| cutE <| loopX <| blockX <| cutG <| Tri.of Tryz.mixed Tryz.T_ok ?_
    (refine xB ?_)
    exact wD (Ends.made (.inr rfl) (Ent.refl _) rfl (Nat.le_refl _) rfl)
def encN (p : UInt8) (bss : List (List UInt8)) : Nat → List UInt8
  | 0 => [p]
  | i + 1 => encN p bss i ++ numL ((bss.getD i []).length : Int) 4 ++ bss.getD i []
theorem encN_length (p : UInt8) (bss : List (List UInt8)) (i : Nat) : (encN p bss (i + 1)).length = (encN p bss i).length + 4 + (bss.getD i []).length := by simp only [encN, List.length_append, numL_length]
theorem encN_le (p : UInt8) (bss : List (List UInt8)) {i j : Nat} (h : i ≤ j) : (encN p bss i).length ≤ (encN p bss j).length := by
  induction j with
  | zero => obtain rfl : i = 0 := by omega
            exact Nat.le_refl _
  | succ j ih =>
    by_cases hij : i = j + 1
    · subst hij; exact Nat.le_refl _
    · have := ih (by omega)
      rw [encN_length]; omega
def encAll (p : UInt8) (bss : List (List UInt8)) : List UInt8 := encN p bss bss.length
def dig (p : UInt8) (bss : List (List UInt8)) : H8 :=
  let s := shaB (encAll p bss)
  ⟨s 0, s 1, s 2, s 3, s 4, s 5, s 6, s 7⟩
def partsA (bss : List (List UInt8)) : AD := .rows 1 bss.length (fun i => (bss.getD i []).length) (fun i => rowB (bss.getD i []))
def ofSt (p : UInt8) (bss : List (List UInt8)) (ad : Nat → Option Addr) (cp : Nat → Nat) (i : Nat) : St :=
  ⟨[none, none, none, none, some (XV.sv (.ptr 4 0 0 0)), some (XV.sv (.slc 5 1 0 (encN p bss i).length)), none, none, none, none, none, none, none, some (XV.sv (.slc 1 1 0 bss.length)), some (XV.int .i64 bss.length), some (XV.int .i64 i)] ++ List.replicate 28 none,
   [(1, .ro 1 bss.length fun i => [.slice (ad i) (bss.getD i []).length (cp i)]), (2, .ext stepsP), (3, .ext (PartsAt 1 bss.length (fun i => (bss.getD i []).length) (fun i => rowB (bss.getD i [])) ad)), (4, .cells 29 ((List.replicate 8 (u8 0)).map .raw)), (5, .vec 5 1 (encN p bss i).length (rowB (encN p bss i)))], 6⟩
theorem le4_row (n : Nat) (x0 x1 x2 x3 : Value) (h0 : x0 = u8 (numB n 0)) (h1 : x1 = u8 (numB n 1)) (h2 : x2 = u8 (numB n 2)) (h3 : x3 = u8 (numB n 3)) : ∀ i, i < (numL (n : Int) 4).length → cutF [x0, x1, x2, x3] 1 (0 + i) = rowB (numL (n : Int) 4) i := by
  subst h0 h1 h2 h3
  intro i hi
  rw [numL_length] at hi
  match i, hi with
  | 0, _ => rfl
  | 1, _ => rfl
  | 2, _ => rfl
  | 3, _ => rfl
theorem shr0 (n : Int) : shrI .i64 n 0 = n := by simp [shrI]
set_option maxHeartbeats 4000000 in
theorem of_can (p : UInt8) (bss : List (List UInt8)) (hl : Short (encAll p bss)) : Reads Tryz.prog 146 [.plain (.one (.raw (u8 p))), partsA bss] [stepsP] (.cv (.agg ((dig p bss).cells.map .raw))) := by
  have hl' : (encN p bss bss.length).length ≤ 1000000000 := hl
  refine Reads.of Tryz.T_ok Tryz.func146 rfl _ _ _ rfl (aggs_ok _ _) (fun C hC => ?_)
  (replace hC : C.n0 = 3 := hC; change Tri _ _ _ ⟨_, _, 3⟩ _)
  refine Tri.openRows (c := 1) rfl (fun ad cp => ?_)
  (refine Tri.cut 2 Tryz.mixed Tryz.T_ok ?_; refine xZ ?_)
  refine wD <| cutG <| Tri.seq ?_
  (refine Tri.cut 1 Tryz.mixed Tryz.T_ok ?_; refine xZ ?_)
  refine wD <| cutG <| Tri.block ?_
  have hbs : bss.length ≤ 1000000000 := by
    have : ∀ j, j ≤ (encN p bss j).length := by
      intro j
      induction j with
      | zero => exact Nat.zero_le _
      | succ j ih => rw [encN_length]; omega
    exact Nat.le_trans (this _) hl'
  refine Tri.loop (α := { i : Nat // i ≤ bss.length }) (fun i => ofSt p bss ad cp i.1) (fun i => bss.length - i.1) ⟨0, Nat.zero_le _⟩ ?_ ?_
  · dsimp only
    rw [ofSt, show (encN p bss 0).length = 1 from rfl]
    ((try dsimp only); refine Ent.renC [0, 1, 2, 3, 4, 6] hC ?_ ?_ <;> repeat' (first | exact trivial | exact rfl | exact ⟨_, rfl, rfl, rfl, Nat.le_refl _, fun _ _ => rfl⟩ | exact ⟨_, rfl, rfl, rfl, fun _ _ => rfl⟩ | exact ⟨_, rfl, rfl, rfl⟩ | exact ⟨_, rfl, rfl⟩ | refine ⟨_, rfl, rfl, rfl, by omega, fun k hk => ?_⟩ | refine ⟨?_, ?_⟩ | fail))
    exact lt1 (P := fun k => cutF [u8 p] 1 k = rowB [p] k) rfl k hk
  rintro ⟨i, hi⟩
  dsimp only
  (refine Tri.cut 2 Tryz.mixed Tryz.T_ok ?_; refine xZ ?_)
  refine wC (fun h1 => ?_) (fun h1 => ?_)
  · (refine xG ?_)
    have h1' : i < bss.length := xW
    have hle : (encN p bss (i + 1)).length ≤ 1000000000 := Nat.le_trans (encN_le p bss h1') hl'
    rw [encN_length] at hle
    refine wD <| cutG <| Tri.seq <| Tri.block <| Tri.of Tryz.mixed Tryz.T_ok ?_
    (refine xB ?_)
    (repeat (refine wN ?_ ?_; exact xW; refine xG ?_))
    have ei : 0 + ((i : Int)).toNat = i := by omega
    rw [ei]
    (refine wP _ _ (append_op Tryz.T_ok rfl rfl rfl rfl rfl [5, 25] (old_vec rfl rfl (Nat.le_refl _) rfl) (new_vec (lo := 0) rfl rfl (Nat.le_refl _) rfl) rfl (fun i hi => by rcases (by omega : i = 0 ∨ i = 1 ∨ i = 2 ∨ i = 3) with rfl | rfl | rfl | rfl <;> rfl) (by simp only [maxLen]; omega) (by dsimp only; omega)) ?_; refine xZ ?_)
    (refine wP _ _ (append_op Tryz.T_ok rfl rfl rfl rfl rfl [26, 3] (old_vec rfl rfl (Nat.le_refl _) rfl) (new_part (q := 3) (i := i) rfl rfl rfl h1') rfl (fun _ _ => rfl) (by simp only [maxLen]; omega) (by dsimp only; omega)) ?_; refine xZ ?_)
    refine wD <| blockN <| cutG <| Tri.of Tryz.mixed Tryz.T_ok ?_
    (refine xB ?_)
    have hw : IntKind.i64.wrap ((i : Int) + 1) = ((i + 1 : Nat) : Int) := xW
    refine wD <| loopN ⟨⟨i + 1, h1'⟩, by dsimp only; omega, ?_⟩
    rw [hw]
    dsimp only
    rw [ofSt, encN_length]
    ((try dsimp only); refine Ent.renC [0, 1, 2, 3, 4, 28] hC ?_ ?_ <;> repeat' (first | exact trivial | exact rfl | exact ⟨_, rfl, rfl, rfl, Nat.le_refl _, fun _ _ => rfl⟩ | exact ⟨_, rfl, rfl, rfl, fun _ _ => rfl⟩ | exact ⟨_, rfl, rfl, rfl⟩ | exact ⟨_, rfl, rfl⟩ | refine ⟨_, rfl, rfl, rfl, by omega, fun k hk => ?_⟩ | refine ⟨?_, ?_⟩ | fail))
    refine rowB_join (a := encN p bss i ++ numL ((bss.getD i []).length : Int) 4) (b := bss.getD i []) (by rw [List.length_append, numL_length]) (fun i' hi' => ?_) (fun _ _ => rfl) (by rw [List.length_append, numL_length]; exact hk)
    refine rowB_join (b := numL ((bss.getD i []).length : Int) 4) rfl (fun _ _ => rfl) (le4_row _ _ _ _ _ ?_ ?_ ?_ ?_) (by rw [← List.length_append]; exact hi')
    · rw [numB, u8_byteI, show ((8 * 0 : Nat) : Int) = 0 from rfl, shr0]
    · rw [numB, u8_byteI]; rfl
    · rw [numB, u8_byteI]; rfl
    · rw [numB, u8_byteI]; rfl
  · (refine xG ?_)
    have h1' : i = bss.length := xW
    subst h1'
    refine wD <| cutE <| loopX <| blockX <| cutG ?_
    (refine Tri.cut 1 Tryz.mixed Tryz.T_ok ?_; refine xZ ?_)
    (apply wP; exact (call_op rfl (entersB_of Tryz.func181 (by kernel_rfl)) rfl ((sum_can (encAll p bss) hl).at [5, 2] ⟨lend_vec rfl rfl (Nat.le_of_eq (Nat.zero_add _)) (fun i _ => by rw [Nat.zero_add]; rfl), trivial⟩ ⟨lend_ext (c := 2) rfl rfl, trivial⟩)); refine xZ ?_)
    refine wD <| cutG ?_
    (refine Tri.cut 1 Tryz.mixed Tryz.T_ok ?_; refine xZ ?_)
    refine wD <| cutG ?_
    (refine Tri.cut 1 Tryz.mixed Tryz.T_ok ?_; refine xZ ?_)
    (refine wP _ _ (copy_op Tryz.T_ok (k := 32) (m := 8) (g := bytesF (shaB (encAll p bss))) [11, 9] rfl rfl rfl rfl rfl (by decide) rfl rfl (new_sla rfl rfl rfl (fun _ _ => rfl) rfl) rfl (by decide) (Nat.le_of_ble_eq_true rfl) (fun _ _ => rfl) rfl) ?_; refine xZ ?_)
    refine wD <| cutG <| Tri.of Tryz.mixed Tryz.T_ok ?_
    (refine xB ?_)
    exact wD (Ends.plain (.inr rfl) rfl rfl)
def dgSt (p : UInt8) (bss : List (List UInt8)) (ad : Nat → Option Addr) (cp : Nat → Nat) (i : Nat) : St :=
  ⟨[none, some (XV.sv (.slc 1 1 0 bss.length)), none, none, some (XV.sv (.ptr 3 0 0 0)), some (XV.sv (.slc 4 1 0 (encN p bss i).length)), some (XV.int .i64 i)] ++ List.replicate 29 none,
   [(1, .ro 1 bss.length fun i => [.slice (ad i) (bss.getD i []).length (cp i)]), (2, .ext (PartsAt 1 bss.length (fun i => (bss.getD i []).length) (fun i => rowB (bss.getD i [])) ad)), (3, .cells 29 ((List.replicate 8 (u8 0)).map .raw)), (4, .vec 5 1 (encN p bss i).length (rowB (encN p bss i)))], 5⟩
set_option maxHeartbeats 4000000 in
theorem digest_can (p : UInt8) (bss : List (List UInt8)) (hl : Short (encAll p bss)) : Reads Tryz.prog 45 [.plain (.one (.raw (u8 p))), partsA bss] [] (.cv (.agg ((dig p bss).cells.map .raw))) := by
  have hl' : (encN p bss bss.length).length ≤ 1000000000 := hl
  refine Reads.of Tryz.T_ok Tryz.func45 rfl _ _ _ rfl (aggs_ok _ _) (fun C hC => ?_)
  (replace hC : C.n0 = 2 := hC; change Tri _ _ _ ⟨_, _, 2⟩ _)
  refine Tri.openRows (c := 1) rfl (fun ad cp => ?_)
  (refine Tri.cut 2 Tryz.mixed Tryz.T_ok ?_; refine xZ ?_)
  refine wD <| cutG <| Tri.seq ?_
  (refine Tri.cut 1 Tryz.mixed Tryz.T_ok ?_; refine xZ ?_)
  refine wD <| cutG <| Tri.block ?_
  have hbs : bss.length ≤ 1000000000 := by
    have : ∀ j, j ≤ (encN p bss j).length := by
      intro j
      induction j with
      | zero => exact Nat.zero_le _
      | succ j ih => rw [encN_length]; omega
    exact Nat.le_trans (this _) hl'
  refine Tri.loop (α := { i : Nat // i ≤ bss.length }) (fun i => dgSt p bss ad cp i.1) (fun i => bss.length - i.1) ⟨0, Nat.zero_le _⟩ ?_ ?_
  · dsimp only
    rw [dgSt, show (encN p bss 0).length = 1 from rfl]
    ((try dsimp only); refine Ent.renC [0, 1, 2, 3, 5] hC ?_ ?_ <;> repeat' (first | exact trivial | exact rfl | exact ⟨_, rfl, rfl, rfl, Nat.le_refl _, fun _ _ => rfl⟩ | exact ⟨_, rfl, rfl, rfl, fun _ _ => rfl⟩ | exact ⟨_, rfl, rfl, rfl⟩ | exact ⟨_, rfl, rfl⟩ | refine ⟨_, rfl, rfl, rfl, by omega, fun k hk => ?_⟩ | refine ⟨?_, ?_⟩ | fail))
    exact lt1 (P := fun k => cutF [u8 p] 1 k = rowB [p] k) rfl k hk
  rintro ⟨i, hi⟩
  dsimp only
  (refine Tri.cut 1 Tryz.mixed Tryz.T_ok ?_; refine xZ ?_)
  refine wC (fun h1 => ?_) (fun h1 => ?_)
  · (refine xG ?_)
    have h1' : i < bss.length := xW
    have hle : (encN p bss (i + 1)).length ≤ 1000000000 := Nat.le_trans (encN_le p bss h1') hl'
    rw [encN_length] at hle
    refine wD <| cutG <| Tri.seq <| Tri.block <| Tri.of Tryz.mixed Tryz.T_ok ?_
    (refine xB ?_)
    (repeat (refine wN ?_ ?_; exact xW; refine xG ?_))
    have ei : 0 + ((i : Int)).toNat = i := by omega
    rw [ei]
    (apply wP; exact (call_op rfl (entersB_of Tryz.func72 (by kernel_rfl)) rfl ((num_can _ 4 (by decide)).at [] ⟨lend_plain rfl, lend_plain rfl, trivial⟩ trivial)); refine xZ ?_)
    (refine wP _ _ (append_op Tryz.T_ok rfl rfl rfl rfl rfl [4, 15] (old_vec rfl rfl (Nat.le_refl _) rfl) (new_vec (lo := 0) rfl rfl (Nat.le_refl _) rfl) rfl (fun i hi => by rcases (by omega : i = 0 ∨ i = 1 ∨ i = 2 ∨ i = 3) with rfl | rfl | rfl | rfl <;> rfl) (by simp only [maxLen]; omega) (by dsimp only; omega)) ?_; refine xZ ?_)
    (repeat (refine wN ?_ ?_; exact xW; refine xG ?_))
    rw [ei]
    (refine wP _ _ (append_op Tryz.T_ok rfl rfl rfl rfl rfl [16, 2] (old_vec rfl rfl (Nat.le_refl _) rfl) (new_part (q := 2) (i := i) rfl rfl rfl h1') rfl (fun _ _ => rfl) (by simp only [maxLen]; omega) (by dsimp only; omega)) ?_; refine xZ ?_)
    refine wD <| blockN <| cutG <| Tri.of Tryz.mixed Tryz.T_ok ?_
    (refine xB ?_)
    have hw : IntKind.i64.wrap ((i : Int) + 1) = ((i + 1 : Nat) : Int) := xW
    refine wD <| loopN ⟨⟨i + 1, h1'⟩, by dsimp only; omega, ?_⟩
    rw [hw]
    dsimp only
    rw [dgSt, encN_length]
    ((try dsimp only); refine Ent.renC [0, 1, 2, 3, 21] hC ?_ ?_ <;> repeat' (first | exact trivial | exact rfl | exact ⟨_, rfl, rfl, rfl, Nat.le_refl _, fun _ _ => rfl⟩ | exact ⟨_, rfl, rfl, rfl, fun _ _ => rfl⟩ | exact ⟨_, rfl, rfl, rfl⟩ | exact ⟨_, rfl, rfl⟩ | refine ⟨_, rfl, rfl, rfl, by omega, fun k hk => ?_⟩ | refine ⟨?_, ?_⟩ | fail))
    refine rowB_join (a := encN p bss i ++ numL ((bss.getD i []).length : Int) 4) (b := bss.getD i []) (by rw [List.length_append, numL_length]) (fun i' hi' => ?_) (fun _ _ => rfl) (by rw [List.length_append, numL_length]; exact hk)
    exact rowB_join (b := numL ((bss.getD i []).length : Int) 4) rfl (fun _ _ => rfl) (fun j _ => by rw [Nat.zero_add]) (by rw [← List.length_append]; exact hi')
  · (refine xG ?_)
    have h1' : i = bss.length := xW
    subst h1'
    refine wD <| cutE <| loopX <| blockX <| cutG ?_
    (refine Tri.cut 1 Tryz.mixed Tryz.T_ok ?_; refine xZ ?_)
    (apply wP; exact (call_op rfl (entersB_of Tryz.func95 (by kernel_rfl)) rfl ((rsum_can (encAll p bss) hl).at [4] ⟨lend_vec rfl rfl (Nat.le_of_eq (Nat.zero_add _)) (fun i _ => by rw [Nat.zero_add]; rfl), trivial⟩ trivial)); refine xZ ?_)
    refine wD <| cutG ?_
    (refine Tri.cut 1 Tryz.mixed Tryz.T_ok ?_; refine xZ ?_)
    refine wD <| cutG ?_
    (refine Tri.cut 1 Tryz.mixed Tryz.T_ok ?_; refine xZ ?_)
    (repeat (refine wN ?_ ?_; exact xW; refine xG ?_))
    (refine wP _ _ (copy_op Tryz.T_ok (k := 8) (m := 8) (g := bytesF (shaB (encAll p bss))) [13, 11] rfl rfl rfl rfl rfl (by decide) rfl rfl (new_sla rfl rfl rfl (fun _ _ => rfl) rfl) rfl (by decide) (Nat.le_of_ble_eq_true rfl) (fun _ _ => rfl) rfl) ?_; refine xZ ?_)
    refine wD <| cutG <| Tri.of Tryz.mixed Tryz.T_ok ?_
    (refine xB ?_)
    exact wD (Ends.plain (.inr rfl) rfl rfl)
end Go.Proofs.YtnpkdoggfnlapaaGreatDoor
namespace Go.Proofs.YtnpkdoggfnlapaaGreatDoor
set_option maxRecDepth 100000
open Go.Sx
def rowsL (bss : List (List UInt8)) : List (Nat × (Nat → List Value)) := bss.map fun b => (b.length, rowB b)
theorem lend_parts {M : Mem} {rd : List Nat} {c e : Nat} {cs : List SV} (bss : List (List UInt8)) (hm : M.get c = some (.cells e cs)) (hrd : nmem c rd = true) (hn : cs.length = bss.length) (ha : AllRows M rd 1 cs (rowsL bss)) : Lends M rd (.one (.slc c 1 0 bss.length)) (partsA bss) := by
  refine lend_rows (rowsL bss) hm hrd hn ha (fun i x hx => ?_)
  rw [rowsL, List.getElem?_map] at hx
  cases hb : bss[i]? with
  | none => rw [hb] at hx; cases hx
  | some b =>
    rw [hb] at hx
    simp only [Option.map_some, Option.some.injEq] at hx
    subst hx
    simp [List.getD_eq_getElem?_getD, hb]
theorem lend_vecN {M : Mem} {rd : List Nat} {c e sz n lo k k' : Nat} {f g : Nat → List Value} (hkk : k' = k) (hm : M.get c = some (.vec e sz n f)) (hrd : nmem c rd = true) (hk : lo + k ≤ n) (hg : ∀ i, i < k → g i = f (lo + i)) : Lends M rd (.one (.slc c sz lo k')) (.row sz k g) := by
  subst hkk; exact lend_vec hm hrd hk hg
theorem H8.l_len (h : H8) : h.l.length = 8 := rfl
theorem short1 (p : UInt8) (a : List UInt8) (h : a.length ≤ 900000000) : Short (encAll p [a]) := by
  show (encN p [a] 1).length ≤ _
  rw [encN_length]
  show [p].length + 4 + a.length ≤ _
  simp; omega
theorem short2 (p : UInt8) (a b : List UInt8) (h : a.length + b.length ≤ 900000000) : Short (encAll p [a, b]) := by
  show (encN p [a, b] 2).length ≤ _
  rw [encN_length, encN_length]
  show [p].length + 4 + a.length + 4 + b.length ≤ _
  simp; omega
def leafH (h : H8) : H8 := dig 108 [h.l]
def joinH (a b : H8) : H8 := dig 109 [a.l, b.l]
def markH (h : H8) : H8 := dig 112 [h.l]
abbrev H8.x (h : H8) : CV := .agg (h.cells.map .raw)
def hashX (h : H8) : XV := .cv h.x
theorem ptwo_can (p : UInt8) (a b : H8) : Reads Tryz.prog 180 [.plain (.one (.raw (u8 p))), .plain a.x, .plain b.x] [stepsP] (hashX (dig p [a.l, b.l])) := by
  refine Reads.of Tryz.T_ok Tryz.func180 rfl _ _ _ rfl rfl (fun C hC => ?_)
  (replace hC : C.n0 = 4 := hC; change Tri _ _ _ ⟨_, _, 4⟩ _)
  refine Tri.of Tryz.mixed Tryz.T_ok ?_
  (refine xB ?_)
  (refine wP _ _ (cellsNew_op Tryz.T_ok rfl rfl rfl) ?_; refine xZ ?_)
  (apply wP; exact (call_op rfl (entersB_of Tryz.func146 (by kernel_rfl)) rfl ((of_can p [a.l, b.l] (short2 _ _ _ (by simp [H8.l_len]))).at [10, 4, 5, 3] ⟨lend_plain rfl, lend_parts [a.l, b.l] rfl rfl rfl ⟨lend_sla rfl rfl (fun _ _ => rfl) rfl, lend_sla rfl rfl (fun _ _ => rfl) rfl, trivial⟩, trivial⟩ ⟨lend_ext (c := 3) rfl rfl, trivial⟩)); refine xZ ?_)
  exact wD (Ends.plain (.inr rfl) rfl rfl)
theorem rtwo_can (p : UInt8) (a b : H8) : Reads Tryz.prog 182 [.plain (.one (.raw (u8 p))), .plain a.x, .plain b.x] [] (hashX (dig p [a.l, b.l])) := by
  refine Reads.of Tryz.T_ok Tryz.func182 rfl _ _ _ rfl rfl (fun C hC => ?_)
  (replace hC : C.n0 = 3 := hC; change Tri _ _ _ ⟨_, _, 3⟩ _)
  refine Tri.of Tryz.mixed Tryz.T_ok ?_
  (refine xB ?_)
  (refine wP _ _ (cellsNew_op Tryz.T_ok rfl rfl rfl) ?_; refine xZ ?_)
  (apply wP; exact (call_op rfl (entersB_of Tryz.func45 (by kernel_rfl)) rfl ((digest_can p [a.l, b.l] (short2 _ _ _ (by simp [H8.l_len]))).at [9, 3, 4] ⟨lend_plain rfl, lend_parts [a.l, b.l] rfl rfl rfl ⟨lend_sla rfl rfl (fun _ _ => rfl) rfl, lend_sla rfl rfl (fun _ _ => rfl) rfl, trivial⟩, trivial⟩ trivial)); refine xZ ?_)
  exact wD (Ends.plain (.inr rfl) rfl rfl)
theorem rmark_can (a : H8) : Reads Tryz.prog 200 [.plain a.x] [] (hashX (markH a)) := by
  refine Reads.of Tryz.T_ok Tryz.func200 rfl _ _ _ rfl rfl (fun C hC => ?_)
  (replace hC : C.n0 = 1 := hC; change Tri _ _ _ ⟨_, _, 1⟩ _)
  refine Tri.of Tryz.mixed Tryz.T_ok ?_
  (refine xB ?_)
  (refine wP _ _ (cellsNew_op Tryz.T_ok rfl rfl rfl) ?_; refine xZ ?_)
  (apply wP; exact (call_op rfl (entersB_of Tryz.func45 (by kernel_rfl)) rfl ((digest_can 112 [a.l] (short1 _ _ (by simp [H8.l_len]))).at [4, 1] ⟨lend_plain rfl, lend_parts [a.l] rfl rfl rfl ⟨lend_sla rfl rfl (fun _ _ => rfl) rfl, trivial⟩, trivial⟩ trivial)); refine xZ ?_)
  exact wD (Ends.plain (.inr rfl) rfl rfl)
theorem row4 {x0 x1 x2 x3 : UInt8} {v0 v1 v2 v3 : Value} (h0 : v0 = u8 x0) (h1 : v1 = u8 x1) (h2 : v2 = u8 x2) (h3 : v3 = u8 x3) : ∀ i, i < [x0, x1, x2, x3].length → rowB [x0, x1, x2, x3] i = cutF [v0, v1, v2, v3] 1 (0 + i) := by
  subst h0 h1 h2 h3
  intro i hi
  match i, hi with
  | 0, _ => rfl
  | 1, _ => rfl
  | 2, _ => rfl
  | 3, _ => rfl
def secretH (seed : H8) (idx i b : Int) : H8 := dig 115 [seed.l, [byteI (IntKind.u8.wrap idx), byteI (IntKind.u8.wrap i), byteI (IntKind.u8.wrap b), 0]]
theorem secret_can (seed : H8) (idx i b : Int) : Reads Tryz.prog 198 [.plain seed.x, .plain (.one (.raw (.int .i64 idx))), .plain (.one (.raw (.int .i64 i))), .plain (.one (.raw (.int .i64 b)))] [] (hashX (secretH seed idx i b)) := by
  refine Reads.of Tryz.T_ok Tryz.func198 rfl _ _ _ rfl rfl (fun C hC => ?_)
  (replace hC : C.n0 = 4 := hC; change Tri _ _ _ ⟨_, _, 4⟩ _)
  refine Tri.of Tryz.mixed Tryz.T_ok ?_
  (refine xB ?_)
  (refine wP _ _ (cellsNew_op Tryz.T_ok rfl rfl rfl) ?_; refine xZ ?_)
  (apply wP; exact (call_op rfl (entersB_of Tryz.func45 (by kernel_rfl)) rfl ((digest_can 115 [seed.l, [byteI (IntKind.u8.wrap idx), byteI (IntKind.u8.wrap i), byteI (IntKind.u8.wrap b), 0]] (short2 _ _ _ (by simp [H8.l_len]))).at [14, 4, 13] ⟨lend_plain rfl, lend_parts [seed.l, [byteI (IntKind.u8.wrap idx), byteI (IntKind.u8.wrap i), byteI (IntKind.u8.wrap b), 0]] rfl rfl rfl ⟨lend_sla rfl rfl (fun _ _ => rfl) rfl, lend_vec (lo := 0) rfl rfl (Nat.le_refl _) (row4 (u8_byteI _).symm (u8_byteI _).symm (u8_byteI _).symm rfl), trivial⟩, trivial⟩ trivial)); refine xZ ?_)
  exact wD (Ends.plain (.inr rfl) rfl rfl)
end Go.Proofs.YtnpkdoggfnlapaaGreatDoor
namespace Go.Proofs.YtnpkdoggfnlapaaGreatDoor
set_option maxRecDepth 100000
open Go.Sx
def bitN (m : H8) (i : Nat) : Nat := ((m.l.getD (i / 8) 0).toNat / 2 ^ (i % 8)) % 2
theorem bitN_cases (m : H8) (i : Nat) : bitN m i = 0 ∨ bitN m i = 1 := by unfold bitN; omega
theorem ofInt_nat (n y : Nat) : BitVec.ofInt n (y : Int) = BitVec.ofNat n y := by
  apply BitVec.eq_of_toNat_eq
  rw [BitVec.toNat_ofInt, BitVec.toNat_ofNat]
  omega
theorem and1_i64 (y : Nat) : bitI .and .i64 (y : Int) 1 = ((y % 2 : Nat) : Int) := by
  show IntKind.i64.wrap (((BitVec.ofInt 64 (y : Int) &&& BitVec.ofInt 64 ((1 : Nat) : Int)).toNat : Int)) = _
  rw [ofInt_nat, ofInt_nat, BitVec.toNat_and, BitVec.toNat_ofNat, BitVec.toNat_ofNat, show 1 % 2 ^ 64 = 1 from rfl, Nat.and_one_is_mod, IntKind.wrap_i64]
  omega
theorem shr_nat (k : IntKind) (y s : Nat) (hs : s ≤ k.bits) : shrI k (y : Int) (s : Int) = ((y / 2 ^ s : Nat) : Int) := by
  have e : min ((s : Int).toNat) k.bits = s := by omega
  have h2 : ((2 : Int) ^ s) = ((2 ^ s : Nat) : Int) := by rw [Int.natCast_pow]; rfl
  rw [shrI, e, h2, Int.fdiv_eq_ediv_of_nonneg _ (Int.natCast_nonneg _), Int.natCast_ediv]
theorem rbit_can (m : H8) (i : Nat) (hi : i < 64) : Reads Tryz.prog 199 [.plain m.x, .plain (.one (.raw (.int .i64 i)))] [] (XV.int .i64 (bitN m i)) := by
  refine Reads.of Tryz.T_ok Tryz.func199 rfl _ _ _ rfl rfl (fun C hC => ?_)
  (replace hC : C.n0 = 2 := hC; change Tri _ _ _ ⟨_, _, 2⟩ _)
  (refine Tri.cut 1 Tryz.mixed Tryz.T_ok ?_; refine xZ ?_)
  refine wD <| cutG <| Tri.ent (Ent.arrT (c := 2) 1 8 (rowB m.l) rfl rfl rfl (fun _ _ => rfl) (by decide) rfl (by rw [hC]; decide)) <| Tri.of Tryz.mixed Tryz.T_ok ?_
  have q1 : IntKind.i64.wrap (Int.tdiv (i : Int) 8) = ((i / 8 : Nat) : Int) := by
    have : Int.tdiv (i : Int) 8 = ((i / 8 : Nat) : Int) := rfl
    rw [this]; exact xW
  have q2 : Int.tmod (i : Int) 8 = ((i % 8 : Nat) : Int) := rfl
  (refine xB ?_)
  simp only [q1]
  (repeat (refine wN ?_ ?_; exact xW; refine xG ?_))
  simp only [q2]
  (repeat (refine wN ?_ ?_; exact xW; refine xG ?_))
  refine wD (Ends.plain (.inr rfl) rfl ?_)
  have e : bitI .and .i64 (shrI .i64 (IntKind.i64.wrap ((m.l.getD (((i / 8 : Nat) : Int).toNat) 0).toNat : Int)) (IntKind.u64.wrap ((i % 8 : Nat) : Int))) 1 = ((bitN m i : Nat) : Int) := by
    have h8 : i % 8 ≤ IntKind.i64.bits := Nat.le_trans (Nat.le_of_lt (Nat.mod_lt i (by decide : 8 > 0))) (by decide)
    have hb := (m.l.getD (i / 8) 0).toNat_lt
    have e1 : IntKind.i64.wrap ((m.l.getD (i / 8) 0).toNat : Int) = ((m.l.getD (i / 8) 0).toNat : Int) := xW
    have e2 : IntKind.u64.wrap ((i % 8 : Nat) : Int) = ((i % 8 : Nat) : Int) := xW
    rw [Int.toNat_natCast, e1, e2, shr_nat _ _ _ h8, and1_i64]
    rfl
  exact congrArg (fun n : Int => XV.int .i64 n) e
end Go.Proofs.YtnpkdoggfnlapaaGreatDoor

/- Parts He Hf. -/
import Derived.Test.YtnpkdoggfnlapaaGreatDoorG13
set_option linter.unusedSimpArgs false
set_option linter.unusedVariables false
namespace Go.Proofs.YtnpkdoggfnlapaaGreatDoor
set_option maxRecDepth 100000
open Go.Sx
def byteI (x : Int) : UInt8 := UInt8.ofNat x.toNat
theorem u8_byteI (x : Int) : u8 (byteI (IntKind.u8.wrap x)) = .int .u8 (IntKind.u8.wrap x) := by
  have h : IntKind.u8.wrap x = x % 256 := IntKind.wrap_u8 x
  simp only [u8, byteI, h, Value.int.injEq, true_and]
  rw [UInt8.toNat_ofNat']
  omega
def padZ (n : Nat) : Nat := (119 - n % 64) % 64
def lenB (n d : Nat) : UInt8 := byteI (IntKind.u8.wrap (shrI .u64 (shlI .u64 (IntKind.u64.wrap (n : Int)) 3) (((8 * (7 - d) : Nat) : Int))))
def lensB (n : Nat) : Nat → List UInt8
  | 0 => []
  | d + 1 => lensB n d ++ [lenB n d]
theorem lensB_length (n : Nat) : ∀ d, (lensB n d).length = d
  | 0 => rfl
  | d + 1 => by simp [lensB, lensB_length n d]
def pad0 (l : List UInt8) (j : Nat) : List UInt8 := l ++ [0x80] ++ List.replicate j 0
def padL (l : List UInt8) : List UInt8 := pad0 l (padZ l.length) ++ lensB l.length 8
theorem pad0_length (l : List UInt8) (j : Nat) : (pad0 l j).length = l.length + 1 + j := by simp [pad0]; omega
theorem padL_length (l : List UInt8) : (padL l).length = l.length + 9 + padZ l.length := by simp [padL, pad0_length, lensB_length]; omega
def blocksN (l : List UInt8) : Nat := (padL l).length / 64
theorem blocks_eq (l : List UInt8) : 64 * blocksN l = (padL l).length := by
  unfold blocksN
  have := padL_length l
  have h : (padL l).length % 64 = 0 := by rw [this]; unfold padZ; omega
  omega
def blockAt (l : List UInt8) (t : Nat) : Nat → UInt8 := fun i => (padL l).getD (64 * t + i) 0
def stateH (l : List UInt8) : Nat → Nat → Int
  | 0 => startW
  | t + 1 => blockW (stateH l t) (blockAt l t)
def shaB (l : List UInt8) (i : Nat) : UInt8 := byteI (IntKind.u8.wrap (shrI .u32 (stateH l (blocksN l) (i / 4)) ((24 - i % 4 * 8 : Nat) : Int)))
def shaP (l : List UInt8) (i : Nat) : Nat → UInt8 := fun k => if k < i then shaB l k else 0
theorem pad0_succ (l : List UInt8) (j : Nat) : pad0 l (j + 1) = pad0 l j ++ [0] := by simp [pad0, List.replicate_succ']
theorem rem64 (n : Nat) : ((n : Int).tmod 64 != 56) = decide (n % 64 ≠ 56) := by
  have : (n : Int).tmod 64 = ((n % 64 : Nat) : Int) := rfl
  rw [this]
  by_cases h : n % 64 = 56
  · rw [h]; rfl
  · have h2 : ((n % 64 : Nat) : Int) ≠ 56 := by omega
    rw [decide_eq_true h]
    simpa using h2
def sumSt1 (l L : List UInt8) (m : Nat) : St := ⟨[some (XV.sv (.slc 0 1 0 l.length)), none, some (XV.sv (.ptr 2 0 0 0)), some (XV.sv (.slc 3 1 0 m))] ++ List.replicate 56 none,
  [(0, .ro 1 l.length (rowB l)), (1, .ext stepsP), (2, .cells 174 ((List.replicate 32 (u8 0)).map .raw)), (3, .vec 5 1 m (rowB L))], 4⟩
def sumSt2 (l L : List UInt8) (m : Nat) (i : Int) : St := ⟨[some (XV.sv (.slc 0 1 0 l.length)), none, some (XV.sv (.ptr 2 0 0 0)), some (XV.sv (.slc 3 1 0 m)), some (XV.int .i64 i)] ++ List.replicate 55 none,
  [(0, .ro 1 l.length (rowB l)), (1, .ext stepsP), (2, .cells 174 ((List.replicate 32 (u8 0)).map .raw)), (3, .vec 5 1 m (rowB L))], 4⟩
def sumSt3 (l : List UInt8) (t : Nat) : St := ⟨[none, none, some (XV.sv (.ptr 2 0 0 0)), some (XV.sv (.slc 3 1 (64 * t) (64 * (blocksN l - t)))), none, some (XV.sv (.ptr 4 0 0 0))] ++ List.replicate 54 none,
  [(0, .ro 1 l.length (rowB l)), (1, .ext stepsP), (2, .cells 174 ((List.replicate 32 (u8 0)).map .raw)), (3, .vec 5 1 (padL l).length (rowB (padL l))), (4, .vec 283 1 8 (wordsF (stateH l t)))], 5⟩
def sumSt4 (l : List UInt8) (i : Nat) : St := ⟨[none, none, some (XV.sv (.ptr 2 0 0 0)), none, none, some (XV.sv (.ptr 3 0 0 0)), some (XV.sv (.ptr 4 0 0 0))] ++ List.replicate 36 none ++ [some (XV.int .i64 i)] ++ List.replicate 16 none,
  [(0, .ro 1 l.length (rowB l)), (1, .ext stepsP), (2, .cells 174 ((List.replicate 32 (u8 0)).map .raw)), (3, .vec 283 1 8 (wordsF (stateH l (blocksN l)))), (4, .vec 174 1 32 (bytesF (shaP l i)))], 5⟩
set_option maxHeartbeats 4000000 in
theorem sum_can (l : List UInt8) (hl : Short l) : Reads Tryz.prog 181 [.row 1 l.length (rowB l)] [stepsP] (.cv (.agg ((tabF (bytesF (shaB l)) 0 32).map .raw))) := by
  have hl' : l.length ≤ 1000000000 := hl
  have hZ : padZ l.length < 64 := by unfold padZ; omega
  refine Reads.of Tryz.T_ok Tryz.func181 rfl _ _ _ rfl (aggs_ok _ _) (fun C hC => ?_)
  (replace hC : C.n0 = 2 := hC; change Tri _ _ _ ⟨_, _, 2⟩ _)
  (refine Tri.cut 2 Tryz.mixed Tryz.T_ok ?_; refine xZ ?_)
  (apply wP; exact (call_op rfl (entersB_of Tryz.func208 (by kernel_rfl)) rfl ((clone_can l hl).at [0] ⟨lend_ro rfl rfl (by omega) (fun i _ => by rw [Nat.zero_add]), trivial⟩ trivial)); refine xZ ?_)
  (refine wP _ _ (append_op Tryz.T_ok rfl rfl rfl rfl rfl [4, 5] (old_vec rfl rfl (Nat.le_refl _) rfl) (new_vec (lo := 0) rfl rfl (Nat.le_refl _) rfl) rfl (lt1 rfl) (by simp only [maxLen]; omega) (by dsimp only; omega)) ?_; refine xZ ?_)
  refine wD <| cutG <| Tri.seq ?_
  refine Tri.block ?_
  refine Tri.loop (α := { j : Nat // j ≤ padZ l.length }) (fun j => sumSt1 l (pad0 l j.1) (l.length + 1 + j.1)) (fun j => padZ l.length - j.1) ⟨0, Nat.zero_le _⟩ ?_ ?_
  · dsimp only
    ((try dsimp only); refine Ent.renC [0, 1, 2, 6] hC ?_ ?_ <;> repeat' (first | exact trivial | exact rfl | exact ⟨_, rfl, rfl, rfl, Nat.le_refl _, fun _ _ => rfl⟩ | exact ⟨_, rfl, rfl, rfl, fun _ _ => rfl⟩ | exact ⟨_, rfl, rfl, rfl⟩ | exact ⟨_, rfl, rfl⟩ | refine ⟨_, rfl, rfl, rfl, by omega, fun k hk => ?_⟩ | refine ⟨?_, ?_⟩ | fail))
    rw [show pad0 l 0 = l ++ [0x80] by simp [pad0]]
    exact rowB_snoc rfl rfl hk
  rintro ⟨j, hj⟩
  dsimp only
  (refine Tri.cut 1 Tryz.mixed Tryz.T_ok ?_; refine xZ ?_)
  refine wC (fun h1 => ?_) (fun h1 => ?_)
  · (refine xG ?_)
    have h1' : j < padZ l.length := by
      rw [rem64, decide_eq_true_eq] at h1
      rcases Nat.lt_or_ge j (padZ l.length) with h | h
      · exact h
      · have : j = padZ l.length := by omega
        subst this
        unfold padZ at h1
        omega
    refine wD <| cutG <| Tri.block <| Tri.of Tryz.mixed Tryz.T_ok ?_
    (refine xB ?_)
    (refine wP _ _ (append_op Tryz.T_ok rfl rfl rfl rfl rfl [3, 9] (old_vec rfl rfl (Nat.le_refl _) rfl) (new_vec (lo := 0) rfl rfl (Nat.le_refl _) rfl) rfl (lt1 rfl) (by simp only [maxLen]; omega) (by dsimp only; omega)) ?_; refine xZ ?_)
    refine wD <| blockN <| loopN ⟨⟨j + 1, h1'⟩, by dsimp only; omega, ?_⟩
    dsimp only
    ((try dsimp only); refine Ent.renC [0, 1, 2, 10] hC ?_ ?_ <;> repeat' (first | exact trivial | exact rfl | exact ⟨_, rfl, rfl, rfl, Nat.le_refl _, fun _ _ => rfl⟩ | exact ⟨_, rfl, rfl, rfl, fun _ _ => rfl⟩ | exact ⟨_, rfl, rfl, rfl⟩ | exact ⟨_, rfl, rfl⟩ | refine ⟨_, rfl, rfl, rfl, by omega, fun k hk => ?_⟩ | refine ⟨?_, ?_⟩ | fail))
    rw [pad0_succ]
    exact rowB_snoc (pad0_length l j).symm rfl (by rw [pad0_length]; exact hk)
  · (refine xG ?_)
    have h1' : j = padZ l.length := by
      rw [rem64, decide_eq_false_iff_not, Decidable.not_not] at h1
      unfold padZ at hj ⊢
      omega
    subst h1'
    refine wD <| cutE <| loopX <| blockX <| cutG <| Tri.seq ?_
    (refine Tri.cut 1 Tryz.mixed Tryz.T_ok ?_; refine xZ ?_)
    refine wD <| cutG <| Tri.block ?_
    refine Tri.loop (α := { d : Nat // d ≤ 8 }) (fun d => sumSt2 l (pad0 l (padZ l.length) ++ lensB l.length d.1) (l.length + 1 + padZ l.length + d.1) (7 - (d.1 : Int))) (fun d => 8 - d.1) ⟨0, Nat.zero_le _⟩ ?_ ?_
    · dsimp only
      ((try dsimp only); refine Ent.renC [0, 1, 2, 3] hC ?_ ?_ <;> repeat' (first | exact trivial | exact rfl | exact ⟨_, rfl, rfl, rfl, Nat.le_refl _, fun _ _ => rfl⟩ | exact ⟨_, rfl, rfl, rfl, fun _ _ => rfl⟩ | exact ⟨_, rfl, rfl, rfl⟩ | exact ⟨_, rfl, rfl⟩ | refine ⟨_, rfl, rfl, rfl, by omega, fun k hk => ?_⟩ | refine ⟨?_, ?_⟩ | fail))
      simp [lensB]
    rintro ⟨d, hd⟩
    dsimp only
    (refine Tri.cut 1 Tryz.mixed Tryz.T_ok ?_; refine xZ ?_)
    refine wC (fun h2 => ?_) (fun h2 => ?_)
    · (refine xG ?_)
      have h2' : d < 8 := xW
      have e8 : IntKind.i64.wrap (8 * (7 - (d : Int))) = ((8 * (7 - d) : Nat) : Int) := xW
      have ew : IntKind.i64.wrap (7 - (d : Int) - 1) = 7 - ((d + 1 : Nat) : Int) := xW
      refine wD <| cutG <| Tri.seq <| Tri.block <| Tri.of Tryz.mixed Tryz.T_ok ?_
      (refine xB ?_)
      (refine wN ?_ ?_; exact xW; refine xG ?_)
      simp only [e8]
      (refine wP _ _ (append_op Tryz.T_ok rfl rfl rfl rfl rfl [3, 15] (old_vec rfl rfl (Nat.le_refl _) rfl) (new_vec (lo := 0) rfl rfl (Nat.le_refl _) rfl) rfl (lt1 rfl) (by simp only [maxLen]; omega) (by dsimp only; omega)) ?_; refine xZ ?_)
      refine wD <| blockN <| cutG <| Tri.of Tryz.mixed Tryz.T_ok ?_
      (refine xB ?_)
      refine wD <| loopN ⟨⟨d + 1, h2'⟩, by dsimp only; omega, ?_⟩
      dsimp only
      rw [ew]
      ((try dsimp only); refine Ent.renC [0, 1, 2, 16] hC ?_ ?_ <;> repeat' (first | exact trivial | exact rfl | exact ⟨_, rfl, rfl, rfl, Nat.le_refl _, fun _ _ => rfl⟩ | exact ⟨_, rfl, rfl, rfl, fun _ _ => rfl⟩ | exact ⟨_, rfl, rfl, rfl⟩ | exact ⟨_, rfl, rfl⟩ | refine ⟨_, rfl, rfl, rfl, by omega, fun k hk => ?_⟩ | refine ⟨?_, ?_⟩ | fail))
      rw [lensB, ← List.append_assoc]
      exact rowB_snoc (by rw [List.length_append, pad0_length, lensB_length]) (by rw [lenB, u8_byteI]; rfl) (by rw [List.length_append, pad0_length, lensB_length]; exact hk)
    · (refine xG ?_)
      have h2' : d = 8 := xW
      subst h2'
      refine wD <| cutE <| loopX <| blockX <| cutG ?_
      (refine Tri.cut 1 Tryz.mixed Tryz.T_ok ?_; refine xZ ?_)
      (apply wP; exact (call_op rfl (entersB_of Tryz.func209 (by kernel_rfl)) rfl (start_can.at [] trivial trivial)); refine xZ ?_)
      refine wD <| cutG <| Tri.ent (Ent.arrT (c := 7) 1 8 (wordsF startW) rfl rfl rfl (fun _ _ => rfl) (by decide) rfl (by rw [hC]; decide)) ?_
      refine Tri.seq <| Tri.block ?_
      have hlen := padL_length l
      have hbl := blocks_eq l
      refine Tri.loop (α := { t : Nat // t ≤ blocksN l }) (fun t => sumSt3 l t.1) (fun t => blocksN l - t.1) ⟨0, Nat.zero_le _⟩ ?_ ?_
      · dsimp only
        have e1 : l.length + 1 + padZ l.length + 8 = 64 * (blocksN l - 0) := by omega
        rw [e1]
        ((try dsimp only); refine Ent.renC [0, 1, 2, 3, 7] hC ?_ ?_ <;> repeat' (first | exact trivial | exact rfl | exact ⟨_, rfl, rfl, rfl, Nat.le_refl _, fun _ _ => rfl⟩ | exact ⟨_, rfl, rfl, rfl, fun _ _ => rfl⟩ | exact ⟨_, rfl, rfl, rfl⟩ | exact ⟨_, rfl, rfl⟩ | refine ⟨_, rfl, rfl, rfl, by omega, fun k hk => ?_⟩ | refine ⟨?_, ?_⟩ | fail))
      rintro ⟨t, ht⟩
      dsimp only
      (refine Tri.cut 1 Tryz.mixed Tryz.T_ok ?_; refine xZ ?_)
      refine wC (fun h3 => ?_) (fun h3 => ?_)
      · (refine xG ?_)
        have h3' : t < blocksN l := xW
        refine wD <| cutG <| Tri.seq <| Tri.block <| Tri.of Tryz.mixed Tryz.T_ok ?_
        (refine xB ?_)
        (refine wN ?_ ?_; exact xW; refine xG ?_)
        (apply wP; exact (call_op rfl (entersB_of Tryz.func210 (by kernel_rfl)) rfl ((block_can (stateH l t) (blockAt l t)).at [3, 1] rfl rfl rfl ⟨lend_vec (lo := 64 * t) rfl rfl (by rw [← hbl]; omega) (fun _ _ => rfl), trivial⟩ ⟨lend_ext (c := 1) rfl rfl, trivial⟩)); refine xZ ?_)
        refine wD <| blockN <| cutG <| Tri.of Tryz.mixed Tryz.T_ok ?_
        (refine xB ?_)
        (refine wN ?_ ?_; exact xW; refine xG ?_)
        refine wD <| loopN ⟨⟨t + 1, h3'⟩, by dsimp only; omega, ?_⟩
        dsimp only
        have e1 : 64 * t + (64 : Int).toNat = 64 * (t + 1) := by omega
        have e2 : 64 * (blocksN l - t) - (64 : Int).toNat = 64 * (blocksN l - (t + 1)) := by omega
        rw [e1, e2]
        exact Ent.ren [0, 1, 2, 3, 4] (by decide) rfl (fun i hi => by replace hi := Nat.lt_of_lt_of_eq hi hC; revert i; decide) (Nat.le_trans (Nat.le_of_eq hC) (by decide)) rfl (by repeat' (first | exact trivial | exact rfl | refine ⟨?_, ?_⟩ | fail)) (by repeat' (first | exact trivial | exact ⟨_, rfl, rfl, rfl, Nat.le_refl _, fun _ _ => rfl⟩ | exact ⟨_, rfl, rfl, rfl, fun _ _ => rfl⟩ | exact ⟨_, rfl, rfl, rfl⟩ | exact ⟨_, rfl, rfl⟩ | refine ⟨?_, ?_⟩ | fail))
      · (refine xG ?_)
        have h3' : t = blocksN l := xW
        subst h3'
        refine wD <| cutE <| loopX <| blockX <| cutG ?_
        (refine Tri.cut 1 Tryz.mixed Tryz.T_ok ?_; refine xZ ?_)
        refine wD <| cutG <| Tri.ent (Ent.arr0 (c := 8) 1 32 (u8 0) (f := bytesF (shaP l 0)) rfl rfl rfl (by decide) rfl (by rw [hC]; decide) (fun _ _ => rfl)) <| Tri.seq ?_
        (refine Tri.cut 1 Tryz.mixed Tryz.T_ok ?_; refine xZ ?_)
        refine wD <| cutG <| Tri.block ?_
        refine Tri.loop (α := { i : Nat // i ≤ 32 }) (fun i => sumSt4 l i.1) (fun i => 32 - i.1) ⟨0, Nat.zero_le _⟩ ?_ ?_
        · exact Ent.ren [0, 1, 2, 4, 8] (by decide) rfl (fun i hi => by replace hi := Nat.lt_of_lt_of_eq hi hC; revert i; decide) (Nat.le_trans (Nat.le_of_eq hC) (by decide)) rfl (by repeat' (first | exact trivial | exact rfl | refine ⟨?_, ?_⟩ | fail)) (by repeat' (first | exact trivial | exact ⟨_, rfl, rfl, rfl, Nat.le_refl _, fun _ _ => rfl⟩ | exact ⟨_, rfl, rfl, rfl, fun _ _ => rfl⟩ | exact ⟨_, rfl, rfl, rfl⟩ | exact ⟨_, rfl, rfl⟩ | refine ⟨?_, ?_⟩ | fail))
        rintro ⟨i, hi⟩
        dsimp only
        (refine Tri.cut 2 Tryz.mixed Tryz.T_ok ?_; refine xZ ?_)
        refine wC (fun h4 => ?_) (fun h4 => ?_)
        · (refine xG ?_)
          have h4' : i < 32 := xW
          have q1 : IntKind.i64.wrap (Int.tdiv (i : Int) 4) = ((i / 4 : Nat) : Int) := by
            have : Int.tdiv (i : Int) 4 = ((i / 4 : Nat) : Int) := rfl
            rw [this]; exact xW
          have q2 : Int.tmod (i : Int) 4 = ((i % 4 : Nat) : Int) := rfl
          have q3 : IntKind.i64.wrap (((i % 4 : Nat) : Int) * 8) = ((i % 4 * 8 : Nat) : Int) := xW
          have q4 : IntKind.i64.wrap (24 - ((i % 4 * 8 : Nat) : Int)) = ((24 - i % 4 * 8 : Nat) : Int) := xW
          refine wD <| cutG <| Tri.seq <| Tri.block <| Tri.of Tryz.mixed Tryz.T_ok ?_
          (refine xB ?_)
          simp only [q1]
          (refine wN ?_ ?_; exact xW; refine xG ?_)
          (refine wN ?_ ?_; exact xW; refine xG ?_)
          simp only [q2, q3, q4]
          (repeat (refine wN ?_ ?_; exact xW; refine xG ?_))
          refine wD <| blockN <| cutG <| Tri.of Tryz.mixed Tryz.T_ok ?_
          (refine xB ?_)
          have hw : IntKind.i64.wrap ((i : Int) + 1) = ((i + 1 : Nat) : Int) := xW
          refine wD <| loopN ⟨⟨i + 1, h4'⟩, by dsimp only; omega, ?_⟩
          rw [hw]
          ((try dsimp only); refine Ent.renC [0, 1, 2, 3, 4] hC ?_ ?_ <;> repeat' (first | exact trivial | exact rfl | exact ⟨_, rfl, rfl, rfl, Nat.le_refl _, fun _ _ => rfl⟩ | exact ⟨_, rfl, rfl, rfl, fun _ _ => rfl⟩ | exact ⟨_, rfl, rfl, rfl⟩ | exact ⟨_, rfl, rfl⟩ | refine ⟨_, rfl, rfl, rfl, by omega, fun k hk => ?_⟩ | refine ⟨?_, ?_⟩ | fail))
          simp only [Int.toNat_natCast]
          rw [← u8_byteI, updB]
          simp only [bytesF, shaP]
          by_cases hk2 : k = i
          · subst hk2
            rw [if_pos rfl, if_pos (Nat.lt_succ_self k)]
            rfl
          · rw [if_neg hk2]
            by_cases hk3 : k < i
            · rw [if_pos hk3, if_pos (by omega)]
            · rw [if_neg hk3, if_neg (by omega)]
        · (refine xG ?_)
          have h4' : i = 32 := xW
          subst h4'
          have hf : ∀ k, k < 32 → bytesF (shaP l 32) k = bytesF (shaB l) k := fun k hk => by simp [bytesF, shaP, hk]
          refine wD <| cutE <| loopX <| blockX <| cutG <| Tri.ent (Ent.chg0 (c := 4) (g := bytesF (shaB l)) rfl hf) <| Tri.of Tryz.mixed Tryz.T_ok ?_
          (refine xB ?_)
          (repeat (refine wN ?_ ?_; exact xW; refine xG ?_))
          exact wD (Ends.plain (.inr rfl) rfl rfl)
end Go.Proofs.YtnpkdoggfnlapaaGreatDoor
namespace Go.Proofs.YtnpkdoggfnlapaaGreatDoor
set_option maxRecDepth 100000
open Go.Sx
def rS (b h k m at_ w i9 i10 v i14 i19 : Option XV) : List (Option XV) :=
  [b, none, some (XV.sv (.ptr 1 0 0 0)), h, k, m, none, at_, w, i9, i10, none, none, v, i14, none, none, none, none, i19, none, none] ++ List.replicate 237 none
def rM (l L : List UInt8) (m : Nat) (h : Nat → Int) : Mem :=
  [(0, .ro 1 l.length (rowB l)), (1, .cells 174 ((List.replicate 32 (u8 0)).map .raw)), (2, .vec 226 1 8 (wordsF h)), (3, .vec 227 1 64 (wordsF stepW)), (4, .vec 5 1 m (rowB L))]
def rp (c : Nat) : Option XV := some (XV.sv (.ptr c 0 0 0))
def ri (i : Int) : Option XV := some (XV.int .i64 i)
def rSt1 (l L : List UInt8) (m : Nat) : St := ⟨rS (some (XV.sv (.slc 0 1 0 l.length))) (rp 2) (rp 3) (some (XV.sv (.slc 4 1 0 m))) none none none none none none none, rM l L m startW, 5⟩
def rSt2 (l L : List UInt8) (m : Nat) (i : Int) : St := ⟨[some (XV.sv (.slc 0 1 0 l.length)), none, some (XV.sv (.ptr 1 0 0 0)), rp 2, rp 3, some (XV.sv (.slc 4 1 0 m)), ri i] ++ List.replicate 252 none, rM l L m startW, 5⟩
def rMt (l : List UInt8) (t : Nat) : Mem := rM l (padL l) (64 * blocksN l) (stateH l t)
def rSt3 (l : List UInt8) (t : Nat) : St := ⟨rS none (rp 2) (rp 3) (some (XV.sv (.slc 4 1 0 (64 * blocksN l)))) (ri ((64 * t : Nat) : Int)) none none none none none none, rMt l t, 5⟩
def rSt6 (l : List UInt8) (t i : Nat) : St := ⟨rS none (rp 2) (rp 3) (some (XV.sv (.slc 4 1 0 (64 * blocksN l)))) (ri ((64 * t : Nat) : Int)) (rp 5) (ri i) none none none none, rMt l t ++ [(5, .vec 227 1 64 (wordsF (sched (blockAt l t) i)))], 6⟩
def rSt8 (l : List UInt8) (t i : Nat) : St := ⟨rS none (rp 2) (rp 3) (some (XV.sv (.slc 4 1 0 (64 * blocksN l)))) (ri ((64 * t : Nat) : Int)) (rp 5) none (ri i) none none none, rMt l t ++ [(5, .vec 227 1 64 (wordsF (sched (blockAt l t) i)))], 6⟩
def rSt10 (l : List UInt8) (t i : Nat) : St := ⟨rS none (rp 2) (rp 3) (some (XV.sv (.slc 4 1 0 (64 * blocksN l)))) (ri ((64 * t : Nat) : Int)) (rp 5) none none (rp 6) (ri i) none, rMt l t ++ [(5, .vec 227 1 64 (wordsF (sched (blockAt l t) 64))), (6, .cells 226 (vCells (stepsV (stateH l t) (blockAt l t) i)))], 7⟩
def rSt12 (l : List UInt8) (t i : Nat) : St := ⟨rS none (rp 2) (rp 3) (some (XV.sv (.slc 4 1 0 (64 * blocksN l)))) (ri ((64 * t : Nat) : Int)) none none none (rp 5) none (ri i), rM l (padL l) (64 * blocksN l) (addedW (stateH l t) (blockAt l t) i) ++ [(5, .vec 226 1 8 (wordsF (stepsV (stateH l t) (blockAt l t) 64)))], 6⟩
def rSt14 (l : List UInt8) (i : Nat) : St := ⟨[none, none, rp 1, rp 2] ++ List.replicate 16 none ++ [rp 3, ri i] ++ List.replicate 237 none,
  [(0, .ro 1 l.length (rowB l)), (1, .cells 174 ((List.replicate 32 (u8 0)).map .raw)), (2, .vec 226 1 8 (wordsF (stateH l (blocksN l)))), (3, .vec 174 1 32 (bytesF (shaP l i)))], 4⟩
set_option maxHeartbeats 8000000 in
theorem rsum_can (l : List UInt8) (hl : Short l) : Reads Tryz.prog 95 [.row 1 l.length (rowB l)] [] (.cv (.agg ((tabF (bytesF (shaB l)) 0 32).map .raw))) := by
  have hl' : l.length ≤ 1000000000 := hl
  have hZ : padZ l.length < 64 := by unfold padZ; omega
  refine Reads.of Tryz.T_ok Tryz.func95 rfl _ _ _ rfl (aggs_ok _ _) (fun C hC => ?_)
  (replace hC : C.n0 = 1 := hC; change Tri _ _ _ ⟨_, _, 1⟩ _)
  (refine Tri.cut 4 Tryz.mixed Tryz.T_ok ?_; refine xZ ?_)
  (apply wP; exact (call_op rfl (entersB_of Tryz.func150 (by kernel_rfl)) rfl (rounds_can.at [] trivial trivial)); refine xZ ?_)
  (refine wP _ _ (append_op Tryz.T_ok rfl rfl rfl rfl rfl [0] (old_nil rfl _ _ _ fun _ => []) (new_ro (lo := 0) rfl rfl (by omega) rfl) rfl (fun _ _ => rfl) (by simp only [maxLen]; omega) (by dsimp only; omega)) ?_; refine xZ ?_)
  (refine wP _ _ (append_op Tryz.T_ok rfl rfl rfl rfl rfl [9, 10] (old_vec rfl rfl (Nat.le_refl _) rfl) (new_vec (lo := 0) rfl rfl (Nat.le_refl _) rfl) rfl (lt1 rfl) (by simp only [maxLen]; omega) (by dsimp only; omega)) ?_; refine xZ ?_)
  refine wD <| cutG <| Tri.ent (Ent.arrT (c := 3) 1 8 (wordsF startW) rfl rfl rfl (fun _ _ => rfl) (by decide) rfl (by rw [hC]; decide)) <| Tri.ent (Ent.arrT (c := 6) 1 64 (wordsF stepW) rfl rfl rfl (fun _ _ => rfl) (by decide) rfl (by rw [hC]; decide)) ?_
  refine Tri.seq <| Tri.block ?_
  simp only [Nat.zero_add]
  refine Tri.loop (α := { j : Nat // j ≤ padZ l.length }) (fun j => rSt1 l (pad0 l j.1) (l.length + 1 + j.1)) (fun j => padZ l.length - j.1) ⟨0, Nat.zero_le _⟩ ?_ ?_
  · dsimp only
    ((try dsimp only); refine Ent.renC [0, 1, 3, 6, 11] hC ?_ ?_ <;> repeat' (first | exact trivial | exact rfl | exact ⟨_, rfl, rfl, rfl, Nat.le_refl _, fun _ _ => rfl⟩ | exact ⟨_, rfl, rfl, rfl, fun _ _ => rfl⟩ | exact ⟨_, rfl, rfl, rfl⟩ | exact ⟨_, rfl, rfl⟩ | refine ⟨_, rfl, rfl, rfl, by omega, fun k hk => ?_⟩ | refine ⟨?_, ?_⟩ | fail))
    rw [show pad0 l 0 = l ++ [0x80] by simp [pad0]]
    refine rowB_join (b := [0x80]) rfl (fun i hi => ?_) (lt1 rfl) hk
    exact rowB_join (a := []) rfl (fun i hi => absurd hi (Nat.not_lt_zero _)) (fun _ _ => rfl) (by simpa using hi)
  rintro ⟨j, hj⟩
  dsimp only
  (refine Tri.cut 1 Tryz.mixed Tryz.T_ok ?_; refine xZ ?_)
  refine wC (fun h1 => ?_) (fun h1 => ?_)
  · (refine xG ?_)
    have h1' : j < padZ l.length := by
      rw [rem64, decide_eq_true_eq] at h1
      rcases Nat.lt_or_ge j (padZ l.length) with h | h
      · exact h
      · have : j = padZ l.length := by omega
        subst this
        unfold padZ at h1
        omega
    refine wD <| cutG <| Tri.block <| Tri.of Tryz.mixed Tryz.T_ok ?_
    (refine xB ?_)
    (refine wP _ _ (append_op Tryz.T_ok rfl rfl rfl rfl rfl [4, 10] (old_vec rfl rfl (Nat.le_refl _) rfl) (new_vec (lo := 0) rfl rfl (Nat.le_refl _) rfl) rfl (lt1 rfl) (by simp only [maxLen]; omega) (by dsimp only; omega)) ?_; refine xZ ?_)
    refine wD <| blockN <| loopN ⟨⟨j + 1, h1'⟩, by dsimp only; omega, ?_⟩
    dsimp only
    ((try dsimp only); refine Ent.renC [0, 1, 2, 3, 11] hC ?_ ?_ <;> repeat' (first | exact trivial | exact rfl | exact ⟨_, rfl, rfl, rfl, Nat.le_refl _, fun _ _ => rfl⟩ | exact ⟨_, rfl, rfl, rfl, fun _ _ => rfl⟩ | exact ⟨_, rfl, rfl, rfl⟩ | exact ⟨_, rfl, rfl⟩ | refine ⟨_, rfl, rfl, rfl, by omega, fun k hk => ?_⟩ | refine ⟨?_, ?_⟩ | fail))
    rw [pad0_succ]
    exact rowB_snoc (pad0_length l j).symm rfl (by rw [pad0_length]; exact hk)
  · (refine xG ?_)
    have h1' : j = padZ l.length := by
      rw [rem64, decide_eq_false_iff_not, Decidable.not_not] at h1
      unfold padZ at hj ⊢
      omega
    subst h1'
    refine wD <| cutE <| loopX <| blockX <| cutG <| Tri.seq ?_
    (refine Tri.cut 1 Tryz.mixed Tryz.T_ok ?_; refine xZ ?_)
    refine wD <| cutG <| Tri.block ?_
    refine Tri.loop (α := { d : Nat // d ≤ 8 }) (fun d => rSt2 l (pad0 l (padZ l.length) ++ lensB l.length d.1) (l.length + 1 + padZ l.length + d.1) (7 - (d.1 : Int))) (fun d => 8 - d.1) ⟨0, Nat.zero_le _⟩ ?_ ?_
    · dsimp only
      ((try dsimp only); refine Ent.renC [0, 1, 2, 3, 4] hC ?_ ?_ <;> repeat' (first | exact trivial | exact rfl | exact ⟨_, rfl, rfl, rfl, Nat.le_refl _, fun _ _ => rfl⟩ | exact ⟨_, rfl, rfl, rfl, fun _ _ => rfl⟩ | exact ⟨_, rfl, rfl, rfl⟩ | exact ⟨_, rfl, rfl⟩ | refine ⟨_, rfl, rfl, rfl, by omega, fun k hk => ?_⟩ | refine ⟨?_, ?_⟩ | fail))
      simp [lensB]
    rintro ⟨d, hd⟩
    dsimp only
    (refine Tri.cut 1 Tryz.mixed Tryz.T_ok ?_; refine xZ ?_)
    refine wC (fun h2 => ?_) (fun h2 => ?_)
    · (refine xG ?_)
      have h2' : d < 8 := xW
      have e8 : IntKind.i64.wrap (8 * (7 - (d : Int))) = ((8 * (7 - d) : Nat) : Int) := xW
      have e9 : IntKind.u64.wrap ((8 * (7 - d) : Nat) : Int) = ((8 * (7 - d) : Nat) : Int) := xW
      have ew : IntKind.i64.wrap (7 - (d : Int) - 1) = 7 - ((d + 1 : Nat) : Int) := xW
      refine wD <| cutG <| Tri.seq <| Tri.block <| Tri.of Tryz.mixed Tryz.T_ok ?_
      (refine xB ?_)
      simp only [e8, e9]
      (refine wN ?_ ?_; exact xW; refine xG ?_)
      (refine wP _ _ (append_op Tryz.T_ok rfl rfl rfl rfl rfl [4, 17] (old_vec rfl rfl (Nat.le_refl _) rfl) (new_vec (lo := 0) rfl rfl (Nat.le_refl _) rfl) rfl (lt1 rfl) (by simp only [maxLen]; omega) (by dsimp only; omega)) ?_; refine xZ ?_)
      refine wD <| blockN <| cutG <| Tri.of Tryz.mixed Tryz.T_ok ?_
      (refine xB ?_)
      refine wD <| loopN ⟨⟨d + 1, h2'⟩, by dsimp only; omega, ?_⟩
      dsimp only
      rw [ew]
      ((try dsimp only); refine Ent.renC [0, 1, 2, 3, 18] hC ?_ ?_ <;> repeat' (first | exact trivial | exact rfl | exact ⟨_, rfl, rfl, rfl, Nat.le_refl _, fun _ _ => rfl⟩ | exact ⟨_, rfl, rfl, rfl, fun _ _ => rfl⟩ | exact ⟨_, rfl, rfl, rfl⟩ | exact ⟨_, rfl, rfl⟩ | refine ⟨_, rfl, rfl, rfl, by omega, fun k hk => ?_⟩ | refine ⟨?_, ?_⟩ | fail))
      rw [lensB, ← List.append_assoc]
      exact rowB_snoc (by rw [List.length_append, pad0_length, lensB_length]) (by rw [lenB, u8_byteI]; rfl) (by rw [List.length_append, pad0_length, lensB_length]; exact hk)
    · (refine xG ?_)
      have h2' : d = 8 := xW
      subst h2'
      have hlen := padL_length l
      have hbl := blocks_eq l
      have hnb : blocksN l ≤ 20000000 := by omega
      refine wD <| cutE <| loopX <| blockX <| cutG <| Tri.seq ?_
      (refine Tri.cut 1 Tryz.mixed Tryz.T_ok ?_; refine xZ ?_)
      refine wD <| cutG <| Tri.block ?_
      refine Tri.loop (α := { t : Nat // t ≤ blocksN l }) (fun t => rSt3 l t.1) (fun t => blocksN l - t.1) ⟨0, Nat.zero_le _⟩ ?_ ?_
      · dsimp only
        have e1 : l.length + 1 + padZ l.length + 8 = 64 * blocksN l := by omega
        rw [e1]
        exact Ent.ren [0, 1, 2, 3, 4] (by decide) rfl (fun i hi => by replace hi := Nat.lt_of_lt_of_eq hi hC; revert i; decide) (Nat.le_trans (Nat.le_of_eq hC) (by decide)) rfl (by repeat' (first | exact trivial | exact rfl | refine ⟨?_, ?_⟩ | fail)) (by repeat' (first | exact trivial | exact ⟨_, rfl, rfl, rfl, Nat.le_refl _, fun _ _ => rfl⟩ | exact ⟨_, rfl, rfl, rfl, fun _ _ => rfl⟩ | exact ⟨_, rfl, rfl, rfl⟩ | exact ⟨_, rfl, rfl⟩ | refine ⟨?_, ?_⟩ | fail))
      rintro ⟨t, ht⟩
      dsimp only
      (refine Tri.cut 1 Tryz.mixed Tryz.T_ok ?_; refine xZ ?_)
      refine wC (fun h3 => ?_) (fun h3 => ?_)
      · (refine xG ?_)
        have h3' : t < blocksN l := xW
        refine wD <| cutG <| Tri.seq <| Tri.block ?_
        (refine Tri.cut 1 Tryz.mixed Tryz.T_ok ?_; refine xZ ?_)
        refine wD <| cutG <| Tri.ent (Ent.arr0 (c := 9) 1 64 (u32 0) (f := wordsF (sched (blockAt l t) 0)) rfl rfl rfl (by decide) rfl (by rw [hC]; decide) (fun _ _ => rfl)) <| Tri.seq ?_
        (refine Tri.cut 1 Tryz.mixed Tryz.T_ok ?_; refine xZ ?_)
        refine wD <| cutG <| Tri.block ?_
        refine Tri.loop (α := { i : Nat // i ≤ 16 }) (fun i => rSt6 l t i.1) (fun i => 16 - i.1) ⟨0, Nat.zero_le _⟩ ?_ ?_
        · exact Ent.ren [0, 1, 2, 3, 4, 9] (by decide) rfl (fun i hi => by replace hi := Nat.lt_of_lt_of_eq hi hC; revert i; decide) (Nat.le_trans (Nat.le_of_eq hC) (by decide)) rfl (by repeat' (first | exact trivial | exact rfl | refine ⟨?_, ?_⟩ | fail)) (by repeat' (first | exact trivial | exact ⟨_, rfl, rfl, rfl, Nat.le_refl _, fun _ _ => rfl⟩ | exact ⟨_, rfl, rfl, rfl, fun _ _ => rfl⟩ | exact ⟨_, rfl, rfl, rfl⟩ | exact ⟨_, rfl, rfl⟩ | refine ⟨?_, ?_⟩ | fail))
        rintro ⟨i, hi⟩
        dsimp only
        (refine Tri.cut 1 Tryz.mixed Tryz.T_ok ?_; refine xZ ?_)
        refine wC (fun h4 => ?_) (fun h4 => ?_)
        · (refine xG ?_)
          have h4' : i < 16 := xW
          have g1 : IntKind.i64.wrap (4 * (i : Int)) = ((4 * i : Nat) : Int) := xW
          have g2 : IntKind.i64.wrap (((64 * t : Nat) : Int) + ((4 * i : Nat) : Int)) = ((64 * t + 4 * i : Nat) : Int) := xW
          have g3 : IntKind.i64.wrap (((64 * t + 4 * i : Nat) : Int) + 1) = ((64 * t + 4 * i + 1 : Nat) : Int) := xW
          have g4 : IntKind.i64.wrap (((64 * t + 4 * i : Nat) : Int) + 2) = ((64 * t + 4 * i + 2 : Nat) : Int) := xW
          have g5 : IntKind.i64.wrap (((64 * t + 4 * i : Nat) : Int) + 3) = ((64 * t + 4 * i + 3 : Nat) : Int) := xW
          refine wD <| cutG <| Tri.seq <| Tri.block <| Tri.of Tryz.mixed Tryz.T_ok ?_
          (refine xB ?_)
          simp only [g1, g2]
          (refine wN ?_ ?_; exact xW; refine xG ?_)
          (refine wN ?_ ?_; exact xW; refine xG ?_)
          simp only [g1, g2, g3]
          (refine wN ?_ ?_; exact xW; refine xG ?_)
          (refine wN ?_ ?_; exact xW; refine xG ?_)
          simp only [g1, g2, g4]
          (refine wN ?_ ?_; exact xW; refine xG ?_)
          (refine wN ?_ ?_; exact xW; refine xG ?_)
          simp only [g1, g2, g5]
          (refine wN ?_ ?_; exact xW; refine xG ?_)
          (refine wN ?_ ?_; exact xW; refine xG ?_)
          (repeat (refine wN ?_ ?_; exact xW; refine xG ?_))
          refine wD <| blockN <| cutG <| Tri.of Tryz.mixed Tryz.T_ok ?_
          (refine xB ?_)
          have hw : IntKind.i64.wrap ((i : Int) + 1) = ((i + 1 : Nat) : Int) := xW
          refine wD <| loopN ⟨⟨i + 1, h4'⟩, by dsimp only; omega, ?_⟩
          rw [hw]
          ((try dsimp only); refine Ent.renC [0, 1, 2, 3, 4, 5] hC ?_ ?_ <;> repeat' (first | exact trivial | exact rfl | exact ⟨_, rfl, rfl, rfl, Nat.le_refl _, fun _ _ => rfl⟩ | exact ⟨_, rfl, rfl, rfl, fun _ _ => rfl⟩ | exact ⟨_, rfl, rfl, rfl⟩ | exact ⟨_, rfl, rfl⟩ | refine ⟨_, rfl, rfl, rfl, by omega, fun k hk => ?_⟩ | refine ⟨?_, ?_⟩ | fail))
          simp only [Int.toNat_natCast, Nat.zero_add]
          rw [updW]
          simp only [wordsF, sched_step]
          split
          · rw [← word4_eq]; rfl
          · rfl
        · (refine xG ?_)
          have h4' : i = 16 := xW
          subst h4'
          refine wD <| cutE <| loopX <| blockX <| cutG <| Tri.seq ?_
          (refine Tri.cut 1 Tryz.mixed Tryz.T_ok ?_; refine xZ ?_)
          refine wD <| cutG <| Tri.block ?_
          refine Tri.loop (α := { i : Nat // 16 ≤ i ∧ i ≤ 64 }) (fun i => rSt8 l t i.1) (fun i => 64 - i.1) ⟨16, Nat.le_refl _, by decide⟩ ?_ ?_
          · exact Ent.ren [0, 1, 2, 3, 4, 5] (by decide) rfl (fun i hi => by replace hi := Nat.lt_of_lt_of_eq hi hC; revert i; decide) (Nat.le_trans (Nat.le_of_eq hC) (by decide)) rfl (by repeat' (first | exact trivial | exact rfl | refine ⟨?_, ?_⟩ | fail)) (by repeat' (first | exact trivial | exact ⟨_, rfl, rfl, rfl, Nat.le_refl _, fun _ _ => rfl⟩ | exact ⟨_, rfl, rfl, rfl, fun _ _ => rfl⟩ | exact ⟨_, rfl, rfl, rfl⟩ | exact ⟨_, rfl, rfl⟩ | refine ⟨?_, ?_⟩ | fail))
          rintro ⟨i, hi0, hi⟩
          dsimp only
          (refine Tri.cut 1 Tryz.mixed Tryz.T_ok ?_; refine xZ ?_)
          refine wC (fun h4 => ?_) (fun h4 => ?_)
          · (refine xG ?_)
            have h4' : i < 64 := xW
            have e15 : IntKind.i64.wrap ((i : Int) - 15) = ((i - 15 : Nat) : Int) := xW
            have e16 : IntKind.i64.wrap ((i : Int) - 16) = ((i - 16 : Nat) : Int) := xW
            have e7 : IntKind.i64.wrap ((i : Int) - 7) = ((i - 7 : Nat) : Int) := xW
            have e2 : IntKind.i64.wrap ((i : Int) - 2) = ((i - 2 : Nat) : Int) := xW
            refine wD <| cutG <| Tri.seq <| Tri.block <| Tri.of Tryz.mixed Tryz.T_ok ?_
            (refine xB ?_)
            (repeat (refine wN ?_ ?_; exact xW; refine xG ?_))
            (apply wP; exact (call_op rfl (entersB_of Tryz.func151 (by kernel_rfl)) rfl (turned_spec _ _ (by decide) _ _)); refine xZ ?_)
            (apply wP; exact (call_op rfl (entersB_of Tryz.func151 (by kernel_rfl)) rfl (turned_spec _ _ (by decide) _ _)); refine xZ ?_)
            (repeat (refine wN ?_ ?_; exact xW; refine xG ?_))
            (apply wP; exact (call_op rfl (entersB_of Tryz.func151 (by kernel_rfl)) rfl (turned_spec _ _ (by decide) _ _)); refine xZ ?_)
            (apply wP; exact (call_op rfl (entersB_of Tryz.func151 (by kernel_rfl)) rfl (turned_spec _ _ (by decide) _ _)); refine xZ ?_)
            (repeat (refine wN ?_ ?_; exact xW; refine xG ?_))
            refine wD <| blockN <| cutG <| Tri.of Tryz.mixed Tryz.T_ok ?_
            (refine xB ?_)
            have hw : IntKind.i64.wrap ((i : Int) + 1) = ((i + 1 : Nat) : Int) := xW
            refine wD <| loopN ⟨⟨i + 1, by omega, h4'⟩, by dsimp only; omega, ?_⟩
            rw [hw]
            ((try dsimp only); refine Ent.renC [0, 1, 2, 3, 4, 5] hC ?_ ?_ <;> repeat' (first | exact trivial | exact rfl | exact ⟨_, rfl, rfl, rfl, Nat.le_refl _, fun _ _ => rfl⟩ | exact ⟨_, rfl, rfl, rfl, fun _ _ => rfl⟩ | exact ⟨_, rfl, rfl, rfl⟩ | exact ⟨_, rfl, rfl⟩ | refine ⟨_, rfl, rfl, rfl, by omega, fun k hk => ?_⟩ | refine ⟨?_, ?_⟩ | fail))
            simp only [e15, e16, e7, e2, turn7, turn18, turn17, turn19, Int.toNat_natCast]
            rw [updW]
            simp only [wordsF, sched_step]
            split
            · rw [if_neg (by omega)]
              exact congrArg (fun x => [u32 x]) (mix_ref _ _ _ _)
            · rfl
          · (refine xG ?_)
            have h4' : i = 64 := xW
            subst h4'
            refine wD <| cutE <| loopX <| blockX <| cutG ?_
            (refine Tri.cut 1 Tryz.mixed Tryz.T_ok ?_; refine xZ ?_)
            (repeat (refine wN ?_ ?_; exact xW; refine xG ?_))
            refine wD <| cutG <| Tri.seq ?_
            (refine Tri.cut 1 Tryz.mixed Tryz.T_ok ?_; refine xZ ?_)
            refine wD <| cutG <| Tri.block ?_
            refine Tri.loop (α := { i : Nat // i ≤ 64 }) (fun i => rSt10 l t i.1) (fun i => 64 - i.1) ⟨0, Nat.zero_le _⟩ ?_ ?_
            · exact Ent.ren [0, 1, 2, 3, 4, 5, 9] (by decide) rfl (fun i hi => by replace hi := Nat.lt_of_lt_of_eq hi hC; revert i; decide) (Nat.le_trans (Nat.le_of_eq hC) (by decide)) rfl (by repeat' (first | exact trivial | exact rfl | refine ⟨?_, ?_⟩ | fail)) (by repeat' (first | exact trivial | exact ⟨_, rfl, rfl, rfl, Nat.le_refl _, fun _ _ => rfl⟩ | exact ⟨_, rfl, rfl, rfl, fun _ _ => rfl⟩ | exact ⟨_, rfl, rfl, rfl⟩ | exact ⟨_, rfl, rfl⟩ | refine ⟨?_, ?_⟩ | fail))
            rintro ⟨i, hi⟩
            dsimp only
            (refine Tri.cut 1 Tryz.mixed Tryz.T_ok ?_; refine xZ ?_)
            refine wC (fun h5 => ?_) (fun h5 => ?_)
            · (refine xG ?_)
              have h5' : i < 64 := xW
              refine wD <| cutG <| Tri.seq <| Tri.block <| Tri.of Tryz.mixed Tryz.T_ok ?_
              (refine xB ?_)
              (repeat (refine wN ?_ ?_; exact xW; refine xG ?_))
              (apply wP; exact (call_op rfl (entersB_of Tryz.func151 (by kernel_rfl)) rfl (turned_spec _ _ (by decide) _ _)); refine xZ ?_)
              (apply wP; exact (call_op rfl (entersB_of Tryz.func151 (by kernel_rfl)) rfl (turned_spec _ _ (by decide) _ _)); refine xZ ?_)
              (apply wP; exact (call_op rfl (entersB_of Tryz.func151 (by kernel_rfl)) rfl (turned_spec _ _ (by decide) _ _)); refine xZ ?_)
              (repeat (refine wN ?_ ?_; exact xW; refine xG ?_))
              (apply wP; exact (call_op rfl (entersB_of Tryz.func151 (by kernel_rfl)) rfl (turned_spec _ _ (by decide) _ _)); refine xZ ?_)
              (apply wP; exact (call_op rfl (entersB_of Tryz.func151 (by kernel_rfl)) rfl (turned_spec _ _ (by decide) _ _)); refine xZ ?_)
              (apply wP; exact (call_op rfl (entersB_of Tryz.func151 (by kernel_rfl)) rfl (turned_spec _ _ (by decide) _ _)); refine xZ ?_)
              (repeat (refine wN ?_ ?_; exact xW; refine xG ?_))
              refine wD <| blockN <| cutG <| Tri.of Tryz.mixed Tryz.T_ok ?_
              (refine xB ?_)
              have hw : IntKind.i64.wrap ((i : Int) + 1) = ((i + 1 : Nat) : Int) := xW
              refine wD <| loopN ⟨⟨i + 1, h5'⟩, by dsimp only; omega, ?_⟩
              rw [hw]
              simp only [turn6, turn11, turn25, turn2, turn13, turn22]
              exact Ent.ren [0, 1, 2, 3, 4, 5, 6] (by decide) rfl (fun i hi => by replace hi := Nat.lt_of_lt_of_eq hi hC; revert i; decide) (Nat.le_trans (Nat.le_of_eq hC) (by decide)) rfl (by repeat' (first | exact trivial | exact rfl | refine ⟨?_, ?_⟩ | fail)) (by repeat' (first | exact trivial | exact ⟨_, rfl, rfl, rfl, Nat.le_refl _, fun _ _ => rfl⟩ | exact ⟨_, rfl, rfl, rfl, fun _ _ => rfl⟩ | exact ⟨_, rfl, rfl, rfl⟩ | exact ⟨_, rfl, rfl⟩ | refine ⟨?_, ?_⟩ | fail))
            · (refine xG ?_)
              have h5' : i = 64 := xW
              subst h5'
              refine wD <| cutE <| loopX <| blockX <| cutG <| Tri.ent (Ent.arrT (c := 6) 1 8 (wordsF (stepsV (stateH l t) (blockAt l t) 64)) rfl rfl rfl (fun _ _ => rfl) (by decide) rfl (by rw [hC]; decide)) ?_
              (refine Tri.cut 1 Tryz.mixed Tryz.T_ok ?_; refine xZ ?_)
              refine wD <| cutG <| Tri.block ?_
              refine Tri.loop (α := { i : Nat // i ≤ 8 }) (fun i => rSt12 l t i.1) (fun i => 8 - i.1) ⟨0, Nat.zero_le _⟩ ?_ ?_
              · exact Ent.ren [0, 1, 2, 3, 4, 6] (by decide) rfl (fun i hi => by replace hi := Nat.lt_of_lt_of_eq hi hC; revert i; decide) (Nat.le_trans (Nat.le_of_eq hC) (by decide)) rfl (by repeat' (first | exact trivial | exact rfl | refine ⟨?_, ?_⟩ | fail)) (by repeat' (first | exact trivial | exact ⟨_, rfl, rfl, rfl, Nat.le_refl _, fun _ _ => rfl⟩ | exact ⟨_, rfl, rfl, rfl, fun _ _ => rfl⟩ | exact ⟨_, rfl, rfl, rfl⟩ | exact ⟨_, rfl, rfl⟩ | refine ⟨?_, ?_⟩ | fail))
              rintro ⟨j, hj⟩
              dsimp only
              (refine Tri.cut 1 Tryz.mixed Tryz.T_ok ?_; refine xZ ?_)
              refine wC (fun h6 => ?_) (fun h6 => ?_)
              · (refine xG ?_)
                have h6' : j < 8 := xW
                refine wD <| cutG <| Tri.seq <| Tri.block <| Tri.of Tryz.mixed Tryz.T_ok ?_
                (refine xB ?_)
                (repeat (refine wN ?_ ?_; exact xW; refine xG ?_))
                refine wD <| blockN <| cutG <| Tri.of Tryz.mixed Tryz.T_ok ?_
                (refine xB ?_)
                have hw : IntKind.i64.wrap ((j : Int) + 1) = ((j + 1 : Nat) : Int) := xW
                refine wD <| loopN ⟨⟨j + 1, h6'⟩, by dsimp only; omega, ?_⟩
                rw [hw]
                ((try dsimp only); refine Ent.renC [0, 1, 2, 3, 4, 5] hC ?_ ?_ <;> repeat' (first | exact trivial | exact rfl | exact ⟨_, rfl, rfl, rfl, Nat.le_refl _, fun _ _ => rfl⟩ | exact ⟨_, rfl, rfl, rfl, fun _ _ => rfl⟩ | exact ⟨_, rfl, rfl, rfl⟩ | exact ⟨_, rfl, rfl⟩ | refine ⟨_, rfl, rfl, rfl, by omega, fun k hk => ?_⟩ | refine ⟨?_, ?_⟩ | fail))
                simp only [Int.toNat_natCast]
                rw [updW]
                simp only [wordsF, addedW]
                by_cases hk2 : k = j
                · subst hk2
                  rw [if_pos rfl, if_neg (Nat.lt_irrefl k), if_pos (Nat.lt_succ_self k)]
                  rfl
                · rw [if_neg hk2]
                  by_cases hk3 : k < j
                  · rw [if_pos hk3, if_pos (by omega)]
                  · rw [if_neg hk3, if_neg (by omega)]
              · (refine xG ?_)
                have h6' : j = 8 := xW
                subst h6'
                have hf : ∀ k, k < 8 → wordsF (addedW (stateH l t) (blockAt l t) 8) k = wordsF (stateH l (t + 1)) k := fun k hk => by simp [wordsF, addedW, stateH, hk]
                refine wD <| cutE <| loopX <| blockX <| blockN <| cutG <| Tri.ent (Ent.chg0 (c := 2) (g := wordsF (stateH l (t + 1))) rfl hf) <| Tri.of Tryz.mixed Tryz.T_ok ?_
                (refine xB ?_)
                have hw : IntKind.i64.wrap (((64 * t : Nat) : Int) + 64) = ((64 * (t + 1) : Nat) : Int) := xW
                refine wD <| loopN ⟨⟨t + 1, h3'⟩, by dsimp only; omega, ?_⟩
                rw [hw]
                exact Ent.ren [0, 1, 2, 3, 4] (by decide) rfl (fun i hi => by replace hi := Nat.lt_of_lt_of_eq hi hC; revert i; decide) (Nat.le_trans (Nat.le_of_eq hC) (by decide)) rfl (by repeat' (first | exact trivial | exact rfl | refine ⟨?_, ?_⟩ | fail)) (by repeat' (first | exact trivial | exact ⟨_, rfl, rfl, rfl, Nat.le_refl _, fun _ _ => rfl⟩ | exact ⟨_, rfl, rfl, rfl, fun _ _ => rfl⟩ | exact ⟨_, rfl, rfl, rfl⟩ | exact ⟨_, rfl, rfl⟩ | refine ⟨?_, ?_⟩ | fail))
      · (refine xG ?_)
        have h3' : t = blocksN l := xW
        subst h3'
        refine wD <| cutE <| loopX <| blockX <| cutG ?_
        (refine Tri.cut 1 Tryz.mixed Tryz.T_ok ?_; refine xZ ?_)
        refine wD <| cutG <| Tri.ent (Ent.arr0 (c := 9) 1 32 (u8 0) (f := bytesF (shaP l 0)) rfl rfl rfl (by decide) rfl (by rw [hC]; decide) (fun _ _ => rfl)) <| Tri.seq ?_
        (refine Tri.cut 1 Tryz.mixed Tryz.T_ok ?_; refine xZ ?_)
        refine wD <| cutG <| Tri.block ?_
        refine Tri.loop (α := { i : Nat // i ≤ 32 }) (fun i => rSt14 l i.1) (fun i => 32 - i.1) ⟨0, Nat.zero_le _⟩ ?_ ?_
        · exact Ent.ren [0, 1, 2, 9] (by decide) rfl (fun i hi => by replace hi := Nat.lt_of_lt_of_eq hi hC; revert i; decide) (Nat.le_trans (Nat.le_of_eq hC) (by decide)) rfl (by repeat' (first | exact trivial | exact rfl | refine ⟨?_, ?_⟩ | fail)) (by repeat' (first | exact trivial | exact ⟨_, rfl, rfl, rfl, Nat.le_refl _, fun _ _ => rfl⟩ | exact ⟨_, rfl, rfl, rfl, fun _ _ => rfl⟩ | exact ⟨_, rfl, rfl, rfl⟩ | exact ⟨_, rfl, rfl⟩ | refine ⟨?_, ?_⟩ | fail))
        rintro ⟨i, hi⟩
        dsimp only
        (refine Tri.cut 1 Tryz.mixed Tryz.T_ok ?_; refine xZ ?_)
        refine wC (fun h4 => ?_) (fun h4 => ?_)
        · (refine xG ?_)
          have h4' : i < 32 := xW
          have q1 : IntKind.i64.wrap (Int.tdiv (i : Int) 4) = ((i / 4 : Nat) : Int) := by
            have : Int.tdiv (i : Int) 4 = ((i / 4 : Nat) : Int) := rfl
            rw [this]; exact xW
          have q2 : Int.tmod (i : Int) 4 = ((i % 4 : Nat) : Int) := rfl
          have q3 : IntKind.i64.wrap (8 * ((i % 4 : Nat) : Int)) = ((i % 4 * 8 : Nat) : Int) := xW
          have q4 : IntKind.i64.wrap (24 - ((i % 4 * 8 : Nat) : Int)) = ((24 - i % 4 * 8 : Nat) : Int) := xW
          have q5 : IntKind.u64.wrap ((24 - i % 4 * 8 : Nat) : Int) = ((24 - i % 4 * 8 : Nat) : Int) := xW
          refine wD <| cutG <| Tri.seq <| Tri.block <| Tri.of Tryz.mixed Tryz.T_ok ?_
          (refine xB ?_)
          simp only [q1]
          (refine wN ?_ ?_; exact xW; refine xG ?_)
          (refine wN ?_ ?_; exact xW; refine xG ?_)
          simp only [q2, q3, q4, q5]
          (repeat (refine wN ?_ ?_; exact xW; refine xG ?_))
          refine wD <| blockN <| cutG <| Tri.of Tryz.mixed Tryz.T_ok ?_
          (refine xB ?_)
          have hw : IntKind.i64.wrap ((i : Int) + 1) = ((i + 1 : Nat) : Int) := xW
          refine wD <| loopN ⟨⟨i + 1, h4'⟩, by dsimp only; omega, ?_⟩
          rw [hw]
          ((try dsimp only); refine Ent.renC [0, 1, 2, 3] hC ?_ ?_ <;> repeat' (first | exact trivial | exact rfl | exact ⟨_, rfl, rfl, rfl, Nat.le_refl _, fun _ _ => rfl⟩ | exact ⟨_, rfl, rfl, rfl, fun _ _ => rfl⟩ | exact ⟨_, rfl, rfl, rfl⟩ | exact ⟨_, rfl, rfl⟩ | refine ⟨_, rfl, rfl, rfl, by omega, fun k hk => ?_⟩ | refine ⟨?_, ?_⟩ | fail))
          simp only [Int.toNat_natCast]
          rw [← u8_byteI, updB]
          simp only [bytesF, shaP]
          by_cases hk2 : k = i
          · subst hk2
            rw [if_pos rfl, if_pos (Nat.lt_succ_self k)]
            rfl
          · rw [if_neg hk2]
            by_cases hk3 : k < i
            · rw [if_pos hk3, if_pos (by omega)]
            · rw [if_neg hk3, if_neg (by omega)]
        · (refine xG ?_)
          have h4' : i = 32 := xW
          subst h4'
          have hf : ∀ k, k < 32 → bytesF (shaP l 32) k = bytesF (shaB l) k := fun k hk => by simp [bytesF, shaP, hk]
          refine wD <| cutE <| loopX <| blockX <| cutG <| Tri.ent (Ent.chg0 (c := 3) (g := bytesF (shaB l)) rfl hf) <| Tri.of Tryz.mixed Tryz.T_ok ?_
          (refine xB ?_)
          (repeat (refine wN ?_ ?_; exact xW; refine xG ?_))
          exact wD (Ends.plain (.inr rfl) rfl rfl)
end Go.Proofs.YtnpkdoggfnlapaaGreatDoor

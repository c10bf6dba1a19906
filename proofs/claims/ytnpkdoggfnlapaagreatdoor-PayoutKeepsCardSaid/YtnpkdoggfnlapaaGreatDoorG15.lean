/- Parts Hg Ug Uh Hh Hi Hj. -/
import Derived.Test.YtnpkdoggfnlapaaGreatDoorG14
import Derived.Test.YtnpkdoggfnlapaaGreatDoorG13
import Derived.Test.YtnpkdoggfnlapaaGreatDoorG07
set_option linter.unusedSimpArgs false
set_option linter.unusedVariables false
namespace Go.Proofs.YtnpkdoggfnlapaaGreatDoor
set_option maxRecDepth 100000
open Go.Sx
def numB (n : Int) (i : Nat) : UInt8 := byteI (IntKind.u8.wrap (shrI .i64 n ((8 * i : Nat) : Int)))
def numL (n : Int) : Nat → List UInt8
  | 0 => []
  | i + 1 => numL n i ++ [numB n i]
theorem numL_length (n : Int) : ∀ i, (numL n i).length = i
  | 0 => rfl
  | i + 1 => by simp [numL, numL_length n i]
def numSt (n : Int) (w i : Nat) : St := ⟨[some (XV.int .i64 n), some (XV.int .i64 w), none, none, none, some (XV.sv (.slc 2 1 0 i)), some (XV.int .i64 i)] ++ List.replicate 15 none, [(2, .vec 5 1 i (rowB (numL n i)))], 3⟩
theorem num_can (n : Int) (w : Nat) (hw : w ≤ 8) : Makes Tryz.prog 72 [.plain (.one (.raw (.int .i64 n))), .plain (.one (.raw (.int .i64 w)))] [] (XV.sv (.slc 0 1 0 w)) (.vec 5 1 w (rowB (numL n w))) := by
  refine Makes.of Tryz.T_ok Tryz.func72 rfl _ _ _ _ rfl rfl rfl rfl 2 (fun C hC => ?_)
  (replace hC : C.n0 = 2 := hC; change Tri _ _ _ ⟨_, _, 2⟩ _)
  (refine Tri.cut 2 Tryz.mixed Tryz.T_ok ?_; refine xZ ?_)
  refine wD <| cutG <| Tri.ent (Ent.nils (t := 5) rfl 5 1) <| Tri.seq ?_
  (refine Tri.cut 1 Tryz.mixed Tryz.T_ok ?_; refine xZ ?_)
  refine wD <| cutG <| Tri.block ?_
  refine Tri.loop (α := { i : Nat // i ≤ w }) (fun i => numSt n w i.1) (fun i => w - i.1) ⟨0, Nat.zero_le _⟩ ?_ ?_
  · ((try dsimp only); refine Ent.renC [0, 1, 4] hC ?_ ?_ <;> repeat' (first | exact trivial | exact rfl | exact ⟨_, rfl, rfl, rfl, Nat.le_refl _, fun _ _ => rfl⟩ | exact ⟨_, rfl, rfl, rfl, fun _ _ => rfl⟩ | exact ⟨_, rfl, rfl, rfl⟩ | exact ⟨_, rfl, rfl⟩ | refine ⟨_, rfl, rfl, rfl, by omega, fun k hk => ?_⟩ | refine ⟨?_, ?_⟩ | fail))
    exact absurd hk (Nat.not_lt_zero _)
  rintro ⟨i, hi⟩
  dsimp only
  (refine Tri.cut 1 Tryz.mixed Tryz.T_ok ?_; refine xZ ?_)
  refine wC (fun h1 => ?_) (fun h1 => ?_)
  · (refine xG ?_)
    have h1' : i < w := xW
    have e1 : IntKind.i64.wrap (8 * (i : Int)) = ((8 * i : Nat) : Int) := xW
    have e2 : IntKind.u64.wrap ((8 * i : Nat) : Int) = ((8 * i : Nat) : Int) := xW
    refine wD <| cutG <| Tri.seq <| Tri.block <| Tri.of Tryz.mixed Tryz.T_ok ?_
    (refine xB ?_)
    simp only [e1, e2]
    (refine wN ?_ ?_; exact xW; refine xG ?_)
    (refine wP _ _ (append_op Tryz.T_ok rfl rfl rfl rfl rfl [2, 13] (old_vec rfl rfl (Nat.le_refl _) rfl) (new_vec (lo := 0) rfl rfl (Nat.le_refl _) rfl) rfl (lt1 rfl) (by simp only [maxLen]; omega) (by dsimp only; omega)) ?_; refine xZ ?_)
    refine wD <| blockN <| cutG <| Tri.of Tryz.mixed Tryz.T_ok ?_
    (refine xB ?_)
    have hw : IntKind.i64.wrap ((i : Int) + 1) = ((i + 1 : Nat) : Int) := xW
    refine wD <| loopN ⟨⟨i + 1, h1'⟩, by dsimp only; omega, ?_⟩
    rw [hw]
    ((try dsimp only); refine Ent.renC [0, 1, 14] hC ?_ ?_ <;> repeat' (first | exact trivial | exact rfl | exact ⟨_, rfl, rfl, rfl, Nat.le_refl _, fun _ _ => rfl⟩ | exact ⟨_, rfl, rfl, rfl, fun _ _ => rfl⟩ | exact ⟨_, rfl, rfl, rfl⟩ | exact ⟨_, rfl, rfl⟩ | refine ⟨_, rfl, rfl, rfl, by omega, fun k hk => ?_⟩ | refine ⟨?_, ?_⟩ | fail))
    exact rowB_snoc (a := numL n i) (x := numB n i) (numL_length n i).symm (by rw [numB, u8_byteI]; rfl) (by rw [numL_length]; exact hk)
  · (refine xG ?_)
    have h1' : i = w := xW
    subst h1'
    refine wD <| cutE <| loopX <| blockX <| cutG <| Tri.of Tryz.mixed Tryz.T_ok ?_
    (refine xB ?_)
    exact wD (Ends.made (.inr rfl) (Ent.refl _) rfl (Nat.le_refl _) rfl)
def encN (p : UInt8) (bss : List (List UInt8)) : Nat → List UInt8
  | 0 => [p]
  | i + 1 => encN p bss i ++ numL ((bss.getD i []).length : Int) 4 ++ bss.getD i []
theorem encN_length (p : UInt8) (bss : List (List UInt8)) (i : Nat) : (encN p bss (i + 1)).length = (encN p bss i).length + 4 + (bss.getD i []).length := by simp only [encN, List.length_append, numL_length]
theorem encN_le (p : UInt8) (bss : List (List UInt8)) {i j : Nat} (h : i ≤ j) : (encN p bss i).length ≤ (encN p bss j).length := by
  induction j with
  | zero => obtain rfl : i = 0 := by omega
            exact Nat.le_refl _
  | succ j ih =>
    by_cases hij : i = j + 1
    · subst hij; exact Nat.le_refl _
    · have := ih (by omega)
      rw [encN_length]; omega
def encAll (p : UInt8) (bss : List (List UInt8)) : List UInt8 := encN p bss bss.length
def dig (p : UInt8) (bss : List (List UInt8)) : H8 :=
  let s := shaB (encAll p bss)
  ⟨s 0, s 1, s 2, s 3, s 4, s 5, s 6, s 7⟩
def partsA (bss : List (List UInt8)) : AD := .rows 1 bss.length (fun i => (bss.getD i []).length) (fun i => rowB (bss.getD i []))
def ofSt (p : UInt8) (bss : List (List UInt8)) (ad : Nat → Option Addr) (cp : Nat → Nat) (i : Nat) : St :=
  ⟨[none, none, none, none, some (XV.sv (.ptr 4 0 0 0)), some (XV.sv (.slc 5 1 0 (encN p bss i).length)), none, none, none, none, none, none, none, some (XV.sv (.slc 1 1 0 bss.length)), some (XV.int .i64 bss.length), some (XV.int .i64 i)] ++ List.replicate 28 none,
   [(1, .ro 1 bss.length fun i => [.slice (ad i) (bss.getD i []).length (cp i)]), (2, .ext stepsP), (3, .ext (PartsAt 1 bss.length (fun i => (bss.getD i []).length) (fun i => rowB (bss.getD i [])) ad)), (4, .cells 29 ((List.replicate 8 (u8 0)).map .raw)), (5, .vec 5 1 (encN p bss i).length (rowB (encN p bss i)))], 6⟩
theorem le4_row (n : Nat) (x0 x1 x2 x3 : Value) (h0 : x0 = u8 (numB n 0)) (h1 : x1 = u8 (numB n 1)) (h2 : x2 = u8 (numB n 2)) (h3 : x3 = u8 (numB n 3)) : ∀ i, i < (numL (n : Int) 4).length → cutF [x0, x1, x2, x3] 1 (0 + i) = rowB (numL (n : Int) 4) i := by
  subst h0 h1 h2 h3
  intro i hi
  rw [numL_length] at hi
  match i, hi with
  | 0, _ => rfl
  | 1, _ => rfl
  | 2, _ => rfl
  | 3, _ => rfl
theorem shr0 (n : Int) : shrI .i64 n 0 = n := by simp [shrI]
set_option maxHeartbeats 4000000 in
theorem of_can (p : UInt8) (bss : List (List UInt8)) (hl : Short (encAll p bss)) : Reads Tryz.prog 146 [.plain (.one (.raw (u8 p))), partsA bss] [stepsP] (.cv (.agg ((dig p bss).cells.map .raw))) := by
  have hl' : (encN p bss bss.length).length ≤ 1000000000 := hl
  refine Reads.of Tryz.T_ok Tryz.func146 rfl _ _ _ rfl (aggs_ok _ _) (fun C hC => ?_)
  (replace hC : C.n0 = 3 := hC; change Tri _ _ _ ⟨_, _, 3⟩ _)
  refine Tri.openRows (c := 1) rfl (fun ad cp => ?_)
  (refine Tri.cut 2 Tryz.mixed Tryz.T_ok ?_; refine xZ ?_)
  refine wD <| cutG <| Tri.seq ?_
  (refine Tri.cut 1 Tryz.mixed Tryz.T_ok ?_; refine xZ ?_)
  refine wD <| cutG <| Tri.block ?_
  have hbs : bss.length ≤ 1000000000 := by
    have : ∀ j, j ≤ (encN p bss j).length := by
      intro j
      induction j with
      | zero => exact Nat.zero_le _
      | succ j ih => rw [encN_length]; omega
    exact Nat.le_trans (this _) hl'
  refine Tri.loop (α := { i : Nat // i ≤ bss.length }) (fun i => ofSt p bss ad cp i.1) (fun i => bss.length - i.1) ⟨0, Nat.zero_le _⟩ ?_ ?_
  · dsimp only
    rw [ofSt, show (encN p bss 0).length = 1 from rfl]
    ((try dsimp only); refine Ent.renC [0, 1, 2, 3, 4, 6] hC ?_ ?_ <;> repeat' (first | exact trivial | exact rfl | exact ⟨_, rfl, rfl, rfl, Nat.le_refl _, fun _ _ => rfl⟩ | exact ⟨_, rfl, rfl, rfl, fun _ _ => rfl⟩ | exact ⟨_, rfl, rfl, rfl⟩ | exact ⟨_, rfl, rfl⟩ | refine ⟨_, rfl, rfl, rfl, by omega, fun k hk => ?_⟩ | refine ⟨?_, ?_⟩ | fail))
    exact lt1 (P := fun k => cutF [u8 p] 1 k = rowB [p] k) rfl k hk
  rintro ⟨i, hi⟩
  dsimp only
  (refine Tri.cut 2 Tryz.mixed Tryz.T_ok ?_; refine xZ ?_)
  refine wC (fun h1 => ?_) (fun h1 => ?_)
  · (refine xG ?_)
    have h1' : i < bss.length := xW
    have hle : (encN p bss (i + 1)).length ≤ 1000000000 := Nat.le_trans (encN_le p bss h1') hl'
    rw [encN_length] at hle
    refine wD <| cutG <| Tri.seq <| Tri.block <| Tri.of Tryz.mixed Tryz.T_ok ?_
    (refine xB ?_)
    (repeat (refine wN ?_ ?_; exact xW; refine xG ?_))
    have ei : 0 + ((i : Int)).toNat = i := by omega
    rw [ei]
    (refine wP _ _ (append_op Tryz.T_ok rfl rfl rfl rfl rfl [5, 25] (old_vec rfl rfl (Nat.le_refl _) rfl) (new_vec (lo := 0) rfl rfl (Nat.le_refl _) rfl) rfl (fun i hi => by rcases (by omega : i = 0 ∨ i = 1 ∨ i = 2 ∨ i = 3) with rfl | rfl | rfl | rfl <;> rfl) (by simp only [maxLen]; omega) (by dsimp only; omega)) ?_; refine xZ ?_)
    (refine wP _ _ (append_op Tryz.T_ok rfl rfl rfl rfl rfl [26, 3] (old_vec rfl rfl (Nat.le_refl _) rfl) (new_part (q := 3) (i := i) rfl rfl rfl h1') rfl (fun _ _ => rfl) (by simp only [maxLen]; omega) (by dsimp only; omega)) ?_; refine xZ ?_)
    refine wD <| blockN <| cutG <| Tri.of Tryz.mixed Tryz.T_ok ?_
    (refine xB ?_)
    have hw : IntKind.i64.wrap ((i : Int) + 1) = ((i + 1 : Nat) : Int) := xW
    refine wD <| loopN ⟨⟨i + 1, h1'⟩, by dsimp only; omega, ?_⟩
    rw [hw]
    dsimp only
    rw [ofSt, encN_length]
    ((try dsimp only); refine Ent.renC [0, 1, 2, 3, 4, 28] hC ?_ ?_ <;> repeat' (first | exact trivial | exact rfl | exact ⟨_, rfl, rfl, rfl, Nat.le_refl _, fun _ _ => rfl⟩ | exact ⟨_, rfl, rfl, rfl, fun _ _ => rfl⟩ | exact ⟨_, rfl, rfl, rfl⟩ | exact ⟨_, rfl, rfl⟩ | refine ⟨_, rfl, rfl, rfl, by omega, fun k hk => ?_⟩ | refine ⟨?_, ?_⟩ | fail))
    refine rowB_join (a := encN p bss i ++ numL ((bss.getD i []).length : Int) 4) (b := bss.getD i []) (by rw [List.length_append, numL_length]) (fun i' hi' => ?_) (fun _ _ => rfl) (by rw [List.length_append, numL_length]; exact hk)
    refine rowB_join (b := numL ((bss.getD i []).length : Int) 4) rfl (fun _ _ => rfl) (le4_row _ _ _ _ _ ?_ ?_ ?_ ?_) (by rw [← List.length_append]; exact hi')
    · rw [numB, u8_byteI, show ((8 * 0 : Nat) : Int) = 0 from rfl, shr0]
    · rw [numB, u8_byteI]; rfl
    · rw [numB, u8_byteI]; rfl
    · rw [numB, u8_byteI]; rfl
  · (refine xG ?_)
    have h1' : i = bss.length := xW
    subst h1'
    refine wD <| cutE <| loopX <| blockX <| cutG ?_
    (refine Tri.cut 1 Tryz.mixed Tryz.T_ok ?_; refine xZ ?_)
    (apply wP; exact (call_op rfl (entersB_of Tryz.func181 (by kernel_rfl)) rfl ((sum_can (encAll p bss) hl).at [5, 2] ⟨lend_vec rfl rfl (Nat.le_of_eq (Nat.zero_add _)) (fun i _ => by rw [Nat.zero_add]; rfl), trivial⟩ ⟨lend_ext (c := 2) rfl rfl, trivial⟩)); refine xZ ?_)
    refine wD <| cutG ?_
    (refine Tri.cut 1 Tryz.mixed Tryz.T_ok ?_; refine xZ ?_)
    refine wD <| cutG ?_
    (refine Tri.cut 1 Tryz.mixed Tryz.T_ok ?_; refine xZ ?_)
    (refine wP _ _ (copy_op Tryz.T_ok (k := 32) (m := 8) (g := bytesF (shaB (encAll p bss))) [11, 9] rfl rfl rfl rfl rfl (by decide) rfl rfl (new_sla rfl rfl rfl (fun _ _ => rfl) rfl) rfl (by decide) (Nat.le_of_ble_eq_true rfl) (fun _ _ => rfl) rfl) ?_; refine xZ ?_)
    refine wD <| cutG <| Tri.of Tryz.mixed Tryz.T_ok ?_
    (refine xB ?_)
    exact wD (Ends.plain (.inr rfl) rfl rfl)
def dgSt (p : UInt8) (bss : List (List UInt8)) (ad : Nat → Option Addr) (cp : Nat → Nat) (i : Nat) : St :=
  ⟨[none, some (XV.sv (.slc 1 1 0 bss.length)), none, none, some (XV.sv (.ptr 3 0 0 0)), some (XV.sv (.slc 4 1 0 (encN p bss i).length)), some (XV.int .i64 i)] ++ List.replicate 29 none,
   [(1, .ro 1 bss.length fun i => [.slice (ad i) (bss.getD i []).length (cp i)]), (2, .ext (PartsAt 1 bss.length (fun i => (bss.getD i []).length) (fun i => rowB (bss.getD i [])) ad)), (3, .cells 29 ((List.replicate 8 (u8 0)).map .raw)), (4, .vec 5 1 (encN p bss i).length (rowB (encN p bss i)))], 5⟩
set_option maxHeartbeats 4000000 in
theorem digest_can (p : UInt8) (bss : List (List UInt8)) (hl : Short (encAll p bss)) : Reads Tryz.prog 45 [.plain (.one (.raw (u8 p))), partsA bss] [] (.cv (.agg ((dig p bss).cells.map .raw))) := by
  have hl' : (encN p bss bss.length).length ≤ 1000000000 := hl
  refine Reads.of Tryz.T_ok Tryz.func45 rfl _ _ _ rfl (aggs_ok _ _) (fun C hC => ?_)
  (replace hC : C.n0 = 2 := hC; change Tri _ _ _ ⟨_, _, 2⟩ _)
  refine Tri.openRows (c := 1) rfl (fun ad cp => ?_)
  (refine Tri.cut 2 Tryz.mixed Tryz.T_ok ?_; refine xZ ?_)
  refine wD <| cutG <| Tri.seq ?_
  (refine Tri.cut 1 Tryz.mixed Tryz.T_ok ?_; refine xZ ?_)
  refine wD <| cutG <| Tri.block ?_
  have hbs : bss.length ≤ 1000000000 := by
    have : ∀ j, j ≤ (encN p bss j).length := by
      intro j
      induction j with
      | zero => exact Nat.zero_le _
      | succ j ih => rw [encN_length]; omega
    exact Nat.le_trans (this _) hl'
  refine Tri.loop (α := { i : Nat // i ≤ bss.length }) (fun i => dgSt p bss ad cp i.1) (fun i => bss.length - i.1) ⟨0, Nat.zero_le _⟩ ?_ ?_
  · dsimp only
    rw [dgSt, show (encN p bss 0).length = 1 from rfl]
    ((try dsimp only); refine Ent.renC [0, 1, 2, 3, 5] hC ?_ ?_ <;> repeat' (first | exact trivial | exact rfl | exact ⟨_, rfl, rfl, rfl, Nat.le_refl _, fun _ _ => rfl⟩ | exact ⟨_, rfl, rfl, rfl, fun _ _ => rfl⟩ | exact ⟨_, rfl, rfl, rfl⟩ | exact ⟨_, rfl, rfl⟩ | refine ⟨_, rfl, rfl, rfl, by omega, fun k hk => ?_⟩ | refine ⟨?_, ?_⟩ | fail))
    exact lt1 (P := fun k => cutF [u8 p] 1 k = rowB [p] k) rfl k hk
  rintro ⟨i, hi⟩
  dsimp only
  (refine Tri.cut 1 Tryz.mixed Tryz.T_ok ?_; refine xZ ?_)
  refine wC (fun h1 => ?_) (fun h1 => ?_)
  · (refine xG ?_)
    have h1' : i < bss.length := xW
    have hle : (encN p bss (i + 1)).length ≤ 1000000000 := Nat.le_trans (encN_le p bss h1') hl'
    rw [encN_length] at hle
    refine wD <| cutG <| Tri.seq <| Tri.block <| Tri.of Tryz.mixed Tryz.T_ok ?_
    (refine xB ?_)
    (repeat (refine wN ?_ ?_; exact xW; refine xG ?_))
    have ei : 0 + ((i : Int)).toNat = i := by omega
    rw [ei]
    (apply wP; exact (call_op rfl (entersB_of Tryz.func72 (by kernel_rfl)) rfl ((num_can _ 4 (by decide)).at [] ⟨lend_plain rfl, lend_plain rfl, trivial⟩ trivial)); refine xZ ?_)
    (refine wP _ _ (append_op Tryz.T_ok rfl rfl rfl rfl rfl [4, 15] (old_vec rfl rfl (Nat.le_refl _) rfl) (new_vec (lo := 0) rfl rfl (Nat.le_refl _) rfl) rfl (fun i hi => by rcases (by omega : i = 0 ∨ i = 1 ∨ i = 2 ∨ i = 3) with rfl | rfl | rfl | rfl <;> rfl) (by simp only [maxLen]; omega) (by dsimp only; omega)) ?_; refine xZ ?_)
    (repeat (refine wN ?_ ?_; exact xW; refine xG ?_))
    rw [ei]
    (refine wP _ _ (append_op Tryz.T_ok rfl rfl rfl rfl rfl [16, 2] (old_vec rfl rfl (Nat.le_refl _) rfl) (new_part (q := 2) (i := i) rfl rfl rfl h1') rfl (fun _ _ => rfl) (by simp only [maxLen]; omega) (by dsimp only; omega)) ?_; refine xZ ?_)
    refine wD <| blockN <| cutG <| Tri.of Tryz.mixed Tryz.T_ok ?_
    (refine xB ?_)
    have hw : IntKind.i64.wrap ((i : Int) + 1) = ((i + 1 : Nat) : Int) := xW
    refine wD <| loopN ⟨⟨i + 1, h1'⟩, by dsimp only; omega, ?_⟩
    rw [hw]
    dsimp only
    rw [dgSt, encN_length]
    ((try dsimp only); refine Ent.renC [0, 1, 2, 3, 21] hC ?_ ?_ <;> repeat' (first | exact trivial | exact rfl | exact ⟨_, rfl, rfl, rfl, Nat.le_refl _, fun _ _ => rfl⟩ | exact ⟨_, rfl, rfl, rfl, fun _ _ => rfl⟩ | exact ⟨_, rfl, rfl, rfl⟩ | exact ⟨_, rfl, rfl⟩ | refine ⟨_, rfl, rfl, rfl, by omega, fun k hk => ?_⟩ | refine ⟨?_, ?_⟩ | fail))
    refine rowB_join (a := encN p bss i ++ numL ((bss.getD i []).length : Int) 4) (b := bss.getD i []) (by rw [List.length_append, numL_length]) (fun i' hi' => ?_) (fun _ _ => rfl) (by rw [List.length_append, numL_length]; exact hk)
    exact rowB_join (b := numL ((bss.getD i []).length : Int) 4) rfl (fun _ _ => rfl) (fun j _ => by rw [Nat.zero_add]) (by rw [← List.length_append]; exact hi')
  · (refine xG ?_)
    have h1' : i = bss.length := xW
    subst h1'
    refine wD <| cutE <| loopX <| blockX <| cutG ?_
    (refine Tri.cut 1 Tryz.mixed Tryz.T_ok ?_; refine xZ ?_)
    (apply wP; exact (call_op rfl (entersB_of Tryz.func95 (by kernel_rfl)) rfl ((rsum_can (encAll p bss) hl).at [4] ⟨lend_vec rfl rfl (Nat.le_of_eq (Nat.zero_add _)) (fun i _ => by rw [Nat.zero_add]; rfl), trivial⟩ trivial)); refine xZ ?_)
    refine wD <| cutG ?_
    (refine Tri.cut 1 Tryz.mixed Tryz.T_ok ?_; refine xZ ?_)
    refine wD <| cutG ?_
    (refine Tri.cut 1 Tryz.mixed Tryz.T_ok ?_; refine xZ ?_)
    (repeat (refine wN ?_ ?_; exact xW; refine xG ?_))
    (refine wP _ _ (copy_op Tryz.T_ok (k := 8) (m := 8) (g := bytesF (shaB (encAll p bss))) [13, 11] rfl rfl rfl rfl rfl (by decide) rfl rfl (new_sla rfl rfl rfl (fun _ _ => rfl) rfl) rfl (by decide) (Nat.le_of_ble_eq_true rfl) (fun _ _ => rfl) rfl) ?_; refine xZ ?_)
    refine wD <| cutG <| Tri.of Tryz.mixed Tryz.T_ok ?_
    (refine xB ?_)
    exact wD (Ends.plain (.inr rfl) rfl rfl)
end Go.Proofs.YtnpkdoggfnlapaaGreatDoor
namespace Go.Proofs.YtnpkdoggfnlapaaGreatDoor
set_option maxRecDepth 100000
open Go.Sx
abbrev H8.cv (h : H8) : CV := .agg (h.cells.map .raw)
def H8.l (h : H8) : List UInt8 := [h.b0, h.b1, h.b2, h.b3, h.b4, h.b5, h.b6, h.b7]
def ltL : List UInt8 → List UInt8 → Bool
  | x :: xs, y :: ys => if x = y then ltL xs ys else decide (x < y)
  | _, _ => false
end Go.Proofs.YtnpkdoggfnlapaaGreatDoor
namespace Go.Proofs.YtnpkdoggfnlapaaGreatDoor
set_option maxRecDepth 100000
open Go.Sx
theorem fitU (x : UInt8) : (Kd.int .u8).fits (u8 x) := ⟨_, rfl, u8_wf x⟩
def H8.v (h : H8) : Value := .agg h.cells.toArray
theorem H8.inj (a b : H8) (h : a.v = b.v) : a = b := by
  have h : a.cells = b.cells := by
    have := congrArg (fun v => v.cells.toList) h
    simpa [H8.v, Value.cells] using this
  obtain ⟨_, _, _, _, _, _, _, _⟩ := a
  obtain ⟨_, _, _, _, _, _, _, _⟩ := b
  simp only [H8.cells, List.cons.injEq] at h
  obtain ⟨h0, h1, h2, h3, h4, h5, h6, h7, _⟩ := h
  rw [u8_inj h0, u8_inj h1, u8_inj h2, u8_inj h3, u8_inj h4, u8_inj h5, u8_inj h6, u8_inj h7]
theorem bool_inj {a b : Bool} (h : Value.bool a = Value.bool b) : a = b := by cases h; rfl
theorem Coin.inj (a b : Coin) (h : a.v = b.v) : a = b := by
  have h : a.cells = b.cells := by
    have := congrArg (fun v => v.cells.toList) h
    simpa [Coin.v, Value.cells] using this
  obtain ⟨⟨_, _, _, _, _, _, _, _⟩, _, _, _⟩ := a
  obtain ⟨⟨_, _, _, _, _, _, _, _⟩, _, _, _⟩ := b
  simp only [Coin.cells, List.cons.injEq] at h
  obtain ⟨h0, h1, h2, h3, h4, h5, h6, h7, h8, h9, h10, _⟩ := h
  rw [u8_inj h0, u8_inj h1, u8_inj h2, u8_inj h3, u8_inj h4, u8_inj h5, u8_inj h6, u8_inj h7, i64_inj h8, i64_inj h9, bool_inj h10]
def hashKinds : List Kd := [.int .u8, .int .u8, .int .u8, .int .u8, .int .u8, .int .u8, .int .u8, .int .u8]
theorem hash_fits (h : H8) : Fits hashKinds h.cells :=
  ⟨_, _, rfl, fitU _, _, _, rfl, fitU _, _, _, rfl, fitU _, _, _, rfl, fitU _, _, _, rfl, fitU _, _, _, rfl, fitU _, _, _, rfl, fitU _, _, _, rfl, fitU _, rfl⟩
theorem hash_row : (29 : TypeId) < Tryz.prog.types.size := of_decide_eq_true (by kernel_rfl)
theorem hash_deep : Tryz.prog.keyTypeAt 3 29 = true := by kernel_rfl
theorem hash_deep8 : Tryz.prog.keyTypeAt 8 29 = true := by kernel_rfl
theorem hash_keyT : Tryz.prog.keyType 29 = true := by kernel_rfl
theorem hash_law : WideMaps.KeyLaw Tryz.prog 29 := deep_law_laid laid (m := 3) (by omega) hash_row hash_deep (by rw [Tryz.underlying29])
theorem types_many : 8 ≤ Tryz.prog.types.size + 1 := of_decide_eq_true (by kernel_rfl)
theorem hash_cells : hashKinds.length = Tryz.prog.cellsOf 29 := by kernel_rfl
theorem hash_key (h : H8) : ∃ l, keyOf Tryz.prog 29 h.v = some l := keyOf_fits Tryz.T_ok (f := 8) (ks := hashKinds) rfl hash_deep8 hash_keyT types_many (by rw [Tryz.underlying29]) (hash_fits h) hash_cells
theorem hash_noguard : Tryz.prog.eqGuardType Tryz.prog.depth 29 = false := by kernel_rfl
theorem hashE : EqK Tryz.prog 29 H8.v := EqK.of (m := 3) hash_law (by omega) hash_deep (by rw [Tryz.underlying29]) hash_key H8.inj hash_noguard (fun a => ⟨_, rfl⟩)
def ltPt (a b : Pt) : Bool := ltL a.tx.l b.tx.l || (decide (a.tx = b.tx) && decide (a.no.toInt < b.no.toInt))
end Go.Proofs.YtnpkdoggfnlapaaGreatDoor
namespace Go.Proofs.YtnpkdoggfnlapaaGreatDoor
set_option maxRecDepth 100000
open Go.Sx
def rowsL (bss : List (List UInt8)) : List (Nat × (Nat → List Value)) := bss.map fun b => (b.length, rowB b)
theorem lend_parts {M : Mem} {rd : List Nat} {c e : Nat} {cs : List SV} (bss : List (List UInt8)) (hm : M.get c = some (.cells e cs)) (hrd : nmem c rd = true) (hn : cs.length = bss.length) (ha : AllRows M rd 1 cs (rowsL bss)) : Lends M rd (.one (.slc c 1 0 bss.length)) (partsA bss) := by
  refine lend_rows (rowsL bss) hm hrd hn ha (fun i x hx => ?_)
  rw [rowsL, List.getElem?_map] at hx
  cases hb : bss[i]? with
  | none => rw [hb] at hx; cases hx
  | some b =>
    rw [hb] at hx
    simp only [Option.map_some, Option.some.injEq] at hx
    subst hx
    simp [List.getD_eq_getElem?_getD, hb]
theorem lend_vecN {M : Mem} {rd : List Nat} {c e sz n lo k k' : Nat} {f g : Nat → List Value} (hkk : k' = k) (hm : M.get c = some (.vec e sz n f)) (hrd : nmem c rd = true) (hk : lo + k ≤ n) (hg : ∀ i, i < k → g i = f (lo + i)) : Lends M rd (.one (.slc c sz lo k')) (.row sz k g) := by
  subst hkk; exact lend_vec hm hrd hk hg
theorem H8.l_len (h : H8) : h.l.length = 8 := rfl
theorem short1 (p : UInt8) (a : List UInt8) (h : a.length ≤ 900000000) : Short (encAll p [a]) := by
  show (encN p [a] 1).length ≤ _
  rw [encN_length]
  show [p].length + 4 + a.length ≤ _
  simp; omega
theorem short2 (p : UInt8) (a b : List UInt8) (h : a.length + b.length ≤ 900000000) : Short (encAll p [a, b]) := by
  show (encN p [a, b] 2).length ≤ _
  rw [encN_length, encN_length]
  show [p].length + 4 + a.length + 4 + b.length ≤ _
  simp; omega
def leafH (h : H8) : H8 := dig 108 [h.l]
def joinH (a b : H8) : H8 := dig 109 [a.l, b.l]
def markH (h : H8) : H8 := dig 112 [h.l]
abbrev H8.x (h : H8) : CV := .agg (h.cells.map .raw)
def hashX (h : H8) : XV := .cv h.x
theorem ptwo_can (p : UInt8) (a b : H8) : Reads Tryz.prog 180 [.plain (.one (.raw (u8 p))), .plain a.x, .plain b.x] [stepsP] (hashX (dig p [a.l, b.l])) := by
  refine Reads.of Tryz.T_ok Tryz.func180 rfl _ _ _ rfl rfl (fun C hC => ?_)
  (replace hC : C.n0 = 4 := hC; change Tri _ _ _ ⟨_, _, 4⟩ _)
  refine Tri.of Tryz.mixed Tryz.T_ok ?_
  (refine xB ?_)
  (refine wP _ _ (cellsNew_op Tryz.T_ok rfl rfl rfl) ?_; refine xZ ?_)
  (apply wP; exact (call_op rfl (entersB_of Tryz.func146 (by kernel_rfl)) rfl ((of_can p [a.l, b.l] (short2 _ _ _ (by simp [H8.l_len]))).at [10, 4, 5, 3] ⟨lend_plain rfl, lend_parts [a.l, b.l] rfl rfl rfl ⟨lend_sla rfl rfl (fun _ _ => rfl) rfl, lend_sla rfl rfl (fun _ _ => rfl) rfl, trivial⟩, trivial⟩ ⟨lend_ext (c := 3) rfl rfl, trivial⟩)); refine xZ ?_)
  exact wD (Ends.plain (.inr rfl) rfl rfl)
theorem rtwo_can (p : UInt8) (a b : H8) : Reads Tryz.prog 182 [.plain (.one (.raw (u8 p))), .plain a.x, .plain b.x] [] (hashX (dig p [a.l, b.l])) := by
  refine Reads.of Tryz.T_ok Tryz.func182 rfl _ _ _ rfl rfl (fun C hC => ?_)
  (replace hC : C.n0 = 3 := hC; change Tri _ _ _ ⟨_, _, 3⟩ _)
  refine Tri.of Tryz.mixed Tryz.T_ok ?_
  (refine xB ?_)
  (refine wP _ _ (cellsNew_op Tryz.T_ok rfl rfl rfl) ?_; refine xZ ?_)
  (apply wP; exact (call_op rfl (entersB_of Tryz.func45 (by kernel_rfl)) rfl ((digest_can p [a.l, b.l] (short2 _ _ _ (by simp [H8.l_len]))).at [9, 3, 4] ⟨lend_plain rfl, lend_parts [a.l, b.l] rfl rfl rfl ⟨lend_sla rfl rfl (fun _ _ => rfl) rfl, lend_sla rfl rfl (fun _ _ => rfl) rfl, trivial⟩, trivial⟩ trivial)); refine xZ ?_)
  exact wD (Ends.plain (.inr rfl) rfl rfl)
theorem leaf_can (a : H8) : Reads Tryz.prog 234 [.plain a.x] [stepsP] (hashX (leafH a)) := by
  refine Reads.of Tryz.T_ok Tryz.func234 rfl _ _ _ rfl rfl (fun C hC => ?_)
  (replace hC : C.n0 = 2 := hC; change Tri _ _ _ ⟨_, _, 2⟩ _)
  refine Tri.of Tryz.mixed Tryz.T_ok ?_
  (refine xB ?_)
  (refine wP _ _ (cellsNew_op Tryz.T_ok rfl rfl rfl) ?_; refine xZ ?_)
  (apply wP; exact (call_op rfl (entersB_of Tryz.func146 (by kernel_rfl)) rfl ((of_can 108 [a.l] (short1 _ _ (by simp [H8.l_len]))).at [5, 2, 1] ⟨lend_plain rfl, lend_parts [a.l] rfl rfl rfl ⟨lend_sla rfl rfl (fun _ _ => rfl) rfl, trivial⟩, trivial⟩ ⟨lend_ext (c := 1) rfl rfl, trivial⟩)); refine xZ ?_)
  exact wD (Ends.plain (.inr rfl) rfl rfl)
theorem mark_can (a : H8) : Reads Tryz.prog 237 [.plain a.x] [stepsP] (hashX (markH a)) := by
  refine Reads.of Tryz.T_ok Tryz.func237 rfl _ _ _ rfl rfl (fun C hC => ?_)
  (replace hC : C.n0 = 2 := hC; change Tri _ _ _ ⟨_, _, 2⟩ _)
  refine Tri.of Tryz.mixed Tryz.T_ok ?_
  (refine xB ?_)
  (refine wP _ _ (cellsNew_op Tryz.T_ok rfl rfl rfl) ?_; refine xZ ?_)
  (apply wP; exact (call_op rfl (entersB_of Tryz.func146 (by kernel_rfl)) rfl ((of_can 112 [a.l] (short1 _ _ (by simp [H8.l_len]))).at [5, 2, 1] ⟨lend_plain rfl, lend_parts [a.l] rfl rfl rfl ⟨lend_sla rfl rfl (fun _ _ => rfl) rfl, trivial⟩, trivial⟩ ⟨lend_ext (c := 1) rfl rfl, trivial⟩)); refine xZ ?_)
  exact wD (Ends.plain (.inr rfl) rfl rfl)
theorem rmark_can (a : H8) : Reads Tryz.prog 200 [.plain a.x] [] (hashX (markH a)) := by
  refine Reads.of Tryz.T_ok Tryz.func200 rfl _ _ _ rfl rfl (fun C hC => ?_)
  (replace hC : C.n0 = 1 := hC; change Tri _ _ _ ⟨_, _, 1⟩ _)
  refine Tri.of Tryz.mixed Tryz.T_ok ?_
  (refine xB ?_)
  (refine wP _ _ (cellsNew_op Tryz.T_ok rfl rfl rfl) ?_; refine xZ ?_)
  (apply wP; exact (call_op rfl (entersB_of Tryz.func45 (by kernel_rfl)) rfl ((digest_can 112 [a.l] (short1 _ _ (by simp [H8.l_len]))).at [4, 1] ⟨lend_plain rfl, lend_parts [a.l] rfl rfl rfl ⟨lend_sla rfl rfl (fun _ _ => rfl) rfl, trivial⟩, trivial⟩ trivial)); refine xZ ?_)
  exact wD (Ends.plain (.inr rfl) rfl rfl)
theorem join_can (a b : H8) : Reads Tryz.prog 235 [.plain a.x, .plain b.x] [stepsP] (hashX (joinH a b)) := by
  refine Reads.of Tryz.T_ok Tryz.func235 rfl _ _ _ rfl rfl (fun C hC => ?_)
  (replace hC : C.n0 = 3 := hC; change Tri _ _ _ ⟨_, _, 3⟩ _)
  refine Tri.of Tryz.mixed Tryz.T_ok ?_
  (refine xB ?_)
  (apply wP; exact (call_op rfl (entersB_of Tryz.func180 (by kernel_rfl)) rfl ((ptwo_can 109 a b).at [2] ⟨lend_plain rfl, lend_plain rfl, lend_plain rfl, trivial⟩ ⟨lend_ext (c := 2) rfl rfl, trivial⟩)); refine xZ ?_)
  exact wD (Ends.plain (.inr rfl) rfl rfl)
theorem row4 {x0 x1 x2 x3 : UInt8} {v0 v1 v2 v3 : Value} (h0 : v0 = u8 x0) (h1 : v1 = u8 x1) (h2 : v2 = u8 x2) (h3 : v3 = u8 x3) : ∀ i, i < [x0, x1, x2, x3].length → rowB [x0, x1, x2, x3] i = cutF [v0, v1, v2, v3] 1 (0 + i) := by
  subst h0 h1 h2 h3
  intro i hi
  match i, hi with
  | 0, _ => rfl
  | 1, _ => rfl
  | 2, _ => rfl
  | 3, _ => rfl
def secretH (seed : H8) (idx i b : Int) : H8 := dig 115 [seed.l, [byteI (IntKind.u8.wrap idx), byteI (IntKind.u8.wrap i), byteI (IntKind.u8.wrap b), 0]]
theorem secret_can (seed : H8) (idx i b : Int) : Reads Tryz.prog 198 [.plain seed.x, .plain (.one (.raw (.int .i64 idx))), .plain (.one (.raw (.int .i64 i))), .plain (.one (.raw (.int .i64 b)))] [] (hashX (secretH seed idx i b)) := by
  refine Reads.of Tryz.T_ok Tryz.func198 rfl _ _ _ rfl rfl (fun C hC => ?_)
  (replace hC : C.n0 = 4 := hC; change Tri _ _ _ ⟨_, _, 4⟩ _)
  refine Tri.of Tryz.mixed Tryz.T_ok ?_
  (refine xB ?_)
  (refine wP _ _ (cellsNew_op Tryz.T_ok rfl rfl rfl) ?_; refine xZ ?_)
  (apply wP; exact (call_op rfl (entersB_of Tryz.func45 (by kernel_rfl)) rfl ((digest_can 115 [seed.l, [byteI (IntKind.u8.wrap idx), byteI (IntKind.u8.wrap i), byteI (IntKind.u8.wrap b), 0]] (short2 _ _ _ (by simp [H8.l_len]))).at [14, 4, 13] ⟨lend_plain rfl, lend_parts [seed.l, [byteI (IntKind.u8.wrap idx), byteI (IntKind.u8.wrap i), byteI (IntKind.u8.wrap b), 0]] rfl rfl rfl ⟨lend_sla rfl rfl (fun _ _ => rfl) rfl, lend_vec (lo := 0) rfl rfl (Nat.le_refl _) (row4 (u8_byteI _).symm (u8_byteI _).symm (u8_byteI _).symm rfl), trivial⟩, trivial⟩ trivial)); refine xZ ?_)
  exact wD (Ends.plain (.inr rfl) rfl rfl)
end Go.Proofs.YtnpkdoggfnlapaaGreatDoor
namespace Go.Proofs.YtnpkdoggfnlapaaGreatDoor
set_option maxRecDepth 100000
open Go.Sx
def bitN (m : H8) (i : Nat) : Nat := ((m.l.getD (i / 8) 0).toNat / 2 ^ (i % 8)) % 2
theorem bitN_cases (m : H8) (i : Nat) : bitN m i = 0 ∨ bitN m i = 1 := by unfold bitN; omega
theorem ofInt_nat (n y : Nat) : BitVec.ofInt n (y : Int) = BitVec.ofNat n y := by
  apply BitVec.eq_of_toNat_eq
  rw [BitVec.toNat_ofInt, BitVec.toNat_ofNat]
  omega
theorem and1_u8 (y : Nat) : bitI .and .u8 (y : Int) 1 = ((y % 2 : Nat) : Int) := by
  show IntKind.u8.wrap (((BitVec.ofInt 8 (y : Int) &&& BitVec.ofInt 8 ((1 : Nat) : Int)).toNat : Int)) = _
  rw [ofInt_nat, ofInt_nat, BitVec.toNat_and, BitVec.toNat_ofNat, BitVec.toNat_ofNat, show 1 % 2 ^ 8 = 1 from rfl, Nat.and_one_is_mod, IntKind.wrap_u8]
  omega
theorem and1_i64 (y : Nat) : bitI .and .i64 (y : Int) 1 = ((y % 2 : Nat) : Int) := by
  show IntKind.i64.wrap (((BitVec.ofInt 64 (y : Int) &&& BitVec.ofInt 64 ((1 : Nat) : Int)).toNat : Int)) = _
  rw [ofInt_nat, ofInt_nat, BitVec.toNat_and, BitVec.toNat_ofNat, BitVec.toNat_ofNat, show 1 % 2 ^ 64 = 1 from rfl, Nat.and_one_is_mod, IntKind.wrap_i64]
  omega
theorem shr_nat (k : IntKind) (y s : Nat) (hs : s ≤ k.bits) : shrI k (y : Int) (s : Int) = ((y / 2 ^ s : Nat) : Int) := by
  have e : min ((s : Int).toNat) k.bits = s := by omega
  have h2 : ((2 : Int) ^ s) = ((2 ^ s : Nat) : Int) := by rw [Int.natCast_pow]; rfl
  rw [shrI, e, h2, Int.fdiv_eq_ediv_of_nonneg _ (Int.natCast_nonneg _), Int.natCast_ediv]
theorem bit_can (m : H8) (i : Nat) (hi : i < 64) : Reads Tryz.prog 236 [.plain m.x, .plain (.one (.raw (.int .i64 i)))] [] (XV.int .i64 (bitN m i)) := by
  refine Reads.of Tryz.T_ok Tryz.func236 rfl _ _ _ rfl rfl (fun C hC => ?_)
  (replace hC : C.n0 = 2 := hC; change Tri _ _ _ ⟨_, _, 2⟩ _)
  (refine Tri.cut 1 Tryz.mixed Tryz.T_ok ?_; refine xZ ?_)
  refine wD <| cutG <| Tri.ent (Ent.arrT (c := 2) 1 8 (rowB m.l) rfl rfl rfl (fun _ _ => rfl) (by decide) rfl (by rw [hC]; decide)) <| Tri.of Tryz.mixed Tryz.T_ok ?_
  have q1 : IntKind.i64.wrap (Int.tdiv (i : Int) 8) = ((i / 8 : Nat) : Int) := by
    have : Int.tdiv (i : Int) 8 = ((i / 8 : Nat) : Int) := rfl
    rw [this]; exact xW
  have q2 : Int.tmod (i : Int) 8 = ((i % 8 : Nat) : Int) := rfl
  (refine xB ?_)
  simp only [q1]
  (repeat (refine wN ?_ ?_; exact xW; refine xG ?_))
  simp only [q2]
  (repeat (refine wN ?_ ?_; exact xW; refine xG ?_))
  refine wD (Ends.plain (.inr rfl) rfl ?_)
  have e : IntKind.i64.wrap (bitI .and .u8 (shrI .u8 ((m.l.getD (((i / 8 : Nat) : Int).toNat) 0).toNat : Int) ((i % 8 : Nat) : Int)) 1) = ((bitN m i : Nat) : Int) := by
    have h8 : i % 8 ≤ IntKind.u8.bits := Nat.le_of_lt (Nat.mod_lt _ (by decide))
    rw [shr_nat _ _ _ h8, and1_u8, Int.toNat_natCast, IntKind.wrap_i64]
    unfold bitN
    omega
  exact congrArg (fun n : Int => XV.int .i64 n) e
theorem rbit_can (m : H8) (i : Nat) (hi : i < 64) : Reads Tryz.prog 199 [.plain m.x, .plain (.one (.raw (.int .i64 i)))] [] (XV.int .i64 (bitN m i)) := by
  refine Reads.of Tryz.T_ok Tryz.func199 rfl _ _ _ rfl rfl (fun C hC => ?_)
  (replace hC : C.n0 = 2 := hC; change Tri _ _ _ ⟨_, _, 2⟩ _)
  (refine Tri.cut 1 Tryz.mixed Tryz.T_ok ?_; refine xZ ?_)
  refine wD <| cutG <| Tri.ent (Ent.arrT (c := 2) 1 8 (rowB m.l) rfl rfl rfl (fun _ _ => rfl) (by decide) rfl (by rw [hC]; decide)) <| Tri.of Tryz.mixed Tryz.T_ok ?_
  have q1 : IntKind.i64.wrap (Int.tdiv (i : Int) 8) = ((i / 8 : Nat) : Int) := by
    have : Int.tdiv (i : Int) 8 = ((i / 8 : Nat) : Int) := rfl
    rw [this]; exact xW
  have q2 : Int.tmod (i : Int) 8 = ((i % 8 : Nat) : Int) := rfl
  (refine xB ?_)
  simp only [q1]
  (repeat (refine wN ?_ ?_; exact xW; refine xG ?_))
  simp only [q2]
  (repeat (refine wN ?_ ?_; exact xW; refine xG ?_))
  refine wD (Ends.plain (.inr rfl) rfl ?_)
  have e : bitI .and .i64 (shrI .i64 (IntKind.i64.wrap ((m.l.getD (((i / 8 : Nat) : Int).toNat) 0).toNat : Int)) (IntKind.u64.wrap ((i % 8 : Nat) : Int))) 1 = ((bitN m i : Nat) : Int) := by
    have h8 : i % 8 ≤ IntKind.i64.bits := Nat.le_trans (Nat.le_of_lt (Nat.mod_lt i (by decide : 8 > 0))) (by decide)
    have hb := (m.l.getD (i / 8) 0).toNat_lt
    have e1 : IntKind.i64.wrap ((m.l.getD (i / 8) 0).toNat : Int) = ((m.l.getD (i / 8) 0).toNat : Int) := xW
    have e2 : IntKind.u64.wrap ((i % 8 : Nat) : Int) = ((i % 8 : Nat) : Int) := xW
    rw [Int.toNat_natCast, e1, e2, shr_nat _ _ _ h8, and1_i64]
    rfl
  exact congrArg (fun n : Int => XV.int .i64 n) e
end Go.Proofs.YtnpkdoggfnlapaaGreatDoor
namespace Go.Proofs.YtnpkdoggfnlapaaGreatDoor
set_option maxRecDepth 100000
open Go.Sx
def zeroH : H8 := ⟨0, 0, 0, 0, 0, 0, 0, 0⟩
def hashF (h : Nat → H8) : Nat → List Value := fun i => (h i).cells
def uptoH (h : Nat → H8) (n : Nat) : Nat → H8 := fun k => if k < n then h k else zeroH
theorem updH (w : Nat → H8) (i k : Nat) (h : H8) : updF (hashF w) i 0 h.cells k = hashF (fun k => if k = i then h else w k) k := by
  by_cases hk : k = i
  · subst hk; rw [updF_whole (by rfl)]; simp [hashF]
  · rw [updF_ne hk]; simp [hashF, hk]
theorem uptoH_step (h : Nat → H8) (i k : Nat) : (if k = i then h i else uptoH h i k) = uptoH h (i + 1) k := by
  unfold uptoH
  by_cases hk : k = i
  · subst hk; rw [if_pos rfl, if_pos (Nat.lt_succ_self k)]
  · rw [if_neg hk]
    by_cases hk3 : k < i
    · rw [if_pos hk3, if_pos (by omega)]
    · rw [if_neg hk3, if_neg (by omega)]
def rowX (h : Nat → H8) (n : Nat) : CV := .agg ((tabF (hashF h) 0 n).map .raw)
def openS (seed : H8) (idx : Int) (m : H8) (i : Nat) : H8 := secretH seed idx (i : Int) ((bitN m i : Nat) : Int)
def shutS (seed : H8) (idx : Int) (m : H8) (i : Nat) : H8 := markH (secretH seed idx (i : Int) ((1 - bitN m i : Nat) : Int))
def signSt (seed : H8) (idx : Int) (m : H8) (i : Nat) : St :=
  ⟨[none, some (XV.int .i64 idx), none, some (XV.sv (.ptr 3 0 0 0)), none, some (XV.sv (.ptr 4 0 0 0)), some (XV.sv (.ptr 5 0 0 0)), some (XV.sv (.ptr 6 0 0 0)), some (XV.sv (.ptr 7 0 0 0)), some (XV.sv (.ptr 8 0 0 0)), some (XV.int .i64 i)] ++ List.replicate 26 none,
   [(3, .cells 29 (seed.cells.map .raw)), (4, .cells 29 (m.cells.map .raw)), (5, .cells 44 ((List.replicate 128 (u8 0)).map .raw)), (6, .cells 44 ((List.replicate 128 (u8 0)).map .raw)), (7, .vec 44 8 16 (hashF (uptoH (openS seed idx m) i))), (8, .vec 44 8 16 (hashF (uptoH (shutS seed idx m) i)))], 9⟩
set_option maxHeartbeats 4000000 in
theorem sign_can (seed : H8) (idx : Int) (m : H8) : Reads Tryz.prog 165 [.plain seed.x, .plain (.one (.raw (.int .i64 idx))), .plain m.x] [] (.tup [rowX (openS seed idx m) 16, rowX (shutS seed idx m) 16]) := by
  refine Reads.of Tryz.T_ok Tryz.func165 rfl _ _ _ rfl (by simp only [XV.ok, List.all_cons, List.all_nil, Bool.and_true, Bool.and_eq_true]; exact ⟨raws_ok _ _, raws_ok _ _⟩) (fun C hC => ?_)
  (replace hC : C.n0 = 3 := hC; change Tri _ _ _ ⟨_, _, 3⟩ _)
  (refine Tri.cut 2 Tryz.mixed Tryz.T_ok ?_; refine xZ ?_)
  refine wD <| cutG <| Tri.ent (Ent.arr0 (c := 7) 8 16 (u8 0) (f := hashF (uptoH (openS seed idx m) 0)) rfl rfl rfl (by decide) rfl (by rw [hC]; decide) (fun _ _ => rfl)) <| Tri.ent (Ent.arr0 (c := 8) 8 16 (u8 0) (f := hashF (uptoH (shutS seed idx m) 0)) rfl rfl rfl (by decide) rfl (by rw [hC]; decide) (fun _ _ => rfl)) <| Tri.seq ?_
  (refine Tri.cut 1 Tryz.mixed Tryz.T_ok ?_; refine xZ ?_)
  refine wD <| cutG <| Tri.block ?_
  refine Tri.loop (α := { i : Nat // i ≤ 16 }) (fun i => signSt seed idx m i.1) (fun i => 16 - i.1) ⟨0, Nat.zero_le _⟩ ?_ ?_
  · exact Ent.ren [0, 1, 2, 3, 4, 5, 6, 7, 8] (by decide) rfl (fun i hi => by replace hi := Nat.lt_of_lt_of_eq hi hC; revert i; decide) (Nat.le_trans (Nat.le_of_eq hC) (by decide)) rfl (by repeat' (first | exact trivial | exact rfl | refine ⟨?_, ?_⟩ | fail)) (by repeat' (first | exact trivial | exact ⟨_, rfl, rfl, rfl, Nat.le_refl _, fun _ _ => rfl⟩ | exact ⟨_, rfl, rfl, rfl, fun _ _ => rfl⟩ | exact ⟨_, rfl, rfl, rfl⟩ | exact ⟨_, rfl, rfl⟩ | refine ⟨?_, ?_⟩ | fail))
  rintro ⟨i, hi⟩
  dsimp only
  (refine Tri.cut 1 Tryz.mixed Tryz.T_ok ?_; refine xZ ?_)
  refine wC (fun h1 => ?_) (fun h1 => ?_)
  · (refine xG ?_)
    have h1' : i < 16 := xW
    have hb := bitN_cases m i
    have eb : IntKind.i64.wrap (1 - ((bitN m i : Nat) : Int)) = ((1 - bitN m i : Nat) : Int) := xW
    refine wD <| cutG <| Tri.seq <| Tri.block ?_
    (refine Tri.cut 1 Tryz.mixed Tryz.T_ok ?_; refine xZ ?_)
    (apply wP; exact (call_op rfl (entersB_of Tryz.func199 (by kernel_rfl)) rfl ((rbit_can m i (by omega)).at [] ⟨lend_plain rfl, lend_plain rfl, trivial⟩ trivial)); refine xZ ?_)
    (apply wP; exact (call_op rfl (entersB_of Tryz.func198 (by kernel_rfl)) rfl ((secret_can seed idx i ((bitN m i : Nat) : Int)).at [] ⟨lend_plain rfl, lend_plain rfl, lend_plain rfl, lend_plain rfl, trivial⟩ trivial)); refine xZ ?_)
    (repeat (refine wN ?_ ?_; exact xW; refine xG ?_))
    refine wD <| cutG <| Tri.of Tryz.mixed Tryz.T_ok ?_
    (refine xB ?_)
    (apply wP; exact (call_op rfl (entersB_of Tryz.func199 (by kernel_rfl)) rfl ((rbit_can m i (by omega)).at [] ⟨lend_plain rfl, lend_plain rfl, trivial⟩ trivial)); refine xZ ?_)
    simp only [eb]
    (apply wP; exact (call_op rfl (entersB_of Tryz.func198 (by kernel_rfl)) rfl ((secret_can seed idx i ((1 - bitN m i : Nat) : Int)).at [] ⟨lend_plain rfl, lend_plain rfl, lend_plain rfl, lend_plain rfl, trivial⟩ trivial)); refine xZ ?_)
    (apply wP; exact (call_op rfl (entersB_of Tryz.func200 (by kernel_rfl)) rfl ((rmark_can (secretH seed idx i ((1 - bitN m i : Nat) : Int))).at [] ⟨lend_plain rfl, trivial⟩ trivial)); refine xZ ?_)
    (repeat (refine wN ?_ ?_; exact xW; refine xG ?_))
    refine wD <| blockN <| cutG <| Tri.of Tryz.mixed Tryz.T_ok ?_
    (refine xB ?_)
    have hw : IntKind.i64.wrap ((i : Int) + 1) = ((i + 1 : Nat) : Int) := xW
    refine wD <| loopN ⟨⟨i + 1, h1'⟩, by dsimp only; omega, ?_⟩
    rw [hw]
    ((try dsimp only); refine Ent.renC [0, 1, 2, 3, 4, 5, 6, 7, 8] hC ?_ ?_ <;> repeat' (first | exact trivial | exact rfl | exact ⟨_, rfl, rfl, rfl, Nat.le_refl _, fun _ _ => rfl⟩ | exact ⟨_, rfl, rfl, rfl, fun _ _ => rfl⟩ | exact ⟨_, rfl, rfl, rfl⟩ | exact ⟨_, rfl, rfl⟩ | refine ⟨_, rfl, rfl, rfl, by omega, fun k hk => ?_⟩ | refine ⟨?_, ?_⟩ | fail))
    · refine (updH (uptoH (openS seed idx m) i) i k (openS seed idx m i)).trans ?_
      simp only [hashF, uptoH_step]
    · refine (updH (uptoH (shutS seed idx m) i) i k (shutS seed idx m i)).trans ?_
      simp only [hashF, uptoH_step]
  · (refine xG ?_)
    have h1' : i = 16 := xW
    subst h1'
    have hf : ∀ (g : Nat → H8) k, k < 16 → hashF (uptoH g 16) k = hashF g k := fun g k hk => by simp [hashF, uptoH, hk]
    refine wD <| cutE <| loopX <| blockX <| cutG <| Tri.ent (Ent.chg0 (c := 7) (g := hashF (openS seed idx m)) rfl (hf _)) <| Tri.ent (Ent.chg0 (c := 8) (g := hashF (shutS seed idx m)) rfl (hf _)) <| Tri.of Tryz.mixed Tryz.T_ok ?_
    (refine xB ?_)
    (repeat (refine wN ?_ ?_; exact xW; refine xG ?_))
    exact wD (Ends.plain (.inr rfl) rfl rfl)
def allB (mk : Nat → Nat → H8) : Nat → List UInt8
  | 0 => []
  | i + 1 => allB mk i ++ (mk i 0).l ++ (mk i 1).l
theorem allB_length (mk : Nat → Nat → H8) : ∀ i, (allB mk i).length = 16 * i
  | 0 => rfl
  | i + 1 => by simp only [allB, List.length_append, allB_length mk i, H8.l_len]; omega
def pubH (mk : Nat → Nat → H8) : H8 := dig 107 [allB mk 16]
def markOf (m : H8) (o s : Nat → H8) (i b : Nat) : H8 := if b = bitN m i then markH (o i) else s i
def rpubSt (m : H8) (o s : Nat → H8) (i : Nat) : St :=
  ⟨[none, none, none, some (XV.sv (.ptr 3 0 0 0)), some (XV.sv (.ptr 4 0 0 0)), some (XV.sv (.ptr 5 0 0 0)), some (XV.sv (.ptr 6 0 0 0)), some (XV.sv (.slc 7 1 0 (16 * i))), some (XV.int .i64 i)] ++ List.replicate 27 none,
   [(3, .cells 29 (m.cells.map .raw)), (4, .vec 44 8 16 (hashF o)), (5, .vec 44 8 16 (hashF s)), (6, .cells 29 ((List.replicate 8 (u8 0)).map .raw)), (7, .vec 5 1 (16 * i) (rowB (allB (markOf m o s) i)))], 8⟩
set_option maxHeartbeats 4000000 in
theorem rpublic_can (m : H8) (o s : Nat → H8) : Reads Tryz.prog 196 [.plain m.x, .plain (rowX o 16), .plain (rowX s 16)] [] (hashX (pubH (markOf m o s))) := by
  refine Reads.of Tryz.T_ok Tryz.func196 rfl _ _ _ (by simp only [canX, AD.plain, List.all_cons, List.all_nil, Bool.and_true, Bool.and_eq_true]; exact ⟨raws_ok _ _, raws_ok _ _, raws_ok _ _⟩) rfl (fun C hC => ?_)
  (replace hC : C.n0 = 3 := hC; change Tri _ _ _ ⟨_, _, 3⟩ _)
  (refine Tri.cut 2 Tryz.mixed Tryz.T_ok ?_; refine xZ ?_)
  refine wD <| cutG <| Tri.ent (Ent.arrT (c := 4) 8 16 (hashF o) rfl rfl rfl (fun _ _ => rfl) (by decide) rfl (by rw [hC]; decide)) <| Tri.ent (Ent.arrT (c := 5) 8 16 (hashF s) rfl rfl rfl (fun _ _ => rfl) (by decide) rfl (by rw [hC]; decide)) <| Tri.ent (Ent.nils (t := 7) rfl 5 1) <| Tri.seq ?_
  (refine Tri.cut 1 Tryz.mixed Tryz.T_ok ?_; refine xZ ?_)
  refine wD <| cutG <| Tri.block ?_
  refine Tri.loop (α := { i : Nat // i ≤ 16 }) (fun i => rpubSt m o s i.1) (fun i => 16 - i.1) ⟨0, Nat.zero_le _⟩ ?_ ?_
  · ((try dsimp only); refine Ent.renC [0, 1, 2, 3, 4, 5, 6, 8] hC ?_ ?_ <;> repeat' (first | exact trivial | exact rfl | exact ⟨_, rfl, rfl, rfl, Nat.le_refl _, fun _ _ => rfl⟩ | exact ⟨_, rfl, rfl, rfl, fun _ _ => rfl⟩ | exact ⟨_, rfl, rfl, rfl⟩ | exact ⟨_, rfl, rfl⟩ | refine ⟨_, rfl, rfl, rfl, by omega, fun k hk => ?_⟩ | refine ⟨?_, ?_⟩ | fail))
    exact absurd hk (Nat.not_lt_zero _)
  rintro ⟨i, hi⟩
  dsimp only
  (refine Tri.cut 1 Tryz.mixed Tryz.T_ok ?_; refine xZ ?_)
  refine wC (fun h1 => ?_) (fun h1 => ?_)
  · (refine xG ?_)
    have h1' : i < 16 := xW
    have hw : IntKind.i64.wrap ((i : Int) + 1) = ((i + 1 : Nat) : Int) := xW
    have hj : ∀ (a b : H8) (k : Nat), k < 16 * (i + 1) → joinF (joinF (rowB (allB (markOf m o s) i)) (16 * i) (rowB a.l)) (16 * i + 8) (rowB b.l) k = rowB (allB (markOf m o s) i ++ a.l ++ b.l) k := fun a b k hk =>
      rowB_join (a := allB (markOf m o s) i ++ a.l) (b := b.l) (by rw [List.length_append, allB_length]; rfl) (fun i' hi' => rowB_join (b := a.l) (allB_length _ _).symm (fun _ _ => rfl) (fun _ _ => rfl) (by rw [← List.length_append]; exact hi')) (fun _ _ => rfl) (by rw [List.length_append, allB_length]; simp only [H8.l_len]; omega)
    refine wD <| cutG <| Tri.seq <| Tri.block ?_
    (refine Tri.cut 1 Tryz.mixed Tryz.T_ok ?_; refine xZ ?_)
    (repeat (refine wN ?_ ?_; exact xW; refine xG ?_))
    (apply wP; exact (call_op rfl (entersB_of Tryz.func200 (by kernel_rfl)) rfl ((rmark_can (o i)).at [] ⟨lend_plain rfl, trivial⟩ trivial)); refine xZ ?_)
    (repeat (refine wN ?_ ?_; exact xW; refine xG ?_))
    refine wD <| cutG <| Tri.seq ?_
    (refine Tri.cut 1 Tryz.mixed Tryz.T_ok ?_; refine xZ ?_)
    (apply wP; exact (call_op rfl (entersB_of Tryz.func199 (by kernel_rfl)) rfl ((rbit_can m i (by omega)).at [] ⟨lend_plain rfl, lend_plain rfl, trivial⟩ trivial)); refine xZ ?_)
    refine wD <| cutG <| Tri.cond (b := (((bitN m i : Nat) : Int) == 1)) rfl (fun hb => ?_) (fun hb => ?_)
    · have hb' : bitN m i = 1 := by
        have := eq_of_beq hb
        omega
      refine Tri.of Tryz.mixed Tryz.T_ok ?_
      (refine xB ?_)
      refine wD <| cutG <| Tri.of Tryz.mixed Tryz.T_ok ?_
      (refine xB ?_)
      (refine wP _ _ (append_op Tryz.T_ok rfl rfl rfl rfl rfl [7, 17] (old_vec rfl rfl (Nat.le_refl _) rfl) (new_sla (g := rowB (s i).l) rfl rfl rfl (fun _ _ => rfl) rfl) rfl (fun _ _ => rfl) (by simp only [maxLen]; omega) (by dsimp only; omega)) ?_; refine xZ ?_)
      (refine wP _ _ (append_op Tryz.T_ok rfl rfl rfl rfl rfl [31, 18] (old_vec rfl rfl (Nat.le_refl _) rfl) (new_sla (g := rowB (markH (o i)).l) rfl rfl rfl (fun _ _ => rfl) rfl) rfl (fun _ _ => rfl) (by simp only [maxLen]; omega) (by dsimp only; omega)) ?_; refine xZ ?_)
      refine wD <| blockN <| cutG <| Tri.of Tryz.mixed Tryz.T_ok ?_
      (refine xB ?_)
      refine wD <| loopN ⟨⟨i + 1, h1'⟩, by dsimp only; omega, ?_⟩
      rw [hw]
      have e1 : 16 * i + (((8 : Nat) : Int).toNat - (0 : Int).toNat) + (((8 : Nat) : Int).toNat - (0 : Int).toNat) = 16 * (i + 1) := by omega
      rw [e1]
      ((try dsimp only); refine Ent.renC [0, 1, 2, 3, 4, 5, 6, 33] hC ?_ ?_ <;> repeat' (first | exact trivial | exact rfl | exact ⟨_, rfl, rfl, rfl, Nat.le_refl _, fun _ _ => rfl⟩ | exact ⟨_, rfl, rfl, rfl, fun _ _ => rfl⟩ | exact ⟨_, rfl, rfl, rfl⟩ | exact ⟨_, rfl, rfl⟩ | refine ⟨_, rfl, rfl, rfl, by omega, fun k hk => ?_⟩ | refine ⟨?_, ?_⟩ | fail))
      have hm0 : (markOf m o s i 0) = s i := by unfold markOf; rw [if_neg (by omega)]
      have hm1 : (markOf m o s i 1) = markH (o i) := by unfold markOf; rw [if_pos hb'.symm]
      refine (hj _ _ k hk).trans ?_
      rw [allB, hm0, hm1]
    · have hb' : bitN m i = 0 := by
        have h2 := bitN_cases m i
        have h3 : ¬ ((bitN m i : Nat) : Int) = 1 := by simpa using hb
        omega
      refine Tri.skip (cutG ?_)
      refine Tri.of Tryz.mixed Tryz.T_ok ?_
      (refine xB ?_)
      (refine wP _ _ (append_op Tryz.T_ok rfl rfl rfl rfl rfl [7, 17] (old_vec rfl rfl (Nat.le_refl _) rfl) (new_sla (g := rowB (markH (o i)).l) rfl rfl rfl (fun _ _ => rfl) rfl) rfl (fun _ _ => rfl) (by simp only [maxLen]; omega) (by dsimp only; omega)) ?_; refine xZ ?_)
      (refine wP _ _ (append_op Tryz.T_ok rfl rfl rfl rfl rfl [27, 18] (old_vec rfl rfl (Nat.le_refl _) rfl) (new_sla (g := rowB (s i).l) rfl rfl rfl (fun _ _ => rfl) rfl) rfl (fun _ _ => rfl) (by simp only [maxLen]; omega) (by dsimp only; omega)) ?_; refine xZ ?_)
      refine wD <| blockN <| cutG <| Tri.of Tryz.mixed Tryz.T_ok ?_
      (refine xB ?_)
      refine wD <| loopN ⟨⟨i + 1, h1'⟩, by dsimp only; omega, ?_⟩
      rw [hw]
      have e1 : 16 * i + (((8 : Nat) : Int).toNat - (0 : Int).toNat) + (((8 : Nat) : Int).toNat - (0 : Int).toNat) = 16 * (i + 1) := by omega
      rw [e1]
      ((try dsimp only); refine Ent.renC [0, 1, 2, 3, 4, 5, 6, 29] hC ?_ ?_ <;> repeat' (first | exact trivial | exact rfl | exact ⟨_, rfl, rfl, rfl, Nat.le_refl _, fun _ _ => rfl⟩ | exact ⟨_, rfl, rfl, rfl, fun _ _ => rfl⟩ | exact ⟨_, rfl, rfl, rfl⟩ | exact ⟨_, rfl, rfl⟩ | refine ⟨_, rfl, rfl, rfl, by omega, fun k hk => ?_⟩ | refine ⟨?_, ?_⟩ | fail))
      have hm0 : (markOf m o s i 0) = markH (o i) := by unfold markOf; rw [if_pos hb'.symm]
      have hm1 : (markOf m o s i 1) = s i := by unfold markOf; rw [if_neg (by omega)]
      refine (hj _ _ k hk).trans ?_
      rw [allB, hm0, hm1]
  · (refine xG ?_)
    have h1' : i = 16 := xW
    subst h1'
    obtain ⟨L, hL, hlen⟩ : ∃ L, allB (markOf m o s) 16 = L ∧ L.length = 16 * 16 := ⟨_, rfl, allB_length _ _⟩
    refine wD <| cutE <| loopX <| blockX <| cutG <| Tri.of Tryz.mixed Tryz.T_ok ?_
    rw [hL]
    (refine xB ?_)
    (refine wP _ _ (cellsNew_op Tryz.T_ok rfl rfl rfl) ?_; refine xZ ?_)
    (apply wP; exact (call_op rfl (entersB_of Tryz.func45 (by kernel_rfl)) rfl ((digest_can 107 [L] (short1 _ _ (by rw [hlen]; decide))).at [11, 7] ⟨lend_plain rfl, lend_parts [L] rfl rfl rfl ⟨lend_vecN (lo := 0) hlen.symm rfl rfl (by show 0 + L.length ≤ 16 * 16; omega) (fun i _ => by rw [Nat.zero_add]), trivial⟩, trivial⟩ trivial)); refine xZ ?_)
    exact wD (Ends.plain (v := hashX (dig 107 [L])) (.inr rfl) rfl (by rw [pubH, hL]))
end Go.Proofs.YtnpkdoggfnlapaaGreatDoor

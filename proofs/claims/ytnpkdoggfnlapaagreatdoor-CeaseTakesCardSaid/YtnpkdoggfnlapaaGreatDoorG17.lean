/- Parts Hj Hk Hl Hm Hn Ho Ta Tb Tn Pn Pq. -/
import Derived.Test.YtnpkdoggfnlapaaGreatDoorG16
import Derived.Test.YtnpkdoggfnlapaaGreatDoorG11
import Derived.Test.YtnpkdoggfnlapaaGreatDoorG14
set_option linter.unusedSimpArgs false
set_option linter.unusedVariables false
namespace Go.Proofs.YtnpkdoggfnlapaaGreatDoor
set_option maxRecDepth 100000
open Go.Sx
def zeroH : H8 := ⟨0, 0, 0, 0, 0, 0, 0, 0⟩
def hashF (h : Nat → H8) : Nat → List Value := fun i => (h i).cells
def uptoH (h : Nat → H8) (n : Nat) : Nat → H8 := fun k => if k < n then h k else zeroH
theorem updH (w : Nat → H8) (i k : Nat) (h : H8) : updF (hashF w) i 0 h.cells k = hashF (fun k => if k = i then h else w k) k := by
  by_cases hk : k = i
  · subst hk; rw [updF_whole (by rfl)]; simp [hashF]
  · rw [updF_ne hk]; simp [hashF, hk]
theorem uptoH_step (h : Nat → H8) (i k : Nat) : (if k = i then h i else uptoH h i k) = uptoH h (i + 1) k := by
  unfold uptoH
  by_cases hk : k = i
  · subst hk; rw [if_pos rfl, if_pos (Nat.lt_succ_self k)]
  · rw [if_neg hk]
    by_cases hk3 : k < i
    · rw [if_pos hk3, if_pos (by omega)]
    · rw [if_neg hk3, if_neg (by omega)]
def rowX (h : Nat → H8) (n : Nat) : CV := .agg ((tabF (hashF h) 0 n).map .raw)
def openS (seed : H8) (idx : Int) (m : H8) (i : Nat) : H8 := secretH seed idx (i : Int) ((bitN m i : Nat) : Int)
def shutS (seed : H8) (idx : Int) (m : H8) (i : Nat) : H8 := markH (secretH seed idx (i : Int) ((1 - bitN m i : Nat) : Int))
def signSt (seed : H8) (idx : Int) (m : H8) (i : Nat) : St :=
  ⟨[none, some (XV.int .i64 idx), none, some (XV.sv (.ptr 3 0 0 0)), none, some (XV.sv (.ptr 4 0 0 0)), some (XV.sv (.ptr 5 0 0 0)), some (XV.sv (.ptr 6 0 0 0)), some (XV.sv (.ptr 7 0 0 0)), some (XV.sv (.ptr 8 0 0 0)), some (XV.int .i64 i)] ++ List.replicate 26 none,
   [(3, .cells 29 (seed.cells.map .raw)), (4, .cells 29 (m.cells.map .raw)), (5, .cells 44 ((List.replicate 128 (u8 0)).map .raw)), (6, .cells 44 ((List.replicate 128 (u8 0)).map .raw)), (7, .vec 44 8 16 (hashF (uptoH (openS seed idx m) i))), (8, .vec 44 8 16 (hashF (uptoH (shutS seed idx m) i)))], 9⟩
set_option maxHeartbeats 4000000 in
theorem sign_can (seed : H8) (idx : Int) (m : H8) : Reads Tryz.prog 165 [.plain seed.x, .plain (.one (.raw (.int .i64 idx))), .plain m.x] [] (.tup [rowX (openS seed idx m) 16, rowX (shutS seed idx m) 16]) := by
  refine Reads.of Tryz.T_ok Tryz.func165 rfl _ _ _ rfl (by simp only [XV.ok, List.all_cons, List.all_nil, Bool.and_true, Bool.and_eq_true]; exact ⟨raws_ok _ _, raws_ok _ _⟩) (fun C hC => ?_)
  (replace hC : C.n0 = 3 := hC; change Tri _ _ _ ⟨_, _, 3⟩ _)
  (refine Tri.cut 2 Tryz.mixed Tryz.T_ok ?_; refine xZ ?_)
  refine wD <| cutG <| Tri.ent (Ent.arr0 (c := 7) 8 16 (u8 0) (f := hashF (uptoH (openS seed idx m) 0)) rfl rfl rfl (by decide) rfl (by rw [hC]; decide) (fun _ _ => rfl)) <| Tri.ent (Ent.arr0 (c := 8) 8 16 (u8 0) (f := hashF (uptoH (shutS seed idx m) 0)) rfl rfl rfl (by decide) rfl (by rw [hC]; decide) (fun _ _ => rfl)) <| Tri.seq ?_
  (refine Tri.cut 1 Tryz.mixed Tryz.T_ok ?_; refine xZ ?_)
  refine wD <| cutG <| Tri.block ?_
  refine Tri.loop (α := { i : Nat // i ≤ 16 }) (fun i => signSt seed idx m i.1) (fun i => 16 - i.1) ⟨0, Nat.zero_le _⟩ ?_ ?_
  · exact Ent.ren [0, 1, 2, 3, 4, 5, 6, 7, 8] (by decide) rfl (fun i hi => by replace hi := Nat.lt_of_lt_of_eq hi hC; revert i; decide) (Nat.le_trans (Nat.le_of_eq hC) (by decide)) rfl (by repeat' (first | exact trivial | exact rfl | refine ⟨?_, ?_⟩ | fail)) (by repeat' (first | exact trivial | exact ⟨_, rfl, rfl, rfl, Nat.le_refl _, fun _ _ => rfl⟩ | exact ⟨_, rfl, rfl, rfl, fun _ _ => rfl⟩ | exact ⟨_, rfl, rfl, rfl⟩ | exact ⟨_, rfl, rfl⟩ | refine ⟨?_, ?_⟩ | fail))
  rintro ⟨i, hi⟩
  dsimp only
  (refine Tri.cut 1 Tryz.mixed Tryz.T_ok ?_; refine xZ ?_)
  refine wC (fun h1 => ?_) (fun h1 => ?_)
  · (refine xG ?_)
    have h1' : i < 16 := xW
    have hb := bitN_cases m i
    have eb : IntKind.i64.wrap (1 - ((bitN m i : Nat) : Int)) = ((1 - bitN m i : Nat) : Int) := xW
    refine wD <| cutG <| Tri.seq <| Tri.block ?_
    (refine Tri.cut 1 Tryz.mixed Tryz.T_ok ?_; refine xZ ?_)
    (apply wP; exact (call_op rfl (entersB_of Tryz.func199 (by kernel_rfl)) rfl ((rbit_can m i (by omega)).at [] ⟨lend_plain rfl, lend_plain rfl, trivial⟩ trivial)); refine xZ ?_)
    (apply wP; exact (call_op rfl (entersB_of Tryz.func198 (by kernel_rfl)) rfl ((secret_can seed idx i ((bitN m i : Nat) : Int)).at [] ⟨lend_plain rfl, lend_plain rfl, lend_plain rfl, lend_plain rfl, trivial⟩ trivial)); refine xZ ?_)
    (repeat (refine wN ?_ ?_; exact xW; refine xG ?_))
    refine wD <| cutG <| Tri.of Tryz.mixed Tryz.T_ok ?_
    (refine xB ?_)
    (apply wP; exact (call_op rfl (entersB_of Tryz.func199 (by kernel_rfl)) rfl ((rbit_can m i (by omega)).at [] ⟨lend_plain rfl, lend_plain rfl, trivial⟩ trivial)); refine xZ ?_)
    simp only [eb]
    (apply wP; exact (call_op rfl (entersB_of Tryz.func198 (by kernel_rfl)) rfl ((secret_can seed idx i ((1 - bitN m i : Nat) : Int)).at [] ⟨lend_plain rfl, lend_plain rfl, lend_plain rfl, lend_plain rfl, trivial⟩ trivial)); refine xZ ?_)
    (apply wP; exact (call_op rfl (entersB_of Tryz.func200 (by kernel_rfl)) rfl ((rmark_can (secretH seed idx i ((1 - bitN m i : Nat) : Int))).at [] ⟨lend_plain rfl, trivial⟩ trivial)); refine xZ ?_)
    (repeat (refine wN ?_ ?_; exact xW; refine xG ?_))
    refine wD <| blockN <| cutG <| Tri.of Tryz.mixed Tryz.T_ok ?_
    (refine xB ?_)
    have hw : IntKind.i64.wrap ((i : Int) + 1) = ((i + 1 : Nat) : Int) := xW
    refine wD <| loopN ⟨⟨i + 1, h1'⟩, by dsimp only; omega, ?_⟩
    rw [hw]
    ((try dsimp only); refine Ent.renC [0, 1, 2, 3, 4, 5, 6, 7, 8] hC ?_ ?_ <;> repeat' (first | exact trivial | exact rfl | exact ⟨_, rfl, rfl, rfl, Nat.le_refl _, fun _ _ => rfl⟩ | exact ⟨_, rfl, rfl, rfl, fun _ _ => rfl⟩ | exact ⟨_, rfl, rfl, rfl⟩ | exact ⟨_, rfl, rfl⟩ | refine ⟨_, rfl, rfl, rfl, by omega, fun k hk => ?_⟩ | refine ⟨?_, ?_⟩ | fail))
    · refine (updH (uptoH (openS seed idx m) i) i k (openS seed idx m i)).trans ?_
      simp only [hashF, uptoH_step]
    · refine (updH (uptoH (shutS seed idx m) i) i k (shutS seed idx m i)).trans ?_
      simp only [hashF, uptoH_step]
  · (refine xG ?_)
    have h1' : i = 16 := xW
    subst h1'
    have hf : ∀ (g : Nat → H8) k, k < 16 → hashF (uptoH g 16) k = hashF g k := fun g k hk => by simp [hashF, uptoH, hk]
    refine wD <| cutE <| loopX <| blockX <| cutG <| Tri.ent (Ent.chg0 (c := 7) (g := hashF (openS seed idx m)) rfl (hf _)) <| Tri.ent (Ent.chg0 (c := 8) (g := hashF (shutS seed idx m)) rfl (hf _)) <| Tri.of Tryz.mixed Tryz.T_ok ?_
    (refine xB ?_)
    (repeat (refine wN ?_ ?_; exact xW; refine xG ?_))
    exact wD (Ends.plain (.inr rfl) rfl rfl)
def allB (mk : Nat → Nat → H8) : Nat → List UInt8
  | 0 => []
  | i + 1 => allB mk i ++ (mk i 0).l ++ (mk i 1).l
theorem allB_length (mk : Nat → Nat → H8) : ∀ i, (allB mk i).length = 16 * i
  | 0 => rfl
  | i + 1 => by simp only [allB, List.length_append, allB_length mk i, H8.l_len]; omega
def pubH (mk : Nat → Nat → H8) : H8 := dig 107 [allB mk 16]
def markOf (m : H8) (o s : Nat → H8) (i b : Nat) : H8 := if b = bitN m i then markH (o i) else s i
def rpubSt (m : H8) (o s : Nat → H8) (i : Nat) : St :=
  ⟨[none, none, none, some (XV.sv (.ptr 3 0 0 0)), some (XV.sv (.ptr 4 0 0 0)), some (XV.sv (.ptr 5 0 0 0)), some (XV.sv (.ptr 6 0 0 0)), some (XV.sv (.slc 7 1 0 (16 * i))), some (XV.int .i64 i)] ++ List.replicate 27 none,
   [(3, .cells 29 (m.cells.map .raw)), (4, .vec 44 8 16 (hashF o)), (5, .vec 44 8 16 (hashF s)), (6, .cells 29 ((List.replicate 8 (u8 0)).map .raw)), (7, .vec 5 1 (16 * i) (rowB (allB (markOf m o s) i)))], 8⟩
set_option maxHeartbeats 4000000 in
theorem rpublic_can (m : H8) (o s : Nat → H8) : Reads Tryz.prog 196 [.plain m.x, .plain (rowX o 16), .plain (rowX s 16)] [] (hashX (pubH (markOf m o s))) := by
  refine Reads.of Tryz.T_ok Tryz.func196 rfl _ _ _ (by simp only [canX, AD.plain, List.all_cons, List.all_nil, Bool.and_true, Bool.and_eq_true]; exact ⟨raws_ok _ _, raws_ok _ _, raws_ok _ _⟩) rfl (fun C hC => ?_)
  (replace hC : C.n0 = 3 := hC; change Tri _ _ _ ⟨_, _, 3⟩ _)
  (refine Tri.cut 2 Tryz.mixed Tryz.T_ok ?_; refine xZ ?_)
  refine wD <| cutG <| Tri.ent (Ent.arrT (c := 4) 8 16 (hashF o) rfl rfl rfl (fun _ _ => rfl) (by decide) rfl (by rw [hC]; decide)) <| Tri.ent (Ent.arrT (c := 5) 8 16 (hashF s) rfl rfl rfl (fun _ _ => rfl) (by decide) rfl (by rw [hC]; decide)) <| Tri.ent (Ent.nils (t := 7) rfl 5 1) <| Tri.seq ?_
  (refine Tri.cut 1 Tryz.mixed Tryz.T_ok ?_; refine xZ ?_)
  refine wD <| cutG <| Tri.block ?_
  refine Tri.loop (α := { i : Nat // i ≤ 16 }) (fun i => rpubSt m o s i.1) (fun i => 16 - i.1) ⟨0, Nat.zero_le _⟩ ?_ ?_
  · ((try dsimp only); refine Ent.renC [0, 1, 2, 3, 4, 5, 6, 8] hC ?_ ?_ <;> repeat' (first | exact trivial | exact rfl | exact ⟨_, rfl, rfl, rfl, Nat.le_refl _, fun _ _ => rfl⟩ | exact ⟨_, rfl, rfl, rfl, fun _ _ => rfl⟩ | exact ⟨_, rfl, rfl, rfl⟩ | exact ⟨_, rfl, rfl⟩ | refine ⟨_, rfl, rfl, rfl, by omega, fun k hk => ?_⟩ | refine ⟨?_, ?_⟩ | fail))
    exact absurd hk (Nat.not_lt_zero _)
  rintro ⟨i, hi⟩
  dsimp only
  (refine Tri.cut 1 Tryz.mixed Tryz.T_ok ?_; refine xZ ?_)
  refine wC (fun h1 => ?_) (fun h1 => ?_)
  · (refine xG ?_)
    have h1' : i < 16 := xW
    have hw : IntKind.i64.wrap ((i : Int) + 1) = ((i + 1 : Nat) : Int) := xW
    have hj : ∀ (a b : H8) (k : Nat), k < 16 * (i + 1) → joinF (joinF (rowB (allB (markOf m o s) i)) (16 * i) (rowB a.l)) (16 * i + 8) (rowB b.l) k = rowB (allB (markOf m o s) i ++ a.l ++ b.l) k := fun a b k hk =>
      rowB_join (a := allB (markOf m o s) i ++ a.l) (b := b.l) (by rw [List.length_append, allB_length]; rfl) (fun i' hi' => rowB_join (b := a.l) (allB_length _ _).symm (fun _ _ => rfl) (fun _ _ => rfl) (by rw [← List.length_append]; exact hi')) (fun _ _ => rfl) (by rw [List.length_append, allB_length]; simp only [H8.l_len]; omega)
    refine wD <| cutG <| Tri.seq <| Tri.block ?_
    (refine Tri.cut 1 Tryz.mixed Tryz.T_ok ?_; refine xZ ?_)
    (repeat (refine wN ?_ ?_; exact xW; refine xG ?_))
    (apply wP; exact (call_op rfl (entersB_of Tryz.func200 (by kernel_rfl)) rfl ((rmark_can (o i)).at [] ⟨lend_plain rfl, trivial⟩ trivial)); refine xZ ?_)
    (repeat (refine wN ?_ ?_; exact xW; refine xG ?_))
    refine wD <| cutG <| Tri.seq ?_
    (refine Tri.cut 1 Tryz.mixed Tryz.T_ok ?_; refine xZ ?_)
    (apply wP; exact (call_op rfl (entersB_of Tryz.func199 (by kernel_rfl)) rfl ((rbit_can m i (by omega)).at [] ⟨lend_plain rfl, lend_plain rfl, trivial⟩ trivial)); refine xZ ?_)
    refine wD <| cutG <| Tri.cond (b := (((bitN m i : Nat) : Int) == 1)) rfl (fun hb => ?_) (fun hb => ?_)
    · have hb' : bitN m i = 1 := by
        have := eq_of_beq hb
        omega
      refine Tri.of Tryz.mixed Tryz.T_ok ?_
      (refine xB ?_)
      refine wD <| cutG <| Tri.of Tryz.mixed Tryz.T_ok ?_
      (refine xB ?_)
      (refine wP _ _ (append_op Tryz.T_ok rfl rfl rfl rfl rfl [7, 17] (old_vec rfl rfl (Nat.le_refl _) rfl) (new_sla (g := rowB (s i).l) rfl rfl rfl (fun _ _ => rfl) rfl) rfl (fun _ _ => rfl) (by simp only [maxLen]; omega) (by dsimp only; omega)) ?_; refine xZ ?_)
      (refine wP _ _ (append_op Tryz.T_ok rfl rfl rfl rfl rfl [31, 18] (old_vec rfl rfl (Nat.le_refl _) rfl) (new_sla (g := rowB (markH (o i)).l) rfl rfl rfl (fun _ _ => rfl) rfl) rfl (fun _ _ => rfl) (by simp only [maxLen]; omega) (by dsimp only; omega)) ?_; refine xZ ?_)
      refine wD <| blockN <| cutG <| Tri.of Tryz.mixed Tryz.T_ok ?_
      (refine xB ?_)
      refine wD <| loopN ⟨⟨i + 1, h1'⟩, by dsimp only; omega, ?_⟩
      rw [hw]
      have e1 : 16 * i + (((8 : Nat) : Int).toNat - (0 : Int).toNat) + (((8 : Nat) : Int).toNat - (0 : Int).toNat) = 16 * (i + 1) := by omega
      rw [e1]
      ((try dsimp only); refine Ent.renC [0, 1, 2, 3, 4, 5, 6, 33] hC ?_ ?_ <;> repeat' (first | exact trivial | exact rfl | exact ⟨_, rfl, rfl, rfl, Nat.le_refl _, fun _ _ => rfl⟩ | exact ⟨_, rfl, rfl, rfl, fun _ _ => rfl⟩ | exact ⟨_, rfl, rfl, rfl⟩ | exact ⟨_, rfl, rfl⟩ | refine ⟨_, rfl, rfl, rfl, by omega, fun k hk => ?_⟩ | refine ⟨?_, ?_⟩ | fail))
      have hm0 : (markOf m o s i 0) = s i := by unfold markOf; rw [if_neg (by omega)]
      have hm1 : (markOf m o s i 1) = markH (o i) := by unfold markOf; rw [if_pos hb'.symm]
      refine (hj _ _ k hk).trans ?_
      rw [allB, hm0, hm1]
    · have hb' : bitN m i = 0 := by
        have h2 := bitN_cases m i
        have h3 : ¬ ((bitN m i : Nat) : Int) = 1 := by simpa using hb
        omega
      refine Tri.skip (cutG ?_)
      refine Tri.of Tryz.mixed Tryz.T_ok ?_
      (refine xB ?_)
      (refine wP _ _ (append_op Tryz.T_ok rfl rfl rfl rfl rfl [7, 17] (old_vec rfl rfl (Nat.le_refl _) rfl) (new_sla (g := rowB (markH (o i)).l) rfl rfl rfl (fun _ _ => rfl) rfl) rfl (fun _ _ => rfl) (by simp only [maxLen]; omega) (by dsimp only; omega)) ?_; refine xZ ?_)
      (refine wP _ _ (append_op Tryz.T_ok rfl rfl rfl rfl rfl [27, 18] (old_vec rfl rfl (Nat.le_refl _) rfl) (new_sla (g := rowB (s i).l) rfl rfl rfl (fun _ _ => rfl) rfl) rfl (fun _ _ => rfl) (by simp only [maxLen]; omega) (by dsimp only; omega)) ?_; refine xZ ?_)
      refine wD <| blockN <| cutG <| Tri.of Tryz.mixed Tryz.T_ok ?_
      (refine xB ?_)
      refine wD <| loopN ⟨⟨i + 1, h1'⟩, by dsimp only; omega, ?_⟩
      rw [hw]
      have e1 : 16 * i + (((8 : Nat) : Int).toNat - (0 : Int).toNat) + (((8 : Nat) : Int).toNat - (0 : Int).toNat) = 16 * (i + 1) := by omega
      rw [e1]
      ((try dsimp only); refine Ent.renC [0, 1, 2, 3, 4, 5, 6, 29] hC ?_ ?_ <;> repeat' (first | exact trivial | exact rfl | exact ⟨_, rfl, rfl, rfl, Nat.le_refl _, fun _ _ => rfl⟩ | exact ⟨_, rfl, rfl, rfl, fun _ _ => rfl⟩ | exact ⟨_, rfl, rfl, rfl⟩ | exact ⟨_, rfl, rfl⟩ | refine ⟨_, rfl, rfl, rfl, by omega, fun k hk => ?_⟩ | refine ⟨?_, ?_⟩ | fail))
      have hm0 : (markOf m o s i 0) = markH (o i) := by unfold markOf; rw [if_pos hb'.symm]
      have hm1 : (markOf m o s i 1) = s i := by unfold markOf; rw [if_neg (by omega)]
      refine (hj _ _ k hk).trans ?_
      rw [allB, hm0, hm1]
  · (refine xG ?_)
    have h1' : i = 16 := xW
    subst h1'
    obtain ⟨L, hL, hlen⟩ : ∃ L, allB (markOf m o s) 16 = L ∧ L.length = 16 * 16 := ⟨_, rfl, allB_length _ _⟩
    refine wD <| cutE <| loopX <| blockX <| cutG <| Tri.of Tryz.mixed Tryz.T_ok ?_
    rw [hL]
    (refine xB ?_)
    (refine wP _ _ (cellsNew_op Tryz.T_ok rfl rfl rfl) ?_; refine xZ ?_)
    (apply wP; exact (call_op rfl (entersB_of Tryz.func45 (by kernel_rfl)) rfl ((digest_can 107 [L] (short1 _ _ (by rw [hlen]; decide))).at [11, 7] ⟨lend_plain rfl, lend_parts [L] rfl rfl rfl ⟨lend_vecN (lo := 0) hlen.symm rfl rfl (by show 0 + L.length ≤ 16 * 16; omega) (fun i _ => by rw [Nat.zero_add]), trivial⟩, trivial⟩ trivial)); refine xZ ?_)
    exact wD (Ends.plain (v := hashX (dig 107 [L])) (.inr rfl) rfl (by rw [pubH, hL]))
end Go.Proofs.YtnpkdoggfnlapaaGreatDoor
namespace Go.Proofs.YtnpkdoggfnlapaaGreatDoor
set_option maxRecDepth 100000
open Go.Sx
end Go.Proofs.YtnpkdoggfnlapaaGreatDoor
namespace Go.Proofs.YtnpkdoggfnlapaaGreatDoor
set_option maxRecDepth 100000
open Go.Sx
def halfN (n : Nat) : Nat := 2 ^ Nat.log2 (n - 1)
theorem half_pos (n : Nat) : 0 < halfN n := Nat.two_pow_pos _
theorem half_lt {n : Nat} (h : 2 ≤ n) : halfN n < n := by
  have := Nat.log2_self_le (n := n - 1) (by omega)
  unfold halfN; omega
theorem half_eq {n k : Nat} (h : 2 ≤ n) (h1 : 2 ^ k < n) (h2 : n ≤ 2 * 2 ^ k) : halfN n = 2 ^ k := by
  unfold halfN
  congr 1
  refine (Nat.log2_eq_iff (by omega)).2 ⟨by omega, ?_⟩
  rw [Nat.pow_succ]; omega
def rootF : Nat → (Nat → H8) → Nat → H8
  | 0, _, _ => zeroH
  | f + 1, h, n => if n = 0 then zeroH else if n = 1 then leafH (h 0) else joinH (rootF f h (halfN n)) (rootF f (fun i => h (halfN n + i)) (n - halfN n))
def rootN (h : Nat → H8) (n : Nat) : H8 := rootF n h n
theorem rootF_fuel : ∀ (f g n : Nat) (h : Nat → H8), n ≤ f → n ≤ g → rootF f h n = rootF g h n
  | 0, g, n, h, h1, _ => by
    obtain rfl : n = 0 := by omega
    cases g with
    | zero => rfl
    | succ g => simp [rootF]
  | f + 1, 0, n, h, _, h2 => by
    obtain rfl : n = 0 := by omega
    simp [rootF]
  | f + 1, g + 1, n, h, h1, h2 => by
    simp only [rootF]
    by_cases h0 : n = 0
    · rw [if_pos h0, if_pos h0]
    · by_cases h3 : n = 1
      · rw [if_neg h0, if_neg h0, if_pos h3, if_pos h3]
      · have a1 := half_pos n
        have a2 := half_lt (n := n) (by omega)
        rw [if_neg h0, if_neg h0, if_neg h3, if_neg h3, rootF_fuel f g _ _ (by omega) (by omega), rootF_fuel f g _ _ (by omega) (by omega)]
theorem rootN_step {n : Nat} (hn : 2 ≤ n) (h : Nat → H8) : rootN h n = joinH (rootN h (halfN n)) (rootN (fun i => h (halfN n + i)) (n - halfN n)) := by
  have a1 := half_pos n
  have a2 := half_lt hn
  obtain ⟨m, rfl⟩ : ∃ m, n = m + 1 := ⟨n - 1, by omega⟩
  unfold rootN
  rw [rootF, if_neg (by omega), if_neg (by omega)]
  congr 1
  · exact rootF_fuel _ _ _ _ (by omega) (by omega)
  · exact rootF_fuel _ _ _ _ (by omega) (by omega)
def turnsF : Nat → Nat → Nat → List Bool
  | 0, _, _ => []
  | f + 1, i, n => if n ≤ 1 then [] else if i < halfN n then turnsF f i (halfN n) ++ [false] else turnsF f (i - halfN n) (n - halfN n) ++ [true]
def turnsN (i n : Nat) : List Bool := turnsF n i n
def stepU (x : H8) (b : Bool) (p : H8) : H8 := if b = true then joinH p x else joinH x p
def upL : H8 → List Bool → List H8 → H8
  | x, b :: bs, p :: ps => upL (stepU x b p) bs ps
  | x, _, _ => x
def listH (p : Nat → H8) (L : Nat) : List H8 := (List.range L).map p
def leads (root x : H8) (i n : Nat) (p : Nat → H8) (L : Nat) : Bool := decide (L = (turnsN i n).length) && decide (upL (leafH x) (turnsN i n) (listH p L) = root)
end Go.Proofs.YtnpkdoggfnlapaaGreatDoor
namespace Go.Proofs.YtnpkdoggfnlapaaGreatDoor
set_option maxRecDepth 100000
open Go.Sx
end Go.Proofs.YtnpkdoggfnlapaaGreatDoor
namespace Go.Proofs.YtnpkdoggfnlapaaGreatDoor
set_option maxRecDepth 100000
open Go.Sx
theorem lend_elem {M : Mem} {rd : List Nat} {c off sz sz1 i k cap n : Nat} {f g : Nat → List Value} (hm : M.get c = some (.ro sz n f)) (hrd : nmem c rd = true) (hoff : off = i * sz) (hi : i < n) (hl : ∀ j, j < k → (g j).length = sz1) (hf : f i = tabF g 0 k) : Lends M rd (.one (.sla c off sz1 k cap)) (.row sz1 k g) := by
  refine Lends.row ?_
  intro β ow w v _ h hr
  have hh := hr c ((nmem_iff c rd).1 hrd) _ hm
  simp only [CV.rel, SV.rel] at h
  obtain ⟨a, h1, h2, h3⟩ := h
  simp only [Holds] at hh
  by_cases hn : (β c).nil = true
  · rw [if_pos hn] at hh; omega
  rw [if_neg hn] at hh
  refine ⟨(β c).part off cap, ?_, ?_⟩
  · have hn' : ¬ ((β c).part off cap).nil = true := hn
    simp only [SV.rel]
    rw [if_neg hn']
    refine ⟨a, by rw [h1]; simp [Loc.part], by simpa [Loc.part] using h2, fun hl => ?_⟩
    rw [Loc.part_addr, h3 (by simpa [Loc.part] using hl)]
    simp
  · unfold RoAt
    rw [if_neg (show ¬ ((β c).part off cap).nil = true from hn)]
    refine ⟨⟨hh.2.1, .inl hh.1⟩, fun j hj => ⟨hl j hj, fun q u hu => ?_⟩⟩
    obtain ⟨_, e2⟩ := hh.2.2 i hi
    have hq : q < sz1 := by rw [← hl j hj]; exact (List.getElem?_eq_some_iff.1 hu).1
    rw [Loc.part_addr, hoff]
    refine e2 (j * sz1 + q) u ?_
    rw [hf, tabF_eq, flat_get hl hj hq]
    exact hu
theorem cut_can (n : Nat) (h1 : 2 ≤ n) (h2 : n ≤ 65536) : Reads Tryz.prog 195 [.plain (.one (.raw (.int .i64 n)))] [] (XV.int .i64 (halfN n)) := by
  refine Reads.of Tryz.T_ok Tryz.func195 rfl _ _ _ rfl rfl (fun C hC => ?_)
  (replace hC : C.n0 = 1 := hC; change Tri _ _ _ ⟨_, _, 1⟩ _)
  (refine Tri.cut 2 Tryz.mixed Tryz.T_ok ?_; refine xZ ?_)
  refine wD <| cutG <| Tri.seq <| Tri.block ?_
  refine Tri.loop (α := { x : Nat × Nat // x.2 = 2 ^ x.1 ∧ x.2 < n }) (fun x => ⟨[some (XV.int .i64 n), none, none, some (XV.int .i64 x.1.2)] ++ List.replicate 7 none, [], 1⟩) (fun x => n - x.1.2) ⟨(0, 1), rfl, by dsimp only; omega⟩ ?_ ?_
  · exact Ent.ren [0] (by decide) rfl (fun i hi => by replace hi := Nat.lt_of_lt_of_eq hi hC; revert i; decide) (Nat.le_trans (Nat.le_of_eq hC) (by decide)) rfl (by repeat' (first | exact trivial | exact rfl | refine ⟨?_, ?_⟩ | fail)) (by repeat' (first | exact trivial | exact ⟨_, rfl, rfl, rfl, Nat.le_refl _, fun _ _ => rfl⟩ | exact ⟨_, rfl, rfl, rfl, fun _ _ => rfl⟩ | exact ⟨_, rfl, rfl, rfl⟩ | exact ⟨_, rfl, rfl⟩ | refine ⟨?_, ?_⟩ | fail))
  rintro ⟨⟨j, p⟩, hp, hn⟩
  dsimp only at hp hn ⊢
  have hp0 : 0 < p := by rw [hp]; exact Nat.two_pow_pos _
  have e1 : IntKind.i64.wrap (2 * (p : Int)) = ((2 * p : Nat) : Int) := xW
  (refine Tri.cut 1 Tryz.mixed Tryz.T_ok ?_; refine xZ ?_)
  simp only [e1]
  refine wC (fun h3 => ?_) (fun h3 => ?_)
  · have h3' : 2 * p < n := xW
    (refine xG ?_)
    refine wD <| cutG <| Tri.block <| Tri.of Tryz.mixed Tryz.T_ok ?_
    (refine xB ?_)
    simp only [e1]
    refine wD <| blockN <| loopN ⟨⟨(j + 1, 2 * p), by dsimp only; rw [hp, Nat.pow_succ]; omega, h3'⟩, by dsimp only; omega, ?_⟩
    exact Ent.ren [0] (by decide) rfl (fun i hi => by replace hi := Nat.lt_of_lt_of_eq hi hC; revert i; decide) (Nat.le_trans (Nat.le_of_eq hC) (by decide)) rfl (by repeat' (first | exact trivial | exact rfl | refine ⟨?_, ?_⟩ | fail)) (by repeat' (first | exact trivial | exact ⟨_, rfl, rfl, rfl, Nat.le_refl _, fun _ _ => rfl⟩ | exact ⟨_, rfl, rfl, rfl, fun _ _ => rfl⟩ | exact ⟨_, rfl, rfl, rfl⟩ | exact ⟨_, rfl, rfl⟩ | refine ⟨?_, ?_⟩ | fail))
  · have h3' : n ≤ 2 * p := xW
    (refine xG ?_)
    refine wD <| cutE <| loopX <| blockX <| cutG <| Tri.of Tryz.mixed Tryz.T_ok ?_
    (refine xB ?_)
    refine wD (Ends.plain (.inr rfl) rfl ?_)
    rw [half_eq (k := j) h1 (by omega) (by omega), hp]
set_option maxHeartbeats 1000000 in
theorem root_can : ∀ (n : Nat), 1 ≤ n → n ≤ 65536 → ∀ h : Nat → H8, Reads Tryz.prog 161 [.row 8 n (hashF h)] [] (hashX (rootN h n))
  | n, h1, h2, h => by
    refine Reads.of Tryz.T_ok Tryz.func161 rfl _ _ _ rfl rfl (fun C hC => ?_)
    (replace hC : C.n0 = 1 := hC; change Tri _ _ _ ⟨_, _, 1⟩ _)
    refine Tri.of Tryz.mixed Tryz.T_ok ?_
    (refine xB ?_)
    (refine wFd ?_ ?_; (first | refine decide_eq_false ?_ | rw [beq_eq_false_iff_ne] | rw [bne_eq_false_iff_eq]); exact xW; refine xG ?_)
    (refine wFd ?_ ?_; (first | refine decide_eq_false ?_ | rw [beq_eq_false_iff_ne] | rw [bne_eq_false_iff_eq]); exact xW; refine xG ?_)
    refine wC (fun h3 => ?_) (fun h3 => ?_)
    · obtain rfl : n = 1 := by
        have : (n : Int) = 1 := by simpa using h3
        omega
      (refine xG ?_)
      (repeat (refine wN ?_ ?_; exact xW; refine xG ?_))
      (refine wP _ _ (cellsNew_op Tryz.T_ok rfl rfl rfl) ?_; refine xZ ?_)
      (apply wP; exact (call_op rfl (entersB_of Tryz.func45 (by kernel_rfl)) rfl ((digest_can 108 [(h 0).l] (short1 _ _ (by simp [H8.l_len]))).at [0, 18] ⟨lend_plain rfl, lend_parts [(h 0).l] rfl rfl rfl ⟨lend_elem (i := 0) rfl rfl rfl (by omega) (fun _ _ => rfl) rfl, trivial⟩, trivial⟩ trivial)); refine xZ ?_)
      exact wD (Ends.plain (.inr rfl) rfl rfl)
    · have h3' : n ≠ 1 := by
        intro e; subst e; simp at h3
      have a1 := half_pos n
      have a2 := half_lt (n := n) (by omega)
      (refine xG ?_)
      (apply wP; exact (call_op rfl (entersB_of Tryz.func195 (by kernel_rfl)) rfl ((cut_can n (by omega) h2).at [] ⟨lend_plain rfl, trivial⟩ trivial)); refine xZ ?_)
      (repeat (refine wN ?_ ?_; exact xW; refine xG ?_))
      (apply wP; exact (call_op rfl (entersB_of Tryz.func161 (by kernel_rfl)) rfl ((root_can (halfN n) a1 (by omega) h).at [0] ⟨lend_ro rfl rfl (by omega) (fun i _ => by rw [Nat.zero_add]), trivial⟩ trivial)); refine xZ ?_)
      (repeat (refine wN ?_ ?_; exact xW; refine xG ?_))
      simp only [Nat.zero_add, Int.toNat_natCast]
      (apply wP; exact (call_op rfl (entersB_of Tryz.func161 (by kernel_rfl)) rfl ((root_can (n - halfN n) (by omega) (by omega) (fun i => h (halfN n + i))).at [0] ⟨lend_ro (lo := halfN n) rfl rfl (by omega) (fun i _ => rfl), trivial⟩ trivial)); refine xZ ?_)
      (apply wP; exact (call_op rfl (entersB_of Tryz.func182 (by kernel_rfl)) rfl ((rtwo_can 109 (rootN h (halfN n)) (rootN (fun i => h (halfN n + i)) (n - halfN n))).at [] ⟨lend_plain rfl, lend_plain rfl, lend_plain rfl, trivial⟩ trivial)); refine xZ ?_)
      refine wD (Ends.plain (.inr rfl) rfl ?_)
      rw [rootN_step (n := n) (by omega) h]
      rfl
  termination_by n => n
end Go.Proofs.YtnpkdoggfnlapaaGreatDoor
namespace Go.Proofs.YtnpkdoggfnlapaaGreatDoor
set_option maxRecDepth 100000
open Go.Sx
structure SigM where
  idx : Int
  opn : Nat → H8
  shut : Nat → H8
  path : Nat → H8
def SigM.cells (s : SigM) : List Value := .int .i64 s.idx :: (tabF (hashF s.opn) 0 16 ++ tabF (hashF s.shut) 0 16 ++ tabF (hashF s.path) 0 3)
def SigM.x (s : SigM) : CV := .agg (s.cells.map .raw)
theorem allB_congr {mk mk' : Nat → Nat → H8} (h : ∀ i, i < 16 → ∀ b, b < 2 → mk i b = mk' i b) : ∀ n, n ≤ 16 → allB mk n = allB mk' n
  | 0, _ => rfl
  | n + 1, hn => by simp only [allB]; rw [allB_congr h n (by omega), h n (by omega) 0 (by decide), h n (by omega) 1 (by decide)]
theorem pubH_congr {mk mk' : Nat → Nat → H8} (h : ∀ i, i < 16 → ∀ b, b < 2 → mk i b = mk' i b) : pubH mk = pubH mk' := by
  unfold pubH; rw [allB_congr h 16 (Nat.le_refl _)]
def pubS (seed : H8) (k : Nat) : H8 := pubH fun i b => markH (secretH seed (k : Int) (i : Int) (b : Int))
theorem pub_signed (seed : H8) (k : Nat) (m : H8) : pubH (markOf m (openS seed (k : Int) m) (shutS seed (k : Int) m)) = pubS seed k := by
  refine pubH_congr fun i _ b hb => ?_
  unfold markOf openS shutS
  have h2 := bitN_cases m i
  split
  · rename_i e; rw [e]
  · have : b = 1 - bitN m i := by omega
    rw [this]
theorem hash_next {g : Nat → H8} {f : Nat → List Value} {L k : Nat} (hf : f 0 = (g L).cells) (hk : k < L + 1) : joinF (hashF g) L f k = hashF g k := by
  simp only [joinF, nblt]
  by_cases h : k < L
  · simp [h]
  · obtain rfl : k = L := by omega
    simp [hf, hashF]
def pubsSt (seed : H8) (k : Nat) : St :=
  ⟨[none, some (XV.sv (.ptr 1 0 0 0)), none, some (XV.sv (.slc 2 8 0 k)), some (XV.int .i64 k)] ++ List.replicate 21 none,
   [(1, .cells 29 (seed.cells.map .raw)), (2, .vec 29 8 k (hashF (pubS seed)))], 3⟩
set_option maxHeartbeats 2000000 in
theorem publics_can (seed : H8) : Makes Tryz.prog 162 [.plain seed.x] [] (XV.sv (.slc 0 8 0 8)) (.vec 29 8 8 (hashF (pubS seed))) := by
  refine Makes.of Tryz.T_ok Tryz.func162 rfl _ _ _ _ rfl rfl rfl rfl 2 (fun C hC => ?_)
  (replace hC : C.n0 = 1 := hC; change Tri _ _ _ ⟨_, _, 1⟩ _)
  (refine Tri.cut 2 Tryz.mixed Tryz.T_ok ?_; refine xZ ?_)
  refine wD <| cutG <| Tri.ent (Ent.nils (t := 3) rfl 29 8) <| Tri.seq ?_
  (refine Tri.cut 1 Tryz.mixed Tryz.T_ok ?_; refine xZ ?_)
  refine wD <| cutG <| Tri.block ?_
  refine Tri.loop (α := { k : Nat // k ≤ 8 }) (fun k => pubsSt seed k.1) (fun k => 8 - k.1) ⟨0, Nat.zero_le _⟩ ?_ ?_
  · ((try dsimp only); refine Ent.renC [0, 1, 4] hC ?_ ?_ <;> repeat' (first | exact trivial | exact rfl | exact ⟨_, rfl, rfl, rfl, Nat.le_refl _, fun _ _ => rfl⟩ | exact ⟨_, rfl, rfl, rfl, fun _ _ => rfl⟩ | exact ⟨_, rfl, rfl, rfl⟩ | exact ⟨_, rfl, rfl⟩ | refine ⟨_, rfl, rfl, rfl, by omega, fun k hk => ?_⟩ | refine ⟨?_, ?_⟩ | fail))
    exact absurd hk (Nat.not_lt_zero _)
  rintro ⟨k, hk⟩
  dsimp only
  (refine Tri.cut 1 Tryz.mixed Tryz.T_ok ?_; refine xZ ?_)
  refine wC (fun h1 => ?_) (fun h1 => ?_)
  · (refine xG ?_)
    have h1' : k < 8 := xW
    have hw : IntKind.i64.wrap ((k : Int) + 1) = ((k + 1 : Nat) : Int) := xW
    refine wD <| cutG <| Tri.seq <| Tri.block <| Tri.of Tryz.mixed Tryz.T_ok ?_
    (refine xB ?_)
    (apply wP; exact (call_op rfl (entersB_of Tryz.func165 (by kernel_rfl)) rfl ((sign_can seed (k : Int) zeroH).at [] ⟨lend_plain rfl, lend_plain rfl, lend_plain rfl, trivial⟩ trivial)); refine xZ ?_)
    (apply wP; exact (call_op rfl (entersB_of Tryz.func196 (by kernel_rfl)) rfl ((rpublic_can zeroH (openS seed (k : Int) zeroH) (shutS seed (k : Int) zeroH)).at [] ⟨lend_plain rfl, lend_plain rfl, lend_plain rfl, trivial⟩ trivial)); refine xZ ?_)
    (refine wP _ _ (append_op Tryz.T_ok rfl rfl rfl rfl rfl [2, 21] (old_vec rfl rfl (Nat.le_refl _) rfl) (new_vec (lo := 0) rfl rfl (Nat.le_refl _) rfl) rfl (lt1 rfl) (by simp only [maxLen]; omega) (by dsimp only; omega)) ?_; refine xZ ?_)
    refine wD <| blockN <| cutG <| Tri.of Tryz.mixed Tryz.T_ok ?_
    (refine xB ?_)
    refine wD <| loopN ⟨⟨k + 1, h1'⟩, by dsimp only; omega, ?_⟩
    rw [hw]
    ((try dsimp only); refine Ent.renC [0, 1, 22] hC ?_ ?_ <;> repeat' (first | exact trivial | exact rfl | exact ⟨_, rfl, rfl, rfl, Nat.le_refl _, fun _ _ => rfl⟩ | exact ⟨_, rfl, rfl, rfl, fun _ _ => rfl⟩ | exact ⟨_, rfl, rfl, rfl⟩ | exact ⟨_, rfl, rfl⟩ | refine ⟨_, rfl, rfl, rfl, by omega, fun k hk => ?_⟩ | refine ⟨?_, ?_⟩ | fail))
    rename_i j hj
    exact hash_next (g := pubS seed) (L := j) (congrArg H8.cells (pub_signed seed j zeroH)) hk
  · (refine xG ?_)
    have h1' : k = 8 := xW
    subst h1'
    refine wD <| cutE <| loopX <| blockX <| cutG <| Tri.of Tryz.mixed Tryz.T_ok ?_
    (refine xB ?_)
    exact wD (Ends.made (.inr rfl) (Ent.refl _) rfl (Nat.le_succ _) rfl)
def treeH (seed : H8) : H8 := rootN (pubS seed) 8
theorem tree_can (seed : H8) : Reads Tryz.prog 117 [.plain seed.x] [] (hashX (treeH seed)) := by
  refine Reads.of Tryz.T_ok Tryz.func117 rfl _ _ _ rfl rfl (fun C hC => ?_)
  (replace hC : C.n0 = 1 := hC; change Tri _ _ _ ⟨_, _, 1⟩ _)
  refine Tri.of Tryz.mixed Tryz.T_ok ?_
  (refine xB ?_)
  (apply wP; exact (call_op rfl (entersB_of Tryz.func162 (by kernel_rfl)) rfl ((publics_can seed).at [] ⟨lend_plain rfl, trivial⟩ trivial)); refine xZ ?_)
  (apply wP; exact (call_op rfl (entersB_of Tryz.func161 (by kernel_rfl)) rfl ((root_can 8 (by decide) (by decide) (pubS seed)).at [4] ⟨lend_vec (lo := 0) rfl rfl (by decide) (fun i _ => by rw [Nat.zero_add]), trivial⟩ trivial)); refine xZ ?_)
  exact wD (Ends.plain (.inr rfl) rfl rfl)
end Go.Proofs.YtnpkdoggfnlapaaGreatDoor
namespace Go.Proofs.YtnpkdoggfnlapaaGreatDoor
set_option maxRecDepth 100000
open Go.Sx
theorem lend_ro0 {M : Mem} {rd : List Nat} {c sz n : Nat} {f : Nat → List Value} (hm : M.get c = some (.ro sz n f)) (hrd : nmem c rd = true) : Lends M rd (.one (.slc c sz 0 n)) (.row sz n f) :=
  lend_ro hm hrd (Nat.le_of_eq (Nat.zero_add _)) fun i _ => by rw [Nat.zero_add]
theorem lend_vec0 {M : Mem} {rd : List Nat} {c e sz n : Nat} {f : Nat → List Value} (hm : M.get c = some (.vec e sz n f)) (hrd : nmem c rd = true) : Lends M rd (.one (.slc c sz 0 n)) (.row sz n f) :=
  lend_vec hm hrd (Nat.le_of_eq (Nat.zero_add _)) fun i _ => by rw [Nat.zero_add]
structure OutM where
  to : H8
  amt : Int64
  deriving DecidableEq, Inhabited
def OutM.cells (o : OutM) : List Value := o.to.cells ++ [i64 o.amt]
structure FwdM where
  side : Int64
  acct : Int64
  owner : H8
  amt : Int64
  deriving DecidableEq, Inhabited
def FwdM.cells (f : FwdM) : List Value := i64 f.side :: i64 f.acct :: (f.owner.cells ++ [i64 f.amt])
def sig0 : SigM := ⟨0, fun _ => zeroH, fun _ => zeroH, fun _ => zeroH⟩
structure InM where
  pt : Pt
  key : H8
  sig : SigM
def InM.cells (x : InM) : List Value := x.pt.cells ++ (x.key.cells ++ x.sig.cells)
instance : Inhabited InM := ⟨⟨default, zeroH, sig0⟩⟩
structure SgdM where
  key : Int
  sig : SigM
def SgdM.cells (x : SgdM) : List Value := .int .i64 x.key :: x.sig.cells
instance : Inhabited SgdM := ⟨⟨0, sig0⟩⟩
structure ParM where
  len : Int
  win : Int
  need : Int
  keys : List H8
structure CertM where
  side : Int
  ep : Int
  qual : Int
  fin : H8
  root : H8
  outs : List OutM
  sigs : List SgdM
structure AccM where
  owner : H8
  amt : Int
  nonce : Int
def AccM.cells (a : AccM) : List Value := a.owner.cells ++ [.int .i64 a.amt, .int .i64 a.nonce]
structure ClaimM where
  side : Int
  acct : Int
  st : AccM
  proof : Nat → H8
def ClaimM.cells (c : ClaimM) : List Value := .int .i64 c.side :: .int .i64 c.acct :: (c.st.cells ++ tabF (hashF c.proof) 0 16)
structure TxM where
  kind : Int
  height : Int
  ins : List InM
  outs : List OutM
  fwds : List FwdM
  par : ParM
  cert : CertM
  claim : ClaimM
def par0 : ParM := ⟨0, 0, 0, []⟩
def cert0 : CertM := ⟨0, 0, 0, zeroH, zeroH, [], []⟩
def claim0 : ClaimM := ⟨0, 0, ⟨zeroH, 0, 0⟩, fun _ => zeroH⟩
def rowOf {E : Type} [Inhabited E] (cells : E → List Value) (l : List E) : Nat → List Value := fun i => cells (l.getD i default)
def insF (l : List InM) := rowOf InM.cells l
def outsF (l : List OutM) := rowOf OutM.cells l
def fwdsF (l : List FwdM) := rowOf FwdM.cells l
def sgdsF (l : List SgdM) := rowOf SgdM.cells l
def keysF (l : List H8) := rowOf H8.cells l
def iC (n : Int) : AC := .raw (.int .i64 n)
def rC (l : List Value) : List AC := l.map .raw
def ParM.ac (p : ParM) : List AC := [iC p.len, iC p.win, iC p.need, .row 8 p.keys.length (keysF p.keys)]
def CertM.ac (c : CertM) : List AC := iC c.side :: iC c.ep :: iC c.qual :: (rC c.fin.cells ++ (rC c.root.cells ++ [.row 9 c.outs.length (outsF c.outs), .row 282 c.sigs.length (sgdsF c.sigs)]))
def TxM.ac (t : TxM) : List AC := iC t.kind :: iC t.height :: .row 298 t.ins.length (insF t.ins) :: .row 9 t.outs.length (outsF t.outs) :: .row 11 t.fwds.length (fwdsF t.fwds) :: (t.par.ac ++ (t.cert.ac ++ rC t.claim.cells))
def withinB (n a b : Int) : Bool := decide (a ≤ n) && decide (n ≤ b)
theorem within_can (n a b : Int) : Reads Tryz.prog 134 [.plain (.one (.raw (.int .i64 n))), .plain (.one (.raw (.int .i64 a))), .plain (.one (.raw (.int .i64 b)))] [] (XV.bool (withinB n a b)) := by
  refine Reads.of Tryz.T_ok Tryz.func134 rfl _ _ _ rfl rfl (fun C hC => ?_)
  (replace hC : C.n0 = 3 := hC; change Tri _ _ _ ⟨_, _, 3⟩ _)
  refine Tri.of Tryz.mixed Tryz.T_ok ?_
  (refine xB ?_)
  refine wC (fun h1 => ?_) (fun h1 => ?_)
  · (refine xG ?_)
    exact wD (Ends.plain (.inr rfl) rfl (by rw [withinB, h1]; rfl))
  · (refine xG ?_)
    exact wD (Ends.plain (.inr rfl) rfl (by rw [withinB, h1]; rfl))
def moneyB (n : Int) : Bool := withinB n 1 1125899906842624
theorem moneyOK_can (n : Int) : Reads Tryz.prog 176 [.plain (.one (.raw (.int .i64 n)))] [] (XV.bool (moneyB n)) := by
  refine Reads.of Tryz.T_ok Tryz.func176 rfl _ _ _ rfl rfl (fun C hC => ?_)
  (replace hC : C.n0 = 1 := hC; change Tri _ _ _ ⟨_, _, 1⟩ _)
  refine Tri.of Tryz.mixed Tryz.T_ok ?_
  (refine xB ?_)
  (apply wP; exact (call_op rfl (entersB_of Tryz.func134 (by kernel_rfl)) rfl ((within_can n 1 1125899906842624).at [] ⟨lend_plain rfl, lend_plain rfl, lend_plain rfl, trivial⟩ trivial)); refine xZ ?_)
  exact wD (Ends.plain (.inr rfl) rfl rfl)
def acctB (s n : Int) : Bool := withinB s 0 7 && withinB n 0 65535
theorem acctOK_can (s n : Int) : Reads Tryz.prog 179 [.plain (.one (.raw (.int .i64 s))), .plain (.one (.raw (.int .i64 n)))] [] (XV.bool (acctB s n)) := by
  refine Reads.of Tryz.T_ok Tryz.func179 rfl _ _ _ rfl rfl (fun C hC => ?_)
  (replace hC : C.n0 = 2 := hC; change Tri _ _ _ ⟨_, _, 2⟩ _)
  refine Tri.of Tryz.mixed Tryz.T_ok ?_
  (refine xB ?_)
  (apply wP; exact (call_op rfl (entersB_of Tryz.func134 (by kernel_rfl)) rfl ((within_can s 0 7).at [] ⟨lend_plain rfl, lend_plain rfl, lend_plain rfl, trivial⟩ trivial)); refine xZ ?_)
  refine wC (fun h1 => ?_) (fun h1 => ?_)
  · (refine xG ?_)
    (apply wP; exact (call_op rfl (entersB_of Tryz.func134 (by kernel_rfl)) rfl ((within_can n 0 65535).at [] ⟨lend_plain rfl, lend_plain rfl, lend_plain rfl, trivial⟩ trivial)); refine xZ ?_)
    exact wD (Ends.plain (.inr rfl) rfl (by rw [acctB, h1]; rfl))
  · (refine xG ?_)
    exact wD (Ends.plain (.inr rfl) rfl (by rw [acctB, h1]; rfl))
def zeroB (h : H8) : Bool := decide (h = zeroH)
theorem zero_can (h : H8) : Reads Tryz.prog 145 [.plain h.x] [] (XV.bool (zeroB h)) := by
  refine Reads.of Tryz.T_ok Tryz.func145 rfl _ _ _ rfl rfl (fun C hC => ?_)
  (replace hC : C.n0 = 1 := hC; change Tri _ _ _ ⟨_, _, 1⟩ _)
  refine Tri.of Tryz.mixed Tryz.T_ok ?_
  (refine xB ?_)
  (refine wP _ _ (eq_op hashE rfl h zeroH rfl rfl) ?_; refine xZ ?_)
  exact wD (Ends.plain (.inr rfl) rfl rfl)
theorem rzero_can (h : H8) : Reads Tryz.prog 147 [.plain h.x] [] (XV.bool (zeroB h)) := by
  refine Reads.of Tryz.T_ok Tryz.func147 rfl _ _ _ rfl rfl (fun C hC => ?_)
  (replace hC : C.n0 = 1 := hC; change Tri _ _ _ ⟨_, _, 1⟩ _)
  refine Tri.of Tryz.mixed Tryz.T_ok ?_
  (refine xB ?_)
  (refine wP _ _ (eq_op hashE rfl h zeroH rfl rfl) ?_; refine xZ ?_)
  exact wD (Ends.plain (.inr rfl) rfl rfl)
end Go.Proofs.YtnpkdoggfnlapaaGreatDoor
namespace Go.Proofs.YtnpkdoggfnlapaaGreatDoor
set_option maxRecDepth 100000
open Go.Sx
def AD.cell (sz : Nat) (cells : List Value) : AD := ⟨1, fun i => .one (.ptr i 0 sz 0), fun i => [(i, .ro sz 1 fun _ => cells)], fun h => one_low rfl h⟩
def InM.x (x : InM) : CV := .agg (x.cells.map .raw)
end Go.Proofs.YtnpkdoggfnlapaaGreatDoor
namespace Go.Proofs.YtnpkdoggfnlapaaGreatDoor
set_option maxRecDepth 100000
open Go.Sx
def ptAt (id : H8) (i : Nat) : Pt := ⟨id, Int64.ofNat i⟩
def outsGo (id : H8) (h : Int64) (base : Bool) : USet → Nat → List OutM → USet × Int
  | S, _, [] => (S, 0)
  | S, i, o :: r => if S.has (ptAt id i) = true then (S, 6) else if S.okB (ptAt id i) ⟨o.to, o.amt, h, base⟩ = true then outsGo id h base (S.add1 (ptAt id i) ⟨o.to, o.amt, h, base⟩) (i + 1) r else (S, 5)
theorem dropD_cons {E : Type} [Inhabited E] {l : List E} {i : Nat} (hi : i < l.length) : l.drop i = l.getD i default :: l.drop (i + 1) := by
  rw [List.drop_eq_getElem_cons hi, List.getD_eq_getElem?_getD, List.getElem?_eq_getElem hi]; rfl
theorem ofNat_toInt {i : Nat} (h : i < 1000000) : ((i : Nat) : Int) = (Int64.ofNat i).toInt := by
  rw [Int64.toInt_ofNat_of_lt (by omega)]
structure OutsI (id : H8) (h : Int64) (base : Bool) (S : USet) (l : List OutM) where
  i : Nat
  W : USet
  le : i ≤ l.length
  go : outsGo id h base S 0 l = outsGo id h base W i (l.drop i)
  steps : W.steps.length = S.steps.length + i
set_option maxHeartbeats 2000000 in
theorem outs_can (S : USet) (id : H8) (l : List OutM) (h : Int64) (base : Bool) (hl : l.length ≤ 1000) (hS : S.steps.length < 900000) :
    Acts Tryz.prog 52 (.abs (usetP S)) (.abs (usetP (outsGo id h base S 0 l).1)) [.plain id.x, .row 9 l.length (outsF l), .plain (.one (.raw (.int .i64 h.toInt))), .plain (.one (.raw (.bool base)))] [] (XV.int .i64 (outsGo id h base S 0 l).2) := by
  refine Acts.of Tryz.T_ok Tryz.func52 rfl _ _ _ _ _ rfl rfl rfl (fun C hC => ?_)
  (replace hC : C.n0 = 5 := hC; change Tri _ _ _ ⟨_, _, 5⟩ _)
  (refine Tri.cut 2 Tryz.mixed Tryz.T_ok ?_; refine xZ ?_)
  refine wD <| cutG <| Tri.seq ?_
  (refine Tri.cut 1 Tryz.mixed Tryz.T_ok ?_; refine xZ ?_)
  refine wD <| cutG <| Tri.block ?_
  refine Tri.loop (α := OutsI id h base S l) (fun x => ⟨[some (XV.sv (.ptr 0 0 0 0)), none, none, some (XV.int .i64 h.toInt), some (XV.bool base), none, some (XV.sv (.ptr 5 0 0 0))] ++ List.replicate 11 none ++ [some (XV.sv (.slc 2 9 0 l.length)), some (XV.int .i64 l.length), some (XV.int .i64 x.i)] ++ List.replicate 23 none, [(0, .abs (usetP x.W)), (2, .ro 9 l.length (outsF l)), (5, .cells 29 (id.cells.map .raw))], 6⟩) (fun x => l.length - x.i) ⟨0, S, Nat.zero_le _, by rw [List.drop_zero], rfl⟩ ?_ ?_
  · ((try dsimp only); refine Ent.renC [0, 1, 2, 3, 4, 5] hC ?_ ?_ <;> repeat' (first | exact trivial | exact rfl | exact ⟨_, rfl, rfl, rfl, Nat.le_refl _, fun _ _ => rfl⟩ | exact ⟨_, rfl, rfl, rfl, fun _ _ => rfl⟩ | exact ⟨_, rfl, rfl, rfl⟩ | exact ⟨_, rfl, rfl⟩ | refine ⟨_, rfl, rfl, rfl, by omega, fun k hk => ?_⟩ | refine ⟨?_, ?_⟩ | fail))
  rintro ⟨i, W, hi, hg, hst⟩
  dsimp only
  (refine Tri.cut 2 Tryz.mixed Tryz.T_ok ?_; refine xZ ?_)
  refine wC (fun h1 => ?_) (fun h1 => ?_)
  · (refine xG ?_)
    have h1' : i < l.length := xW
    have hw : IntKind.i64.wrap ((i : Int) + 1) = ((i + 1 : Nat) : Int) := xW
    have e64 := ofNat_toInt (i := i) (by omega)
    rw [dropD_cons h1', outsGo] at hg
    refine wD <| cutG <| Tri.seq <| Tri.block <| Tri.of Tryz.mixed Tryz.T_ok ?_
    (refine xB ?_)
    (repeat (refine wN ?_ ?_; exact xW; refine xG ?_))
    simp only [Nat.zero_add, Int.toNat_natCast]
    rw [e64]
    (apply wP; exact (call_op rfl (entersB_of Tryz.func21 (by kernel_rfl)) rfl (get_spec W (ptAt id i) rfl rfl)); refine xZ ?_)
    refine wC (fun h2 => ?_) (fun h2 => ?_)
    · rw [if_pos h2] at hg
      (refine xG ?_)
      refine wD <| blockR <| cutR <| loopR <| blockR <| cutR ?_
      rw [hg]
      exact Ends.shutN (.inr rfl) (Ent.refl _) rfl rfl rfl
    · rw [if_neg (by rw [h2]; simp)] at hg
      (refine xG ?_)
      (apply wP; exact (call_op rfl (entersB_of Tryz.func99 (by kernel_rfl)) rfl (uadd_spec W (ptAt id i) ⟨(l.getD i default).to, (l.getD i default).amt, h, base⟩ (by omega) rfl rfl)); refine xZ ?_)
      refine wC (fun h3 => ?_) (fun h3 => ?_)
      · have h3 : W.okB (ptAt id i) ⟨(l.getD i default).to, (l.getD i default).amt, h, base⟩ = false := by simpa using h3
        rw [if_neg (by rw [h3]; simp)] at hg
        (refine xG ?_)
        refine wD <| blockR <| cutR <| loopR <| blockR <| cutR ?_
        rw [hg, USet.add, if_neg (by rw [h3]; simp)]
        exact Ends.shutN (.inr rfl) (Ent.refl _) rfl rfl rfl
      · have h3 : W.okB (ptAt id i) ⟨(l.getD i default).to, (l.getD i default).amt, h, base⟩ = true := by simpa using h3
        rw [if_pos h3] at hg
        (refine xG ?_)
        refine wD <| blockN <| cutG <| Tri.of Tryz.mixed Tryz.T_ok ?_
        (refine xB ?_)
        refine wD <| loopN ⟨⟨i + 1, W.add1 (ptAt id i) ⟨(l.getD i default).to, (l.getD i default).amt, h, base⟩, h1', hg, by simp only [USet.add1, List.length_append, List.length_singleton]; omega⟩, by dsimp only; omega, ?_⟩
        rw [← e64, hw, USet.add, if_pos h3]
        ((try dsimp only); refine Ent.renC [0, 1, 2, 3, 4, 5] hC ?_ ?_ <;> repeat' (first | exact trivial | exact rfl | exact ⟨_, rfl, rfl, rfl, Nat.le_refl _, fun _ _ => rfl⟩ | exact ⟨_, rfl, rfl, rfl, fun _ _ => rfl⟩ | exact ⟨_, rfl, rfl, rfl⟩ | exact ⟨_, rfl, rfl⟩ | refine ⟨_, rfl, rfl, rfl, by omega, fun k hk => ?_⟩ | refine ⟨?_, ?_⟩ | fail))
  · (refine xG ?_)
    have h1' : i = l.length := xW
    subst h1'
    rw [List.drop_length, outsGo] at hg
    refine wD <| cutE <| loopX <| blockX <| cutG <| Tri.of Tryz.mixed Tryz.T_ok ?_
    rw [hg]
    (refine xB ?_)
    exact wD (Ends.shutN (.inr rfl) (Ent.refl _) rfl rfl rfl)
end Go.Proofs.YtnpkdoggfnlapaaGreatDoor
namespace Go.Proofs.YtnpkdoggfnlapaaGreatDoor
set_option maxRecDepth 100000
open Go.Sx
set_option maxHeartbeats 2000000 in
theorem rcGet_spec (R : RC) (p : Pt) (hPC : R.P.length = R.C.length) (hlen : R.P.length < 1000000) {M : Mem} {c0 d : Nat} (hM : M.get c0 = some (.abs (rcP R))) (hd : Nat.beq d c0 = false) : CallSpec Tryz.prog 114 [.one (.ptr c0 0 0 0), p.cv] M d { v := .tup [(R.get p).cv, .one (.raw (.bool (R.isAt p)))], upd := [(c0, .abs (rcP R))], wr := [c0] } [c0] := by
  refine spec_obj Tryz.T_ok Tryz.func114 rfl [p.cv] (.tup [(R.get p).cv, .one (.raw (.bool (R.isAt p)))]) rfl rfl hM hd (fun C _ => ?_)
  refine RC.opens R 0 rfl ?_
  have hpl : R.pos p ≤ R.P.length := posIn_le p R.P
  (refine Tri.cut 3 Tryz.mixed Tryz.T_ok ?_; refine xZ ?_)
  (apply wP; exact (call_op rfl (entersB_of Tryz.func159 (by kernel_rfl)) rfl (rcAt_spec R p hlen rfl rfl rfl rfl rfl)); refine xZ ?_)
  refine wC (fun h1 => ?_) (fun h1 => ?_)
  · (refine xG ?_)
    simp only [Bool.not_eq_true'] at h1
    refine wD <| cutR (RC.ends R (.inr rfl) rfl rfl rfl rfl rfl ?_ rfl rfl rfl (Nat.le_refl _) (Nat.le_refl _) (fun _ _ => rfl) (fun _ _ => rfl))
    simp only [RC.get, h1]; rfl
  (refine xG ?_)
  simp only [Bool.not_eq_false'] at h1
  have hlt : R.pos p < R.P.length := by
    simp only [RC.isAt, Bool.and_eq_true, decide_eq_true_eq] at h1
    exact h1.1
  have hltC : R.pos p < R.C.length := by omega
  refine wD <| cutG <| Tri.of Tryz.mixed Tryz.T_ok ?_
  (refine xB ?_)
  (repeat (refine wN ?_ ?_; exact xW; refine xG ?_))
  refine wD (RC.ends R (.inr rfl) rfl rfl rfl rfl rfl ?_ rfl rfl rfl (Nat.le_refl _) (Nat.le_refl _) (fun _ _ => rfl) (fun _ _ => rfl))
  have h0 : 0 + ((R.pos p : Nat) : Int).toNat = R.pos p := by omega
  simp only [RC.get, h1, if_true, h0]; rfl
def AlikeR (S : USet) (R : RC) : Prop := ∀ p, R.isAt p = S.has p ∧ R.get p = S.get p
def routsGo (id : H8) (h : Int64) (base : Bool) : RC → Nat → List OutM → RC × Int
  | R, _, [] => (R, 0)
  | R, i, o :: r => if R.isAt (ptAt id i) = true then (R, 6) else if R.okB (ptAt id i) ⟨o.to, o.amt, h, base⟩ = true then routsGo id h base (R.add1 (ptAt id i) ⟨o.to, o.amt, h, base⟩) (i + 1) r else (R, 5)
theorem posIn_all_le (p : Pt) (l : List Pt) : posIn p l ≤ l.length := posIn_le p l
theorem radd1_len {R : RC} (hPC : R.P.length = R.C.length) (p : Pt) (c : Coin) : (R.add1 p c).P.length = R.P.length + 1 ∧ (R.add1 p c).P.length = (R.add1 p c).C.length := by
  have h := posIn_all_le p R.P
  have h' : R.pos p ≤ R.P.length := h
  simp only [RC.add1, List.length_append, List.length_take, List.length_drop, List.length_cons]
  omega
structure ROutsI (id : H8) (h : Int64) (base : Bool) (R : RC) (l : List OutM) where
  i : Nat
  W : RC
  le : i ≤ l.length
  go : routsGo id h base R 0 l = routsGo id h base W i (l.drop i)
  len : W.P.length = R.P.length + i
  same : W.P.length = W.C.length
def roSt (id : H8) (h : Int64) (base : Bool) (l : List OutM) (W : RC) (i : Nat) : St :=
  ⟨[some (XV.sv (.ptr 0 0 0 0)), none, some (XV.sv (.slc 2 9 0 l.length)), some (XV.int .i64 h.toInt), some (XV.bool base), none, some (XV.sv (.ptr 5 0 0 0)), none, none, none, none, some (XV.int .i64 i)] ++ List.replicate 30 none, [(0, .abs (rcP W)), (2, .ro 9 l.length (outsF l)), (5, .cells 29 (id.cells.map .raw))], 6⟩
set_option maxHeartbeats 2000000 in
theorem raddouts_can (R : RC) (id : H8) (l : List OutM) (h : Int64) (base : Bool) (hl : l.length ≤ 1000) (hPC : R.P.length = R.C.length) (hR : R.P.length < 900000) :
    Acts Tryz.prog 58 (.abs (rcP R)) (.abs (rcP (routsGo id h base R 0 l).1)) [.plain id.x, .row 9 l.length (outsF l), .plain (.one (.raw (.int .i64 h.toInt))), .plain (.one (.raw (.bool base)))] [] (XV.int .i64 (routsGo id h base R 0 l).2) := by
  refine Acts.of Tryz.T_ok Tryz.func58 rfl _ _ _ _ _ rfl rfl rfl (fun C hC => ?_)
  (replace hC : C.n0 = 5 := hC; change Tri _ _ _ ⟨_, _, 5⟩ _)
  (refine Tri.cut 1 Tryz.mixed Tryz.T_ok ?_; refine xZ ?_)
  refine wD <| cutG <| Tri.seq ?_
  (refine Tri.cut 1 Tryz.mixed Tryz.T_ok ?_; refine xZ ?_)
  refine wD <| cutG <| Tri.block ?_
  refine Tri.loop (α := ROutsI id h base R l) (fun x => roSt id h base l x.W x.i) (fun x => l.length - x.i) ⟨0, R, Nat.zero_le _, rfl, rfl, hPC⟩ ?_ ?_
  · unfold roSt
    ((try dsimp only); refine Ent.renC [0, 1, 2, 3, 4, 5] hC ?_ ?_ <;> repeat' (first | exact trivial | exact rfl | exact ⟨_, rfl, rfl, rfl, Nat.le_refl _, fun _ _ => rfl⟩ | exact ⟨_, rfl, rfl, rfl, fun _ _ => rfl⟩ | exact ⟨_, rfl, rfl, rfl⟩ | exact ⟨_, rfl, rfl⟩ | refine ⟨_, rfl, rfl, rfl, by omega, fun k hk => ?_⟩ | refine ⟨?_, ?_⟩ | fail))
  rintro ⟨i, W, hi, hg, hst, hWC⟩
  unfold roSt
  dsimp only
  (refine Tri.cut 1 Tryz.mixed Tryz.T_ok ?_; refine xZ ?_)
  refine wC (fun h1 => ?_) (fun h1 => ?_)
  · (refine xG ?_)
    have h1' : i < l.length := xW
    have hw : IntKind.i64.wrap ((i : Int) + 1) = ((i + 1 : Nat) : Int) := xW
    have e64 := ofNat_toInt (i := i) (by omega)
    rw [dropD_cons h1', routsGo] at hg
    refine wD <| cutG <| Tri.seq <| Tri.block <| Tri.of Tryz.mixed Tryz.T_ok ?_
    (refine xB ?_)
    rw [e64]
    (apply wP; exact (call_op rfl (entersB_of Tryz.func114 (by kernel_rfl)) rfl (rcGet_spec W (ptAt id i) hWC (by omega) rfl rfl)); refine xZ ?_)
    refine wC (fun h2 => ?_) (fun h2 => ?_)
    · rw [if_pos h2] at hg
      (refine xG ?_)
      refine wD <| blockR <| cutR <| loopR <| blockR <| cutR ?_
      rw [hg]
      exact Ends.shutN (.inr rfl) (Ent.refl _) rfl rfl rfl
    · rw [if_neg (by rw [h2]; simp)] at hg
      (refine xG ?_)
      rw [← e64]
      (repeat (refine wN ?_ ?_; exact xW; refine xG ?_))
      simp only [Nat.zero_add, Int.toNat_natCast]
      rw [e64]
      (apply wP; exact (call_op rfl (entersB_of Tryz.func115 (by kernel_rfl)) rfl (rcAdd_spec W (ptAt id i) ⟨(l.getD i default).to, (l.getD i default).amt, h, base⟩ hWC (by omega) rfl rfl)); refine xZ ?_)
      refine wC (fun h3 => ?_) (fun h3 => ?_)
      · have h3 : W.okB (ptAt id i) ⟨(l.getD i default).to, (l.getD i default).amt, h, base⟩ = false := by simpa using h3
        rw [if_neg (by rw [h3]; simp)] at hg
        (refine xG ?_)
        refine wD <| blockR <| cutR <| loopR <| blockR <| cutR ?_
        rw [hg, RC.add, if_neg (by rw [h3]; simp)]
        exact Ends.shutN (.inr rfl) (Ent.refl _) rfl rfl rfl
      · have h3 : W.okB (ptAt id i) ⟨(l.getD i default).to, (l.getD i default).amt, h, base⟩ = true := by simpa using h3
        rw [if_pos h3] at hg
        (refine xG ?_)
        refine wD <| blockN <| cutG <| Tri.of Tryz.mixed Tryz.T_ok ?_
        (refine xB ?_)
        have hln := radd1_len hWC (ptAt id i) ⟨(l.getD i default).to, (l.getD i default).amt, h, base⟩
        refine wD <| loopN ⟨⟨i + 1, W.add1 (ptAt id i) ⟨(l.getD i default).to, (l.getD i default).amt, h, base⟩, h1', hg, by omega, hln.2⟩, by dsimp only; omega, ?_⟩
        rw [← e64, hw, RC.add, if_pos h3]
        ((try dsimp only); refine Ent.renC [0, 1, 2, 3, 4, 5] hC ?_ ?_ <;> repeat' (first | exact trivial | exact rfl | exact ⟨_, rfl, rfl, rfl, Nat.le_refl _, fun _ _ => rfl⟩ | exact ⟨_, rfl, rfl, rfl, fun _ _ => rfl⟩ | exact ⟨_, rfl, rfl, rfl⟩ | exact ⟨_, rfl, rfl⟩ | refine ⟨_, rfl, rfl, rfl, by omega, fun k hk => ?_⟩ | refine ⟨?_, ?_⟩ | fail))
  · (refine xG ?_)
    have h1' : i = l.length := xW
    subst h1'
    rw [List.drop_length, routsGo] at hg
    refine wD <| cutE <| loopX <| blockX <| cutG <| Tri.of Tryz.mixed Tryz.T_ok ?_
    rw [hg]
    (refine xB ?_)
    exact wD (Ends.shutN (.inr rfl) (Ent.refl _) rfl rfl rfl)
end Go.Proofs.YtnpkdoggfnlapaaGreatDoor
namespace Go.Proofs.YtnpkdoggfnlapaaGreatDoor
set_option maxRecDepth 100000
open Go.Sx
theorem Twin.look {S : USet} {R : RC} (h : Twin S R) : AlikeR S R := fun p => by
  obtain ⟨zs, hz⟩ := h
  exact ⟨hz.isAt p, hz.get p⟩
theorem Twin.lens {S : USet} {R : RC} (h : Twin S R) : R.P.length = S.coins.length ∧ R.P.length = R.C.length := by
  obtain ⟨zs, hz⟩ := h
  have h1 := hz.len
  have h2 := hz.perm.length_eq
  omega
theorem Twin.okB {S : USet} {R : RC} (h : Twin S R) (p : Pt) (c : Coin) : R.okB p c = S.okB p c := by
  obtain ⟨zs, hz⟩ := h
  exact hz.okB p c
theorem Twin.add1 {S : USet} {R : RC} (h : Twin S R) {p : Pt} {c : Coin} (hok : S.okB p c = true) : Twin (S.add1 p c) (R.add1 p c) := by
  obtain ⟨zs, hz⟩ := h
  exact hz.add1 hok
theorem twin_outs (id : H8) (h : Int64) (base : Bool) : ∀ (l : List OutM) (S : USet) (R : RC) (i : Nat), Twin S R → Twin (outsGo id h base S i l).1 (routsGo id h base R i l).1 ∧ (outsGo id h base S i l).2 = (routsGo id h base R i l).2
  | [], S, R, i, ht => ⟨ht, rfl⟩
  | o :: l, S, R, i, ht => by
    rw [outsGo, routsGo, (ht.look (ptAt id i)).1, ht.okB]
    by_cases h1 : S.has (ptAt id i) = true
    · rw [if_pos h1, if_pos h1]; exact ⟨ht, rfl⟩
    · rw [if_neg h1, if_neg h1]
      by_cases h2 : S.okB (ptAt id i) ⟨o.to, o.amt, h, base⟩ = true
      · rw [if_pos h2, if_pos h2]
        exact twin_outs id h base l _ _ (i + 1) (ht.add1 h2)
      · rw [if_neg h2, if_neg h2]; exact ⟨ht, rfl⟩
end Go.Proofs.YtnpkdoggfnlapaaGreatDoor

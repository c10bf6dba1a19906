/- Parts Yk Yo Yp Yq Ys Yu Yv Yw Ye Yl Hp Hq. -/
import Derived.Test.YtnpkdoggfnlapaaGreatDoorG19
import Derived.Test.YtnpkdoggfnlapaaGreatDoorG18
import Derived.Test.YtnpkdoggfnlapaaGreatDoorG17
import Derived.Test.YtnpkdoggfnlapaaGreatDoorG12
set_option linter.unusedSimpArgs false
set_option linter.unusedVariables false
namespace Go.Proofs.YtnpkdoggfnlapaaGreatDoor
set_option maxRecDepth 100000
open Go.Sx
def parN2 (p : ParM) : Bool := parN p && parT p
theorem parB_eq (p : ParM) : parB p = (parN2 p && keysOK p.keys) := by
  rw [parB, parN2, Bool.and_assoc, Bool.and_comm (keysOK _)]
theorem eqH_comm (a b : H8) : eqH a b = decide (b = a) := by rw [eqH, Bool.eq_iff_iff, decide_eq_true_eq, decide_eq_true_eq]; exact eq_comm
def rmpM (p : ParM) : Mem := [(0, .ro 8 p.keys.length (keysF p.keys)), (1, .cells 40 (parV p))]
set_option maxHeartbeats 4000000 in
theorem rmayPar_can (p : ParM) (hl : p.keys.length ≤ 1000000000) : Reads Tryz.prog 112 [.box p.ac] [] (XV.bool (parB p)) := by
  refine Reads.of Tryz.T_ok Tryz.func112 rfl _ _ _ rfl rfl (fun C hC => ?_)
  (replace hC : C.n0 = 1 := hC; change Tri _ _ _ ⟨_, _, 1⟩ _)
  rw [parB_eq]
  (refine Tri.cut 2 Tryz.mixed Tryz.T_ok ?_; refine xZ ?_)
  have no : parN2 p = false → XV.bool false = XV.bool (parN2 p && keysOK p.keys) := fun h => by rw [h, Bool.false_and]
  refine wC (fun h1 => ?_) (fun h1 => ?_)
  · (refine xG ?_)
    exact wD <| cutR <| Ends.plain (.inr rfl) rfl (no (by rw [parN2, parN, h1]; rfl))
  (refine xG ?_)
  refine wC (fun h2 => ?_) (fun h2 => ?_)
  · (refine xG ?_)
    exact wD <| cutR <| Ends.plain (.inr rfl) rfl (no (by rw [parN2, parN, h1, h2]; rfl))
  (refine xG ?_)
  refine wC (fun h3 => ?_) (fun h3 => ?_)
  · (refine xG ?_)
    exact wD <| cutR <| Ends.plain (.inr rfl) rfl (no (by rw [parN2, parN, h1, h2, h3]; rfl))
  (refine xG ?_)
  refine wC (fun h4 => ?_) (fun h4 => ?_)
  · (refine xG ?_)
    exact wD <| cutR <| Ends.plain (.inr rfl) rfl (no (by rw [parN2, parN, h1, h2, h3, h4]; rfl))
  have hN : parN p = true := by rw [parN, h1, h2, h3, h4]; rfl
  have noT : parT p = false → XV.bool false = XV.bool (parN2 p && keysOK p.keys) := fun h => no (by rw [parN2, h, Bool.and_false])
  (refine xG ?_)
  refine wC (fun h5 => ?_) (fun h5 => ?_)
  · (refine xG ?_)
    exact wD <| cutR <| Ends.plain (.inr rfl) rfl (noT (by rw [parT, decide_eq_false (show ¬ 2 ≤ p.len by simp only [decide_eq_true_eq] at h5; omega)]; rfl))
  (refine xG ?_)
  refine wC (fun h6 => ?_) (fun h6 => ?_)
  · (refine xG ?_)
    exact wD <| cutR <| Ends.plain (.inr rfl) rfl (noT (by rw [parT, decide_eq_false (show ¬ p.len ≤ 64 by simp only [decide_eq_true_eq] at h6; omega), Bool.false_and, Bool.and_false]))
  (refine xG ?_)
  refine wC (fun h7 => ?_) (fun h7 => ?_)
  · (refine xG ?_)
    exact wD <| cutR <| Ends.plain (.inr rfl) rfl (noT (by rw [parT, decide_eq_false (show ¬ 1 ≤ p.win by simp only [decide_eq_true_eq] at h7; omega), Bool.false_and, Bool.and_false, Bool.and_false]))
  (refine xG ?_)
  refine wC (fun h8 => ?_) (fun h8 => ?_)
  · (refine xG ?_)
    exact wD <| cutR <| Ends.plain (.inr rfl) rfl (noT (by rw [parT, decide_eq_false (show ¬ p.win ≤ p.len by simp only [decide_eq_true_eq] at h8; omega), Bool.and_false, Bool.and_false, Bool.and_false]))
  have hT : parT p = true := by
    simp only [decide_eq_false_iff_not] at h5 h6 h7 h8
    rw [parT, decide_eq_true (show 2 ≤ p.len by omega), decide_eq_true (show p.len ≤ 64 by omega), decide_eq_true (show 1 ≤ p.win by omega), decide_eq_true (show p.win ≤ p.len by omega)]; rfl
  have hN2 : parN2 p = true := by rw [parN2, hN, hT]; rfl
  rw [hN2, Bool.true_and]
  (refine xG ?_)
  refine wD <| cutG <| Tri.seq ?_
  (refine Tri.cut 1 Tryz.mixed Tryz.T_ok ?_; refine xZ ?_)
  refine wD <| cutG <| Tri.block ?_
  refine Tri.loop (α := { i : Nat // i ≤ p.keys.length ∧ (List.range i).all (keyAt p.keys) = true }) (fun i => ⟨[none, some (XV.sv (.ptr 1 0 0 0)), none, some (XV.int .i64 i.1)] ++ List.replicate 75 none, rmpM p, 2⟩) (fun i => p.keys.length - i.1) ⟨0, Nat.zero_le _, rfl⟩ ?_ ?_
  · unfold rmpM
    ((try dsimp only); refine Ent.renC [0, 1] hC ?_ ?_ <;> repeat' (first | exact trivial | exact rfl | exact ⟨_, rfl, rfl, rfl, Nat.le_refl _, fun _ _ => rfl⟩ | exact ⟨_, rfl, rfl, rfl, fun _ _ => rfl⟩ | exact ⟨_, rfl, rfl, rfl⟩ | exact ⟨_, rfl, rfl⟩ | refine ⟨_, rfl, rfl, rfl, by omega, fun k hk => ?_⟩ | refine ⟨?_, ?_⟩ | fail))
  rintro ⟨i, hi, ha⟩
  dsimp only
  unfold rmpM
  (refine Tri.cut 1 Tryz.mixed Tryz.T_ok ?_; refine xZ ?_)
  refine wC (fun k1 => ?_) (fun k1 => ?_)
  · (refine xG ?_)
    have h1' : i < p.keys.length := xW
    have hs := range_all_succ (keyAt p.keys) i
    have hw : IntKind.i64.wrap ((i : Int) + 1) = ((i + 1 : Nat) : Int) := xW
    have bad : keyAt p.keys i = false → XV.bool false = XV.bool (keysOK p.keys) := fun h => by rw [keysOK, range_all_false h1' h]
    refine wD <| cutG <| Tri.seq <| Tri.block ?_
    refine Tri.seq ?_
    refine Tri.seq (Tri.of Tryz.mixed Tryz.T_ok ?_)
    (refine xB ?_)
    refine wD <| cutG <| Tri.block ?_
    refine Tri.loop (α := { k : Nat // k ≤ i ∧ (p.keys.take k).any (eqH (p.keys.getD i default)) = false }) (fun k => ⟨[none, some (XV.sv (.ptr 1 0 0 0)), none, some (XV.int .i64 i), some (XV.int .i64 k.1)] ++ List.replicate 74 none, rmpM p, 2⟩) (fun k => i - k.1) ⟨0, Nat.zero_le _, by simp⟩ ?_ ?_
    · unfold rmpM
      ((try dsimp only); refine Ent.renC [0, 1] hC ?_ ?_ <;> repeat' (first | exact trivial | exact rfl | exact ⟨_, rfl, rfl, rfl, Nat.le_refl _, fun _ _ => rfl⟩ | exact ⟨_, rfl, rfl, rfl, fun _ _ => rfl⟩ | exact ⟨_, rfl, rfl, rfl⟩ | exact ⟨_, rfl, rfl⟩ | refine ⟨_, rfl, rfl, rfl, by omega, fun k hk => ?_⟩ | refine ⟨?_, ?_⟩ | fail))
    rintro ⟨k, hk, hka⟩
    dsimp only
    unfold rmpM
    (refine Tri.cut 1 Tryz.mixed Tryz.T_ok ?_; refine xZ ?_)
    refine wC (fun k2 => ?_) (fun k2 => ?_)
    · (refine xG ?_)
      have h2' : k < i := xW
      have hw2 : IntKind.i64.wrap ((k : Int) + 1) = ((k + 1 : Nat) : Int) := xW
      have hsk := any_take_succ' (p := eqH (p.keys.getD i default)) (show k < p.keys.length by omega)
      refine wD <| cutG <| Tri.seq <| Tri.block <| Tri.of Tryz.mixed Tryz.T_ok ?_
      (refine xB ?_)
      (repeat (refine wN ?_ ?_; exact xW; refine xG ?_))
      simp only [Nat.zero_add, Int.toNat_natCast]
      (refine wP _ _ (eq_op hashE rfl (p.keys.getD k default) (p.keys.getD i default) rfl rfl) ?_; refine xZ ?_)
      refine wC (fun k3 => ?_) (fun k3 => ?_)
      · (refine xG ?_)
        have hq : (p.keys.take i).any (eqH (p.keys.getD i default)) = true := by
          rw [List.any_eq_true]
          refine ⟨p.keys.getD k default, ?_, by rw [eqH_comm]; exact k3⟩
          rw [List.getD_eq_getElem?_getD, List.getElem?_eq_getElem (by omega)]
          show p.keys[k] ∈ _
          rw [List.mem_take_iff_getElem]
          exact ⟨k, by omega, rfl⟩
        exact wD <| blockR <| cutR <| loopR <| blockR <| cutR <| blockR <| cutR <| loopR <| blockR <| cutR <| Ends.plain (.inr rfl) rfl (bad (by rw [keyAt, hq]; simp))
      · (refine xG ?_)
        refine wD <| blockN <| cutG <| Tri.of Tryz.mixed Tryz.T_ok ?_
        (refine xB ?_)
        refine wD <| loopN ⟨⟨k + 1, h2', by rw [hsk, hka, Bool.false_or, eqH_comm]; exact k3⟩, by dsimp only; omega, ?_⟩
        rw [hw2]
        ((try dsimp only); refine Ent.renC [0, 1] hC ?_ ?_ <;> repeat' (first | exact trivial | exact rfl | exact ⟨_, rfl, rfl, rfl, Nat.le_refl _, fun _ _ => rfl⟩ | exact ⟨_, rfl, rfl, rfl, fun _ _ => rfl⟩ | exact ⟨_, rfl, rfl, rfl⟩ | exact ⟨_, rfl, rfl⟩ | refine ⟨_, rfl, rfl, rfl, by omega, fun k hk => ?_⟩ | refine ⟨?_, ?_⟩ | fail))
    · (refine xG ?_)
      have h2' : k = i := xW
      subst h2'
      refine wD <| cutE <| loopX <| blockX <| cutG <| Tri.of Tryz.mixed Tryz.T_ok ?_
      (refine xB ?_)
      (repeat (refine wN ?_ ?_; exact xW; refine xG ?_))
      simp only [Nat.zero_add, Int.toNat_natCast]
      (apply wP; exact (call_op rfl (entersB_of Tryz.func147 (by kernel_rfl)) rfl ((rzero_can (p.keys.getD k default)).at [] ⟨lend_plain rfl, trivial⟩ trivial)); refine xZ ?_)
      refine wC (fun k3 => ?_) (fun k3 => ?_)
      · (refine xG ?_)
        exact wD <| blockR <| cutR <| loopR <| blockR <| cutR <| Ends.plain (.inr rfl) rfl (bad (by rw [keyAt, k3]; rfl))
      · (refine xG ?_)
        refine wD <| blockN <| cutG <| Tri.of Tryz.mixed Tryz.T_ok ?_
        (refine xB ?_)
        refine wD <| loopN ⟨⟨k + 1, h1', by rw [hs, ha, keyAt, k3, hka]; rfl⟩, by dsimp only; omega, ?_⟩
        rw [hw]
        ((try dsimp only); refine Ent.renC [0, 1] hC ?_ ?_ <;> repeat' (first | exact trivial | exact rfl | exact ⟨_, rfl, rfl, rfl, Nat.le_refl _, fun _ _ => rfl⟩ | exact ⟨_, rfl, rfl, rfl, fun _ _ => rfl⟩ | exact ⟨_, rfl, rfl, rfl⟩ | exact ⟨_, rfl, rfl⟩ | refine ⟨_, rfl, rfl, rfl, by omega, fun k hk => ?_⟩ | refine ⟨?_, ?_⟩ | fail))
  · (refine xG ?_)
    have h1' : i = p.keys.length := xW
    subst h1'
    refine wD <| cutE <| loopX <| blockX <| cutG <| Tri.of Tryz.mixed Tryz.T_ok ?_
    (refine xB ?_)
    exact wD (Ends.plain (.inr rfl) rfl (by rw [keysOK, ha]))
def qseed (k : Int) : H8 := ⟨113, byteI (IntKind.u8.wrap k), 0, 0, 0, 0, 0, 0⟩
theorem seed_can (k : Int) : Reads Tryz.prog 118 [.plain (.one (.raw (.int .i64 k)))] [] (.cv (qseed k).x) := by
  refine Reads.of Tryz.T_ok Tryz.func118 rfl _ _ _ rfl rfl (fun C hC => ?_)
  (replace hC : C.n0 = 1 := hC; change Tri _ _ _ ⟨_, _, 1⟩ _)
  refine Tri.of Tryz.mixed Tryz.T_ok ?_
  (refine xB ?_)
  refine wD (Ends.plain (.inr rfl) rfl ?_)
  show _ = XV.cv (.agg [.raw (u8 113), .raw (u8 (byteI (IntKind.u8.wrap k))), .raw (u8 0), .raw (u8 0), .raw (u8 0), .raw (u8 0), .raw (u8 0), .raw (u8 0)])
  rw [u8_byteI]; rfl
def qkeys (n : Nat) : List H8 := (List.range n).map fun k : Nat => treeH (qseed (k : Int))
theorem qkeys_succ (n : Nat) : qkeys (n + 1) = qkeys n ++ [treeH (qseed (n : Int))] := by simp [qkeys, List.range_succ]
theorem qkeys_len (n : Nat) : (qkeys n).length = n := by simp [qkeys]
def madeP (n : Nat) (need : Int) : ParM := ⟨4, 2, need, qkeys n⟩
theorem keys_snoc {l : List H8} {x : H8} {f : Nat → List Value} {m k : Nat} (hm : m = l.length) (hf : f 0 = x.cells) (hk : k < m + 1) : joinF (keysF l) m f k = keysF (l ++ [x]) k := by
  subst hm
  simp only [joinF, nblt]
  by_cases h : k < l.length
  · rw [decide_eq_true h, cond_true, keysF, rowOf, keysF, rowOf, List.getD_eq_getElem?_getD, List.getD_eq_getElem?_getD, List.getElem?_append_left h]
  · obtain rfl : k = l.length := by omega
    rw [decide_eq_false h, cond_false, Nat.sub_self, hf, keysF, rowOf]; simp
def madeSt (n : Nat) (need : Int) (i : Nat) : St :=
  ⟨[some (XV.int .i64 n), none, none, none, some (XV.sv (.ptr 2 0 0 0)), some (XV.sv (.ptr 3 0 0 0)), some (XV.int .i64 i)] ++ List.replicate 20 none,
   [(2, .cells 40 (parCells par0 (.raw (.slice none 0 0)))), (3, .cells 40 [.raw (.int .i64 4), .raw (.int .i64 2), .raw (.int .i64 need), .slc 4 8 0 i]), (4, .vec 29 8 i (keysF (qkeys i)))], 5⟩
set_option maxHeartbeats 2000000 in
theorem made_can (n : Nat) (hn : n ≤ 8) (need : Int) : Makes Tryz.prog 64 [.plain (.one (.raw (.int .i64 n))), .plain (.one (.raw (.int .i64 need)))] [] (.cv (.agg [.raw (.int .i64 4), .raw (.int .i64 2), .raw (.int .i64 need), .slc 0 8 0 n])) (.vec 29 8 n (keysF (qkeys n))) := by
  refine Makes.of Tryz.T_ok Tryz.func64 rfl _ _ _ _ rfl rfl rfl rfl 4 (fun C hC => ?_)
  (replace hC : C.n0 = 2 := hC; change Tri _ _ _ ⟨_, _, 2⟩ _)
  (refine Tri.cut 2 Tryz.mixed Tryz.T_ok ?_; refine xZ ?_)
  refine wD <| cutG <| Tri.ent (Ent.nilc (c := 5) (e := 40) (cs := [.raw (.int .i64 4), .raw (.int .i64 2), .raw (.int .i64 need), .raw (.slice none 0 0)]) (j := 3) rfl rfl 29 8) <| Tri.seq ?_
  (refine Tri.cut 1 Tryz.mixed Tryz.T_ok ?_; refine xZ ?_)
  refine wD <| cutG <| Tri.block ?_
  refine Tri.loop (α := { i : Nat // i ≤ n }) (fun i => madeSt n need i.1) (fun i => n - i.1) ⟨0, Nat.zero_le _⟩ ?_ ?_
  · unfold madeSt
    ((try dsimp only); refine Ent.renC [0, 1, 2, 5, 7] hC ?_ ?_ <;> repeat' (first | exact trivial | exact rfl | exact ⟨_, rfl, rfl, rfl, Nat.le_refl _, fun _ _ => rfl⟩ | exact ⟨_, rfl, rfl, rfl, fun _ _ => rfl⟩ | exact ⟨_, rfl, rfl, rfl⟩ | exact ⟨_, rfl, rfl⟩ | refine ⟨_, rfl, rfl, rfl, by omega, fun k hk => ?_⟩ | refine ⟨?_, ?_⟩ | fail))
    exact absurd hk (Nat.not_lt_zero _)
  rintro ⟨i, hi⟩
  dsimp only
  unfold madeSt
  (refine Tri.cut 1 Tryz.mixed Tryz.T_ok ?_; refine xZ ?_)
  refine wC (fun h1 => ?_) (fun h1 => ?_)
  · (refine xG ?_)
    have h1' : i < n := xW
    have hw : IntKind.i64.wrap ((i : Int) + 1) = ((i + 1 : Nat) : Int) := xW
    (refine wTd ?_ ?_; (first | refine decide_eq_true ?_ | rw [beq_iff_eq] | rw [bne_iff_ne]); exact xW; refine xG ?_)
    refine wD <| cutG <| Tri.seq <| Tri.block <| Tri.of Tryz.mixed Tryz.T_ok ?_
    (refine xB ?_)
    (apply wP; exact (call_op rfl (entersB_of Tryz.func118 (by kernel_rfl)) rfl ((seed_can (i : Int)).at [] ⟨lend_plain rfl, trivial⟩ trivial)); refine xZ ?_)
    (apply wP; exact (call_op rfl (entersB_of Tryz.func117 (by kernel_rfl)) rfl ((tree_can (qseed (i : Int))).at [] ⟨lend_plain rfl, trivial⟩ trivial)); refine xZ ?_)
    (refine wP _ _ (append_op Tryz.T_ok rfl rfl rfl rfl rfl [4, 17] (old_vec rfl rfl (Nat.le_refl _) rfl) (new_vec (lo := 0) rfl rfl (Nat.le_refl _) rfl) rfl (lt1 rfl) (by simp only [maxLen]; omega) (by dsimp only; omega)) ?_; refine xZ ?_)
    refine wD <| blockN <| cutG <| Tri.of Tryz.mixed Tryz.T_ok ?_
    (refine xB ?_)
    refine wD <| loopN ⟨⟨i + 1, h1'⟩, by dsimp only; omega, ?_⟩
    rw [hw]
    ((try dsimp only); refine Ent.renC [0, 1, 2, 3, 18] hC ?_ ?_ <;> repeat' (first | exact trivial | exact rfl | exact ⟨_, rfl, rfl, rfl, Nat.le_refl _, fun _ _ => rfl⟩ | exact ⟨_, rfl, rfl, rfl, fun _ _ => rfl⟩ | exact ⟨_, rfl, rfl, rfl⟩ | exact ⟨_, rfl, rfl⟩ | refine ⟨_, rfl, rfl, rfl, by omega, fun k hk => ?_⟩ | refine ⟨?_, ?_⟩ | fail))
    rw [qkeys_succ]
    exact keys_snoc (qkeys_len _).symm rfl hk
  · (refine xG ?_)
    have h1' : i = n := xW
    subst h1'
    refine wD <| cutE <| loopX <| blockX <| cutG <| Tri.of Tryz.mixed Tryz.T_ok ?_
    (refine xB ?_)
    exact wD (Ends.made (.inr rfl) (Ent.refl _) rfl (Nat.le_of_ble_eq_true rfl) rfl)
end Go.Proofs.YtnpkdoggfnlapaaGreatDoor
namespace Go.Proofs.YtnpkdoggfnlapaaGreatDoor
set_option maxRecDepth 100000
open Go.Sx
abbrev lvT : TypeId := 177
def lvA (l : LvM) : Nat → List Value := fun i => [.int .i64 ((l.getD i default).1 : Int)]
def lvH (l : LvM) : Nat → List Value := fun i => (l.getD i default).2.cells
def lvMem (l : LvM) : Mem := [(0, .cells lvT [.slc 1 1 0 l.length, .slc 2 8 0 l.length]), (1, .vec 3 1 l.length (lvA l)), (2, .vec 29 8 l.length (lvH l))]
def lvP (l : LvM) : AbsP := packP (lvMem l) True
section
variable {P : Program} {C : Ctx} {cd : Code} {slots : List (Option XV)} {mem : Mem} {nx : Nat} {Q : Exit → St → Prop}
theorem Lv.opens (l : LvM) (c : Nat) (hc : mem.get c = some (.abs (lvP l)))
    (h : Tri P C cd ⟨slots, (c, .cells lvT [.slc (nx + 1) 1 0 l.length, .slc (nx + 2) 8 0 l.length]) :: (nx + 1, .vec 3 1 l.length (lvA l)) :: (nx + 2, .vec 29 8 l.length (lvH l)) :: mem.del c, nx + 3⟩ Q) : Tri P C cd ⟨slots, mem, nx⟩ Q :=
  Tri.opens (M := lvMem l) (m := 3) (inv := True) (c := c) hc rfl fun _ => h
theorem Lv.shuts (l : LvM) (c : Nat) {i1 i2 m1 m2 n1 n2 : Nat} {f g : Nat → List Value}
    (k0 : mem.get c = some (.cells lvT [.slc i1 1 0 m1, .slc i2 8 0 m2])) (k1 : mem.get i1 = some (.vec 3 1 n1 f)) (k2 : mem.get i2 = some (.vec 29 8 n2 g))
    (hids : (Nat.beq c i1 || Nat.beq c i2 || Nat.beq i1 i2) = false) (hm1 : m1 = l.length) (hm2 : m2 = l.length) (hl1 : l.length ≤ n1) (hl2 : l.length ≤ n2) (hf : ∀ i, i < l.length → f i = lvA l i) (hg : ∀ i, i < l.length → g i = lvH l i) :
    Ent C ⟨slots, mem, nx⟩ ⟨slots, (c, .abs (lvP l)) :: mem.dels [c, i1, i2], nx⟩ := by
  subst hm1 hm2
  exact Ent.shut3 (S := ⟨slots, mem, nx⟩) (M := lvMem l) (inv := True) hids trivial rfl rfl rfl rfl k0 k1 k2 rfl ⟨rfl, rfl⟩ ⟨rfl, rfl, hl1, hf⟩ ⟨rfl, rfl, hl2, hg⟩
end
end Go.Proofs.YtnpkdoggfnlapaaGreatDoor
namespace Go.Proofs.YtnpkdoggfnlapaaGreatDoor
set_option maxRecDepth 100000
open Go.Sx
end Go.Proofs.YtnpkdoggfnlapaaGreatDoor
namespace Go.Proofs.YtnpkdoggfnlapaaGreatDoor
set_option maxRecDepth 100000
open Go.Sx
end Go.Proofs.YtnpkdoggfnlapaaGreatDoor
namespace Go.Proofs.YtnpkdoggfnlapaaGreatDoor
set_option maxRecDepth 100000
open Go.Sx
end Go.Proofs.YtnpkdoggfnlapaaGreatDoor
namespace Go.Proofs.YtnpkdoggfnlapaaGreatDoor
set_option maxRecDepth 100000
open Go.Sx
end Go.Proofs.YtnpkdoggfnlapaaGreatDoor
namespace Go.Proofs.YtnpkdoggfnlapaaGreatDoor
set_option maxRecDepth 100000
open Go.Sx
def sideSlc (x : SideM) (a b d e : Nat) : List SV := sideCells x (.slc a 8 0 x.par.keys.length) (.slc b 9 0 x.cert.outs.length) (.slc d 282 0 x.cert.sigs.length) (.slc e 1 0 x.used.length)
end Go.Proofs.YtnpkdoggfnlapaaGreatDoor
namespace Go.Sx
theorem Does.at2 {P : Program} {f : FuncId} {a b a2 b2 : Chunk} {l : List AD} {es : List ExtP} {X : XV} {fr : Option Chunk} (h : Does P f [(a, b), (a2, b2)] l es X fr) {Xs : List CV} {M : Mem} {c c2 d : Nat} (rd : List Nat) (hc : M.get c = some a) (hc2 : M.get c2 = some a2) (hids : (Nat.beq c c2 || Nat.beq c d || Nat.beq c2 d) = false) (hrd : (nmem c rd || nmem c2 rd) = false) (ha : LendsL M rd Xs l) (he : LendsX M rd es) :
    CallSpec P f (.one (.ptr c 0 0 0) :: .one (.ptr c2 0 0 0) :: Xs) M d { v := X.ren fun _ => d, upd := (c, b) :: (c2, b2) :: frM d fr, wr := [c, c2] } (c :: c2 :: rd) := by
  simp only [Bool.or_eq_false_iff, nbeq, decide_eq_false_iff_not] at hids hrd
  refine h.at [c, c2] rd rfl (by simp [hids.1.1, hids.1.2, hids.2]) (by simp [hrd.1, hrd.2]) (fun i c' x h1 h2 => ?_) ha he
  match i with
  | 0 =>
    simp only [List.getElem?_cons_zero, Option.some.injEq] at h1 h2
    subst h1 h2; exact hc
  | 1 =>
    simp only [List.getElem?_cons_succ, List.getElem?_cons_zero, Option.some.injEq] at h1 h2
    subst h1 h2; exact hc2
  | i + 2 => simp at h1
theorem Ends.shutN2 {C : Ctx} {T : TyTab} {rs : List ResultVar} {n0 : Nat} {X v : XV} {S S' : St} {e : Exit} {ch ch2 : Chunk} (he : e = .normal ∨ e = .ret) (hE : Ent C S S') (hm : S'.mem.get 0 = some ch) (hm2 : S'.mem.get 1 = some ch2) (hr : resX T S' rs = some v) (hv : v = X) :
    Ends C T rs 2 n0 ⟨X, [(0, ch), (1, ch2)], none⟩ e S := by
  refine ⟨he, _, hE, by rw [hr, hv], fun i ch' h => ?_, fun i ch h => by cases h⟩
  simp only [Mem.get, nbeq] at h
  by_cases hk : 0 = i
  · subst hk
    simp only [decide_true, cond_true, Option.some.injEq] at h
    exact ⟨by omega, by rw [← h]; exact hm⟩
  · by_cases hk1 : 1 = i
    · subst hk1
      simp only [hk, decide_false, decide_true, cond_true, cond_false, Option.some.injEq] at h
      exact ⟨by omega, by rw [← h]; exact hm2⟩
    · simp [hk, hk1] at h
end Go.Sx
namespace Go.Proofs.YtnpkdoggfnlapaaGreatDoor
set_option maxRecDepth 100000
open Go.Sx
end Go.Proofs.YtnpkdoggfnlapaaGreatDoor
namespace Go.Proofs.YtnpkdoggfnlapaaGreatDoor
set_option maxRecDepth 100000
open Go.Sx
def amtN (a : AcsM) : Nat → Int
  | 0 => 0
  | n + 1 => amtN a n + (accA a n).amt
theorem amtN_mono {a : AcsM} {i j : Nat} (h : i ≤ j) : amtN a i + (j - i : Nat) ≤ amtN a j := by
  induction j with
  | zero => obtain rfl : i = 0 := by omega
            simp
  | succ j ih =>
    have := (accA_amt a j).1
    by_cases e : i = j + 1
    · subst e; simp
    · have := ih (by omega)
      rw [amtN]; omega
theorem amtN_le (a : AcsM) (n : Nat) : 0 ≤ amtN a n ∧ amtN a n ≤ 65536 * n := by
  induction n with
  | zero => simp [amtN]
  | succ n ih =>
    have := accA_amt a n
    rw [amtN]; omega
def TakenP (n t i k : Nat) : Prop := (t ≤ k ∧ k < t + i) ∨ k + n < t + i
def doneA (a : AcsM) (n t i : Nat) : Int := if t + i ≤ n then amtN a (t + i) - amtN a t else amtN a n - amtN a t + amtN a (t + i - n)
structure AllI (a : AcsM) (rest : Int) (t i : Nat) (x : SideM) (S : USet) : Prop where
  keep : KeepI (amtN a a.pl.length + rest) x S
  ceased : x.ceased = true
  root : x.root = rootA a
  bal : x.bal = amtN a a.pl.length + rest - doneA a a.pl.length t i
  used : ∀ k, k < a.pl.length → ((plA a k : Int) ∈ x.used ↔ TakenP a.pl.length t i k)
  many : x.used.length = i
  coins : ∀ k, k < a.pl.length → S.has (ptAt (claimID (claimN a k)) 0) = true → TakenP a.pl.length t i k
def nextK (n t i : Nat) : Nat := (t + i) % n
theorem nextK_lt {n t i : Nat} (hn : 0 < n) : nextK n t i < n := Nat.mod_lt _ hn
theorem nextK_eq {n t i : Nat} (ht : t < n) (hi : i < n) : nextK n t i = if t + i < n then t + i else t + i - n := by
  unfold nextK
  split
  · rw [Nat.mod_eq_of_lt (by assumption)]
  · rw [Nat.mod_eq_sub_mod (by omega), Nat.mod_eq_of_lt (by omega)]
theorem taken_next {n t i k : Nat} (ht : t < n) (hi : i < n) (hk : k < n) : TakenP n t (i + 1) k ↔ (TakenP n t i k ∨ k = nextK n t i) := by
  rw [nextK_eq ht hi]
  unfold TakenP
  split <;> omega
theorem not_taken {n t i : Nat} (ht : t < n) (hi : i < n) : ¬ TakenP n t i (nextK n t i) := by
  rw [nextK_eq ht hi]
  unfold TakenP
  split <;> omega
theorem done_next {a : AcsM} {n t i : Nat} (ht : t < n) (hi : i < n) : doneA a n t (i + 1) = doneA a n t i + (accA a (nextK n t i)).amt := by
  rw [nextK_eq ht hi]
  unfold doneA
  by_cases h : t + i < n
  · rw [if_pos h, if_pos (by omega), if_pos (by omega), ← Nat.add_assoc, amtN]; omega
  · rw [if_neg h]
    by_cases h2 : t + i = n
    · rw [if_neg (by omega), if_pos (by omega), show t + (i + 1) - n = 0 + 1 by omega, h2, Nat.sub_self, amtN, amtN]; omega
    · rw [if_neg (by omega), if_neg (by omega), show t + (i + 1) - n = t + i - n + 1 by omega, amtN]; omega
theorem done_le {a : AcsM} {n t i : Nat} (ht : t < n) (hi : i ≤ n) : doneA a n t i ≤ amtN a n := by
  unfold doneA
  split
  · have := amtN_mono (a := a) (i := t + i) (j := n) (by omega)
    have := (amtN_le a t).1
    omega
  · have := amtN_mono (a := a) (i := t + i - n) (j := t) (by omega)
    omega
theorem done_all {a : AcsM} {n t : Nat} (ht : t < n) : doneA a n t n = amtN a n := by
  unfold doneA
  split
  · obtain rfl : t = 0 := by omega
    simp [amtN]
  · rw [show t + n - n = t by omega]; omega
theorem AllI.step {a : AcsM} {rest : Int} {t i : Nat} {x : SideM} {S : USet} (h : AllI a rest t i x S) (hf : Fair a) (hr : 0 ≤ rest ∧ rest ≤ 100000) (ht : t < a.pl.length) (hi : i < a.pl.length) (ids : ∀ j k, j < a.pl.length → k < a.pl.length → claimID (claimN a j) = claimID (claimN a k) → j = k) (H : Int64) :
    ∃ x' S', takeE [x] S (claimN a (nextK a.pl.length t i)) H = (([x'], S'), 0) ∧ takeE [x'] S' (claimN a (nextK a.pl.length t i)) H = (([x'], S'), 13) ∧ AllI a rest t (i + 1) x' S' ∧
      S'.has (ptAt (claimID (claimN a (nextK a.pl.length t i))) 0) = true ∧ S'.get (ptAt (claimID (claimN a (nextK a.pl.length t i))) 0) = ⟨(accA a (nextK a.pl.length t i)).owner, Int64.ofInt (accA a (nextK a.pl.length t i)).amt, H, false⟩ ∧
      S'.steps.length = S.steps.length + 1 ∧ x'.par = x.par ∧ x'.cert = x.cert := by
  obtain ⟨k, hk⟩ : ∃ k, nextK a.pl.length t i = k := ⟨_, rfl⟩
  have hkl : k < a.pl.length := by rw [← hk]; exact nextK_lt (by omega)
  have hnt : ¬ TakenP a.pl.length t i k := by rw [← hk]; exact not_taken ht hi
  have hd := done_next (a := a) ht hi
  have hdl := done_le (a := a) (n := a.pl.length) (t := t) (i := i + 1) ht hi
  rw [hk] at hd ⊢
  have h1 := claimN_ok (a := a) hkl
  have h2 := claimN_side (a := a) hkl
  have e1 := claimN_acct (a := a) hkl
  have e2 := claimN_st (a := a) hkl
  have ham := accA_amt a k
  have hsl := amtN_le a a.pl.length
  have hfew := hf.few
  have hbal := h.bal
  have hk0 := h.keep.sum
  have hb0 := h.keep.bal
  have hc0 := h.keep.clm
  have htot := h.keep.tot
  have h3 : checkX x (claimN a k) = 0 := checkX_good h.ceased (by rw [e1, h.used k hkl]; exact hnt) (by rw [h.root]; exact claimN_proof hf hkl) (by rw [e2]; omega)
  have h4 : S.has (ptAt (claimID (claimN a k)) 0) = false := by
    cases hh : S.has (ptAt (claimID (claimN a k)) 0) with
    | false => rfl
    | true => exact absurd (h.coins k hkl hh) hnt
  have h64 : (Int64.ofInt (claimN a k).st.amt).toInt = (claimN a k).st.amt := amt64 h1
  have h5 : S.okB (ptAt (claimID (claimN a k)) 0) ⟨(claimN a k).st.owner, Int64.ofInt (claimN a k).st.amt, H, false⟩ = true := okB_of h4 rfl (by show 1 ≤ (Int64.ofInt (claimN a k).st.amt).toInt; rw [h64, e2]; exact ham.1) (by omega) (by show S.total + (Int64.ofInt (claimN a k).st.amt).toInt ≤ _; rw [h64, e2]; omega)
  have hp := h.keep.paid (by omega) h1 h3 (k := ⟨(claimN a k).st.owner, Int64.ofInt (claimN a k).st.amt, H, false⟩) h4 h64
  refine ⟨_, _, take_paid h1 h2 h3 h4 h5, ?_, ⟨hp.1, h.ceased, h.root, ?_, fun j hj => ?_, ?_, fun j hj hh => ?_⟩, ?_, ?_, ?_, rfl, rfl⟩
  · refine take_bad ?_ (by decide)
    rw [checkE_one h1 h2, checkX, if_neg (by show ¬ x.ceased = false; rw [h.ceased]; simp), if_pos (show (claimN a k).acct ∈ (takeX x (claimN a k)).used from mem_insU.2 (.inl rfl))]
  · rw [hp.2.1, e2, hbal, hd]; omega
  · show (plA a j : Int) ∈ insU x.used (claimN a k).acct ↔ _
    rw [mem_insU, taken_next ht hi hj, hk, h.used j hj, e1]
    constructor
    · rintro (h6 | h6)
      · exact .inr (hf.apart k j hkl hj (by omega))
      · exact .inl h6
    · rintro (h6 | h6)
      · exact .inr h6
      · exact .inl (by rw [h6])
  · show (insU x.used (claimN a k).acct).length = _
    rw [insU_len, h.many]
  · rw [taken_next ht hi hj, hk]
    by_cases e : claimID (claimN a j) = claimID (claimN a k)
    · exact .inr (ids j k hj hkl e)
    · refine .inl (h.coins j hj ?_)
      have hne : ptAt (claimID (claimN a j)) 0 ≠ ptAt (claimID (claimN a k)) 0 := fun e' => e (congrArg Pt.tx e')
      have : (mget (mput S.coins (ptAt (claimID (claimN a k)) 0) _) (ptAt (claimID (claimN a j)) 0)).isSome = true := hh
      rwa [mget_put_ne hne] at this
  · show (mget (mput S.coins _ _) _).isSome = true
    rw [mget_put_self]; rfl
  · show (mget (mput S.coins _ _) _).getD coin0 = _
    rw [mget_put_self, e2]; rfl
  · show (S.steps ++ [_]).length = _
    rw [List.length_append]; rfl
theorem AllI.done {a : AcsM} {rest : Int} {t : Nat} {x : SideM} {S : USet} (h : AllI a rest t a.pl.length x S) (ht : t < a.pl.length) : x.clm = amtN a a.pl.length ∧ x.bal = rest ∧ x.used.length = a.pl.length ∧ S.total = amtN a a.pl.length := by
  have h1 := h.bal
  have h2 := h.keep.sum
  have h3 := h.keep.tot
  rw [done_all ht] at h1
  exact ⟨by omega, by omega, h.many, by omega⟩
structure MoneyI (a : AcsM) (n : Int) (used : Nat → Bool) (x : SideM) (S : USet) : Prop where
  keep : KeepI n x S
  ceased : x.ceased = true
  root : x.root = rootA a
  used : ∀ k, k < a.pl.length → ((plA a k : Int) ∈ x.used ↔ used k = true)
theorem MoneyI.step {a : AcsM} {n : Int} {used : Nat → Bool} {x : SideM} {S : USet} (h : MoneyI a n used x S) (hf : Fair a) (hn : n ≤ 1000) {k : Nat} (hk : k < a.pl.length) (H : Int64) :
    ∃ x' S' e, takeE [x] S (claimN a k) H = (([x'], S'), e) ∧ (used k = true → e = 13) ∧ (used k = false → x.bal < (accA a k).amt → e = 5) ∧ (e ≠ 0 → x' = x ∧ S' = S) ∧
      (e = 0 → x'.bal = x.bal - (accA a k).amt) ∧ MoneyI a n (fun j => if e = 0 ∧ j = k then true else used j) x' S' ∧ S'.steps.length ≤ S.steps.length + 1 ∧ x'.used.length ≤ x.used.length + 1 ∧ x'.par = x.par ∧ x'.cert = x.cert := by
  have h1 := claimN_ok (a := a) hk
  have h2 := claimN_side (a := a) hk
  have e1 := claimN_acct (a := a) hk
  have e2 := claimN_st (a := a) hk
  have same : ∀ e : Int, e ≠ 0 → MoneyI a n (fun j => if e = 0 ∧ j = k then true else used j) x S := fun e he => by
    have : (fun j => if e = 0 ∧ j = k then true else used j) = used := funext fun j => if_neg fun h => he h.1
    rw [this]; exact h
  cases hu : used k with
  | true =>
    have hb : checkE [x] (claimN a k) = 13 := by
      rw [checkE_one h1 h2, checkX, if_neg (by rw [h.ceased]; simp), if_pos (by rw [e1]; exact (h.used k hk).2 hu)]
    exact ⟨x, S, 13, take_bad hb (by decide), fun _ => rfl, fun h => (by cases h), fun _ => ⟨rfl, rfl⟩, fun h => (by cases h), same 13 (by decide), Nat.le_succ _, Nat.le_succ _, rfl, rfl⟩
  | false =>
    have hnu : (claimN a k).acct ∉ x.used := by rw [e1, h.used k hk, hu]; simp
    have hpr : proofOK x.root (claimN a k) = true := by rw [h.root]; exact claimN_proof hf hk
    by_cases hm : x.bal < (accA a k).amt
    · have hb : checkE [x] (claimN a k) = 5 := by
        rw [checkE_one h1 h2, checkX, if_neg (by rw [h.ceased]; simp), if_neg hnu, if_neg (by rw [hpr]; simp), if_pos (by rw [e2]; exact hm)]
      exact ⟨x, S, 5, take_bad hb (by decide), fun h => (by cases h), fun _ _ => rfl, fun _ => ⟨rfl, rfl⟩, fun h => (by cases h), same 5 (by decide), Nat.le_succ _, Nat.le_succ _, rfl, rfl⟩
    · rcases takeE_cases x S (claimN a k) H with ⟨e, he, h3⟩ | ⟨h3, _, h4, h5, _⟩
      · exact ⟨x, S, e, h3, fun h => (by cases h), fun _ h => absurd h hm, fun _ => ⟨rfl, rfl⟩, fun h => absurd h he, same e he, Nat.le_succ _, Nat.le_succ _, rfl, rfl⟩
      · have hp := h.keep.paid (k := ⟨(claimN a k).st.owner, Int64.ofInt (claimN a k).st.amt, H, false⟩) (by omega) h1 h4 h5 (amt64 h1)
        refine ⟨_, _, 0, h3, fun h => (by cases h), fun _ h => absurd h hm, fun h => absurd rfl h, fun _ => by rw [hp.2.1, e2], ⟨hp.1, h.ceased, h.root, fun j hj => ?_⟩, ?_, ?_, rfl, rfl⟩
        · show (plA a j : Int) ∈ insU x.used (claimN a k).acct ↔ _
          rw [mem_insU, h.used j hj, e1]
          by_cases e : j = k
          · subst e; simp
          · rw [if_neg (by intro h; exact e h.2)]
            constructor
            · rintro (h6 | h6)
              · exact absurd (hf.apart k j hk hj (by omega)) e
              · exact h6
            · exact fun h6 => .inr h6
        · show (S.steps ++ [_]).length ≤ _
          rw [List.length_append]; exact Nat.le_refl _
        · show (insU x.used (claimN a k).acct).length ≤ _
          rw [insU_len]; exact Nat.le_refl _
end Go.Proofs.YtnpkdoggfnlapaaGreatDoor
namespace Go.Proofs.YtnpkdoggfnlapaaGreatDoor
set_option maxRecDepth 100000
open Go.Sx
abbrev rrS : TypeId := 108
abbrev rrE : TypeId := 109
abbrev rReg (L : List SideM) : AbsP := regP rrS rrE L
theorem boxed_par (p : ParM) (h : Int) (q : Nat) (hq : Boxed q [.vec 29 8 p.keys.length (keysF p.keys)] [.ins q 1 0 p.keys.length] [.row 8 p.keys.length (keysF p.keys)]) : Boxed q [.vec 29 8 p.keys.length (keysF p.keys)] (sideCells (sideOf p h) (.ins q 1 0 p.keys.length) nilV nilV nilV) (sideOf p h).ac :=
  boxed_side (x := sideOf p h) hq ⟨.inl ⟨rfl, rfl⟩, trivial⟩ ⟨.inl ⟨rfl, rfl⟩, trivial⟩ ⟨.inl ⟨rfl, rfl⟩, trivial⟩
theorem boxed_keys (p : ParM) (q : Nat) : Boxed q [.vec 29 8 p.keys.length (keysF p.keys)] [.ins q 1 0 p.keys.length] [.row 8 p.keys.length (keysF p.keys)] := ⟨.inr ⟨0, _, _, rfl, rfl, Nat.le_refl _, rfl⟩, trivial⟩
def rcSlots (h : Int) (c : Nat) : List (Option XV) := [some (XV.sv (.ptr 0 0 0 0)), none, some (XV.int .i64 h), none, some (XV.sv (.ptr c 0 0 0))] ++ List.replicate 35 none
def parW (p : ParM) (k : SV) : Chunk := .cells 40 (parCells p k)
def keysV (p : ParM) : Chunk := .vec 29 8 p.keys.length (keysF p.keys)
theorem packs1 {M : Mem} {i : Nat} {c0 c : Chunk} (h : M.get i = some c0) (hc : ChLe c0 c) : ∀ (j k : Nat) (ch : Chunk), [i][j]? = some k → [c][j]? = some ch → ∃ ch0, M.get k = some ch0 ∧ ChLe ch0 ch := by
  intro j k ch h1 h2
  rcases j with _ | j
  · cases h1; cases h2; exact ⟨_, h, hc⟩
  · cases h1
set_option maxHeartbeats 4000000 in
theorem rcreate_can (L : List SideM) (p : ParM) (h : Int) (hl : p.keys.length ≤ 1000000) (hL : L.length < 8) (hp : parB p = true) : Acts Tryz.prog 65 (.abs (rReg L)) (.abs (rReg (L ++ [sideOf p h]))) [.box p.ac, .plain (.one (.raw (.int .i64 h)))] [] (.tup [.one (.raw (.int .i64 L.length)), .one (.raw (.int .i64 0))]) := by
  have hq := rmayPar_can p (by omega)
  rw [hp] at hq
  refine Acts.of Tryz.T_ok Tryz.func65 rfl _ _ _ _ _ rfl rfl rfl (fun C hC => ?_)
  (replace hC : C.n0 = 3 := hC; change Tri _ _ _ ⟨_, _, 3⟩ _)
  rcases L with _ | ⟨x, r⟩
  · refine Reg.opens0 rrS rrE 0 rfl ?_
    (refine Tri.cut 4 Tryz.mixed Tryz.T_ok ?_; refine xZ ?_)
    (apply wP; exact (call_op rfl (entersB_of Tryz.func112 (by kernel_rfl)) rfl (hq.at [1] ⟨lend_par (lend_ro0 rfl rfl), trivial⟩ trivial)); refine xZ ?_)
    (refine wP _ _ (append_op Tryz.T_ok rfl rfl rfl rfl rfl [1] (old_nil rfl _ _ _ (fun _ => [])) (new_ro (lo := 0) rfl rfl (Nat.le_of_eq (Nat.zero_add _)) rfl) rfl (fun _ _ => rfl) (by simp only [maxLen]; omega) (by dsimp only; omega)) ?_; refine xZ ?_)
    simp only [Nat.zero_add]
    refine wD <| cutG <| Tri.ent (S' := ⟨rcSlots h 3, [(0, .cells rrS [nilV]), (3, parW p (.slc 4 8 0 p.keys.length)), (4, keysV p)], 5⟩) ?_ <| Tri.ent (Ent.pack2 [4] [keysV p] (by decide) rfl rfl (packs1 rfl (ChLe.refl _ rfl))) <|
      Tri.ent (S' := ⟨rcSlots h 3, [(0, .cells rrS [nilV]), (3, parW p (.ins 4 1 0 p.keys.length)), (4, .abs (PackP [keysV p]))], 5⟩) ?_ (Tri.of Tryz.mixed Tryz.T_ok ?_)
    · unfold rcSlots parW keysV
      ((try dsimp only); refine Ent.renC [0, 1, 2, 4, 18] hC ?_ ?_ <;> repeat' (first | exact trivial | exact rfl | exact ⟨_, rfl, rfl, rfl, Nat.le_refl _, fun _ _ => rfl⟩ | exact ⟨_, rfl, rfl, rfl, fun _ _ => rfl⟩ | exact ⟨_, rfl, rfl, rfl⟩ | exact ⟨_, rfl, rfl⟩ | refine ⟨_, rfl, rfl, rfl, by omega, fun k hk => ?_⟩ | refine ⟨?_, ?_⟩ | fail))
    · unfold rcSlots parW keysV
      ((try dsimp only); refine Ent.renC [0, 1, 2, 3, 5] hC ?_ ?_ <;> repeat' (first | exact trivial | exact rfl | exact ⟨_, rfl, rfl, rfl, Nat.le_refl _, fun _ _ => rfl⟩ | exact ⟨_, rfl, rfl, rfl, fun _ _ => rfl⟩ | exact ⟨_, rfl, rfl, rfl⟩ | exact ⟨_, rfl, rfl⟩ | refine ⟨_, rfl, rfl, rfl, by omega, fun k hk => ?_⟩ | refine ⟨?_, ?_⟩ | fail))
    unfold rcSlots parW keysV
    (refine xB ?_)
    (refine wP _ _ (appendNils_op Tryz.T_ok rfl rfl rfl rfl rfl rfl) ?_; refine xZ ?_)
    (refine wP _ _ (boxSlice_op Tryz.T_ok rfl rfl rfl) ?_; refine xZ ?_)
    (refine wP _ _ (appendBox_op Tryz.T_ok rfl rfl rfl rfl rfl rfl rfl rfl (p := 4) rfl rfl rfl (by decide) (boxed_par p h 4 (boxed_keys p 4))) ?_; refine xZ ?_)
    exact wD (Ends.shutN (.inr rfl) (Reg.shuts rrS rrE [sideOf p h] 0 (i1 := 15) Nat.one_pos rfl rfl rfl rfl rfl (lt1 rfl)) rfl rfl rfl)
  · have hLr : r.length + 1 < 8 := hL
    refine Reg.opensD rrS rrE (x :: r) 0 (Nat.succ_pos _) rfl ?_
    (refine Tri.cut 4 Tryz.mixed Tryz.T_ok ?_; refine xZ ?_)
    (apply wP; exact (call_op rfl (entersB_of Tryz.func112 (by kernel_rfl)) rfl (hq.at [1] ⟨lend_par (lend_ro0 rfl rfl), trivial⟩ trivial)); refine xZ ?_)
    (refine wFd ?_ ?_; (first | refine decide_eq_false ?_ | rw [beq_eq_false_iff_ne] | rw [bne_eq_false_iff_eq]); exact xW; refine xG ?_)
    (refine wP _ _ (append_op Tryz.T_ok rfl rfl rfl rfl rfl [1] (old_nil rfl _ _ _ (fun _ => [])) (new_ro (lo := 0) rfl rfl (Nat.le_of_eq (Nat.zero_add _)) rfl) rfl (fun _ _ => rfl) (by simp only [maxLen]; omega) (by dsimp only; omega)) ?_; refine xZ ?_)
    simp only [Nat.zero_add]
    refine wD <| cutG <| Tri.ent (S' := ⟨rcSlots h 4, [(0, .cells rrS [.slc 3 42 0 (x :: r).length]), (3, .abs (DeepP rrE 42 (x :: r).length (regF (x :: r)))), (4, parW p (.slc 5 8 0 p.keys.length)), (5, keysV p)], 6⟩) ?_ <| Tri.ent (Ent.pack2 [5] [keysV p] (by decide) rfl rfl (packs1 rfl (ChLe.refl _ rfl))) <|
      Tri.ent (S' := ⟨rcSlots h 4, [(0, .cells rrS [.slc 3 42 0 (x :: r).length]), (3, .abs (DeepP rrE 42 (x :: r).length (regF (x :: r)))), (4, parW p (.ins 5 1 0 p.keys.length)), (5, .abs (PackP [keysV p]))], 6⟩) ?_ (Tri.of Tryz.mixed Tryz.T_ok ?_)
    · unfold rcSlots parW keysV
      ((try dsimp only); refine Ent.renC [0, 1, 2, 4, 5, 19] hC ?_ ?_ <;> repeat' (first | exact trivial | exact rfl | exact ⟨_, rfl, rfl, rfl, Nat.le_refl _, fun _ _ => rfl⟩ | exact ⟨_, rfl, rfl, rfl, fun _ _ => rfl⟩ | exact ⟨_, rfl, rfl, rfl⟩ | exact ⟨_, rfl, rfl⟩ | refine ⟨_, rfl, rfl, rfl, by omega, fun k hk => ?_⟩ | refine ⟨?_, ?_⟩ | fail))
    · unfold rcSlots parW keysV
      ((try dsimp only); refine Ent.renC [0, 1, 2, 3, 4, 6] hC ?_ ?_ <;> repeat' (first | exact trivial | exact rfl | exact ⟨_, rfl, rfl, rfl, Nat.le_refl _, fun _ _ => rfl⟩ | exact ⟨_, rfl, rfl, rfl, fun _ _ => rfl⟩ | exact ⟨_, rfl, rfl, rfl⟩ | exact ⟨_, rfl, rfl⟩ | refine ⟨_, rfl, rfl, rfl, by omega, fun k hk => ?_⟩ | refine ⟨?_, ?_⟩ | fail))
    unfold rcSlots parW keysV
    (refine xB ?_)
    (refine wP _ _ (copyDeep_op Tryz.T_ok rfl rfl rfl rfl rfl rfl rfl rfl (by decide) (Nat.succ_pos _) (by simp only [maxLen]; omega) (by dsimp only; omega) (fun i _ => SideM.ac_one _)) ?_; refine xZ ?_)
    (refine wP _ _ (boxSlice_op Tryz.T_ok rfl rfl rfl) ?_; refine xZ ?_)
    (refine wP _ _ (appendBoxes_op Tryz.T_ok rfl rfl rfl rfl rfl rfl rfl rfl rfl (p := 5) rfl (by decide) (by decide) rfl rfl (by simp only [maxLen]; omega) (by dsimp only; omega) (boxed_par p h 5 (boxed_keys p 5))) ?_; refine xZ ?_)
    have hl1 : ((x :: r) ++ [sideOf p h]).length = (x :: r).length + 1 := by simp
    refine wD (Ends.shutN (.inr rfl) (Reg.shuts rrS rrE ((x :: r) ++ [sideOf p h]) 0 (i1 := 16) (m := (x :: r).length + 1) (n := (x :: r).length + 1) (by omega) rfl rfl rfl hl1.symm hl1.symm (fun i hi => regF_snoc hi)) rfl rfl ?_)
    have e : IntKind.i64.wrap ((((x :: r).length + 1 : Nat) : Int) - 1) = ((x :: r).length : Int) := xW
    show XV.tup [.one (.raw (.int .i64 (IntKind.i64.wrap ((((x :: r).length + 1 : Nat) : Int) - 1)))), _] = _
    rw [e]
set_option maxHeartbeats 4000000 in
theorem rforward_in (L : List SideM) (i : Nat) (hi : i < L.length) (a : Int) (o : H8) (n : Int) : Acts Tryz.prog 67 (.abs (rReg L)) (.abs (rReg (L.set i (fwdX (L.getD i default) n)))) [.plain (fwdC i a o n)] [] (XV.int .i64 (fwdE (L.getD i default) n)) := by
  have h0 : 0 < L.length := by omega
  refine Acts.of Tryz.T_ok Tryz.func67 rfl _ _ _ _ _ rfl rfl rfl (fun C hC => ?_)
  (replace hC : C.n0 = 2 := hC; change Tri _ _ _ ⟨_, _, 2⟩ _)
  refine Reg.opens rrS rrE L 0 h0 rfl (Nat.le_of_ble_eq_true rfl) (fun ad => Tri.of Tryz.mixed Tryz.T_ok ?_)
  (refine xB ?_)
  (refine wFd ?_ ?_; (first | refine decide_eq_false ?_ | rw [beq_eq_false_iff_ne] | rw [bne_eq_false_iff_eq]); exact xW; refine xG ?_)
  (refine wFd ?_ ?_; (first | refine decide_eq_false ?_ | rw [beq_eq_false_iff_ne] | rw [bne_eq_false_iff_eq]); exact xW; refine xG ?_)
  (repeat (refine wN ?_ ?_; exact xW; refine xG ?_))
  simp only [Nat.zero_add, Int.toNat_natCast]
  obtain ⟨x, hx⟩ : ∃ x, L.getD i default = x := ⟨_, rfl⟩
  have no : ∀ {S : St} {mem : Mem} {e : Int}, fwdE x n = e → e ≠ 0 → Ent C S ⟨S.slots, (0, .abs (rReg L)) :: mem, S.nx⟩ → resX Tryz.T ⟨S.slots, (0, .abs (rReg L)) :: mem, S.nx⟩ Tryz.f67.results.toList = some (XV.int .i64 e) →
      Sx.Ends C Tryz.T Tryz.f67.results.toList 1 2 ⟨XV.int .i64 (fwdE (L.getD i default) n), [(0, .abs (rReg (L.set i (fwdX (L.getD i default) n))))], none⟩ .ret S := by
    intro S mem e he h0 hE hr
    rw [fwd_same hi (by rw [hx, he]; exact h0), hx, he]
    exact Ends.shutN (.inr rfl) hE rfl hr rfl
  have shut := fun {slots : List (Option XV)} {mem : Mem} {nx : Nat} k0 k1 k2 => Reg.shutsO (C := C) (slots := slots) (mem := mem) (nx := nx) rrS rrE L L 0 (i1 := 3) (q := 4) (ad := ad) (m := L.length) (n := L.length) h0 k0 k1 k2 rfl rfl rfl (fun _ _ => rfl) regF_raw
  refine wC (fun h1 => ?_) (fun h1 => ?_)
  · rw [hx] at h1
    (refine xG ?_)
    exact wD (no (if_pos h1) (by decide) (shut rfl rfl rfl) rfl)
  rw [hx] at h1
  have bad : fwdOKX x n = false → fwdE x n = 5 := fun h => by rw [fwdE, if_neg (by rw [h1]; simp), if_neg (by rw [h]; simp)]
  (refine xG ?_)
  refine wC (fun h2 => ?_) (fun h2 => ?_)
  · (refine xG ?_)
    exact wD (no (bad (by rw [fwdOKX, h2]; rfl)) (by decide) (shut rfl rfl rfl) rfl)
  (refine xG ?_)
  refine wC (fun h3 => ?_) (fun h3 => ?_)
  · have h3 : mayB n = false := by simp only [decide_eq_true_eq] at h3; rw [mayB, decide_eq_false (show ¬ n ≤ 1125899906842624 by omega), Bool.and_false]
    (refine xG ?_)
    exact wD (no (bad (by rw [fwdOKX, h2, h3]; rfl)) (by decide) (shut rfl rfl rfl) rfl)
  have h3 : mayB n = true := by simp only [decide_eq_false_iff_not] at h2 h3; rw [mayB, decide_eq_true (show 0 ≤ n by omega), decide_eq_true (show n ≤ 1125899906842624 by omega)]; rfl
  (refine xG ?_)
  refine wC (fun h4 => ?_) (fun h4 => ?_)
  · rw [hx] at h4
    (refine xG ?_)
    exact wD (no (bad (by rw [fwdOKX, h2, h3, roomI, h4]; rfl)) (by decide) (shut rfl rfl rfl) rfl)
  rw [hx] at h4
  (refine xG ?_)
  refine wC (fun h5 => ?_) (fun h5 => ?_)
  · rw [hx] at h5
    (refine xG ?_)
    exact wD (no (bad (by rw [fwdOKX, h2, h3, roomI, h4, h5]; rfl)) (by decide) (shut rfl rfl rfl) rfl)
  rw [hx] at h5
  have he : fwdE x n = 0 := by rw [fwdE, if_neg (by rw [h1]; simp), if_pos (by rw [fwdOKX, h2, h3, roomI, h4, h5]; rfl)]
  have hX : fwdX x n = { x with bal := IntKind.i64.wrap (x.bal + n), fwd := IntKind.i64.wrap (x.fwd + n) } := by rw [fwdX, if_pos he]
  (refine xG ?_)
  (repeat (refine wN ?_ ?_; exact xW; refine xG ?_))
  simp only [Nat.zero_add, Int.toNat_natCast]
  rw [hx, he, hX]
  have hl : ∀ y : SideM, (L.set i y).length = L.length := fun y => List.length_set ..
  refine wD (Ends.shutN (.inr rfl) (Reg.shutsO rrS rrE L (L.set i { x with bal := IntKind.i64.wrap (x.bal + n), fwd := IntKind.i64.wrap (x.fwd + n) }) 0 (i1 := 3) (q := 4) (ad := ad) (by rw [hl]; exact h0) rfl rfl rfl rfl (hl _).symm (hl _).symm (fun k hk => ?_) (fun k hk j y hy => ?_)) rfl rfl rfl)
  · by_cases hki : k = i
    · subst hki
      rw [updF_eq, regF_at hi]; rfl
    · rw [updF_ne hki, regF_ne hki]
  · by_cases hki : k = i
    · subst hki
      rw [regF_at hi] at hy
      rw [regF, hx]
      exact side_rows (x := { x with bal := IntKind.i64.wrap (x.bal + n), fwd := IntKind.i64.wrap (x.fwd + n) }) (y := x) rfl rfl rfl rfl hy
    · rw [regF_ne hki] at hy
      exact .inr hy
end Go.Proofs.YtnpkdoggfnlapaaGreatDoor
namespace Go.Proofs.YtnpkdoggfnlapaaGreatDoor
set_option maxRecDepth 100000
open Go.Sx
noncomputable def frc {α : Type} (x : Nat) (k : Nat → α) : α := @Nat.rec (fun _ => α) (k 0) (fun n _ => k (Nat.succ n)) x
theorem frc_eq {α : Type} (x : Nat) (k : Nat → α) : frc x k = k x := by cases x <;> rfl
def nrot (x n m : Nat) : Nat := Nat.lor (Nat.shiftRight x n) (Nat.mod (Nat.shiftLeft x m) 4294967296)
def nS0 (x : Nat) : Nat := Nat.xor (Nat.xor (nrot x 2 30) (nrot x 13 19)) (nrot x 22 10)
def nS1 (x : Nat) : Nat := Nat.xor (Nat.xor (nrot x 6 26) (nrot x 11 21)) (nrot x 25 7)
def ns0 (x : Nat) : Nat := Nat.xor (Nat.xor (nrot x 7 25) (nrot x 18 14)) (Nat.shiftRight x 3)
def ns1 (x : Nat) : Nat := Nat.xor (Nat.xor (nrot x 17 15) (nrot x 19 13)) (Nat.shiftRight x 10)
def nch (e f g : Nat) : Nat := Nat.xor (Nat.land e f) (Nat.land (Nat.xor 4294967295 e) g)
def nmaj (a b c : Nat) : Nat := Nat.xor (Nat.xor (Nat.land a b) (Nat.land a c)) (Nat.land b c)
def nT (e f g h k w : Nat) : Nat := Nat.mod (Nat.add (Nat.add (Nat.add (Nat.add h (nS1 e)) (nch e f g)) k) w) 4294967296
def nadd (a b : Nat) : Nat := Nat.mod (Nat.add a b) 4294967296
def nmix (w0 w1 w9 w14 : Nat) : Nat := Nat.mod (Nat.add (Nat.add (Nat.add w0 w9) (ns0 w1)) (ns1 w14)) 4294967296
abbrev B32 (x : Nat) : Prop := x < 4294967296
theorem bit_nat (f : BitVec 32 → BitVec 32 → BitVec 32) (g : Nat → Nat → Nat) (hf : ∀ a b, (f a b).toNat = g a.toNat b.toNat) {x y : Nat} (hx : B32 x) (hy : B32 y) : IntKind.u32.wrap ((f (BitVec.ofInt 32 (x : Int)) (BitVec.ofInt 32 (y : Int))).toNat : Int) = ((g x y : Nat) : Int) ∧ B32 (g x y) := by
  have e1 : (BitVec.ofInt 32 (x : Int)).toNat = x := by rw [ofInt_nat, BitVec.toNat_ofNat]; exact Nat.mod_eq_of_lt hx
  have e2 : (BitVec.ofInt 32 (y : Int)).toNat = y := by rw [ofInt_nat, BitVec.toNat_ofNat]; exact Nat.mod_eq_of_lt hy
  have h := (f (BitVec.ofInt 32 (x : Int)) (BitVec.ofInt 32 (y : Int))).isLt
  rw [hf, e1, e2] at h ⊢
  refine ⟨?_, h⟩
  rw [IntKind.wrap_u32]
  exact Int.emod_eq_of_lt (by omega) (by omega)
theorem xor_nat {x y : Nat} (hx : B32 x) (hy : B32 y) : bitI .xor .u32 (x : Int) (y : Int) = ((Nat.xor x y : Nat) : Int) := (bit_nat (· ^^^ ·) Nat.xor (fun a b => BitVec.toNat_xor a b) hx hy).1
theorem and_nat {x y : Nat} (hx : B32 x) (hy : B32 y) : bitI .and .u32 (x : Int) (y : Int) = ((Nat.land x y : Nat) : Int) := (bit_nat (· &&& ·) Nat.land (fun a b => BitVec.toNat_and a b) hx hy).1
theorem or_nat {x y : Nat} (hx : B32 x) (hy : B32 y) : bitI .or .u32 (x : Int) (y : Int) = ((Nat.lor x y : Nat) : Int) := (bit_nat (· ||| ·) Nat.lor (fun a b => BitVec.toNat_or a b) hx hy).1
theorem xor_lt {x y : Nat} (hx : B32 x) (hy : B32 y) : B32 (Nat.xor x y) := (bit_nat (· ^^^ ·) Nat.xor (fun a b => BitVec.toNat_xor a b) hx hy).2
theorem and_lt {x y : Nat} (hx : B32 x) (hy : B32 y) : B32 (Nat.land x y) := (bit_nat (· &&& ·) Nat.land (fun a b => BitVec.toNat_and a b) hx hy).2
theorem or_lt {x y : Nat} (hx : B32 x) (hy : B32 y) : B32 (Nat.lor x y) := (bit_nat (· ||| ·) Nat.lor (fun a b => BitVec.toNat_or a b) hx hy).2
theorem shr32_nat (x n : Nat) (hn : n ≤ 32) : shrI .u32 (x : Int) (n : Int) = ((Nat.shiftRight x n : Nat) : Int) := by
  have hb : IntKind.u32.bits = 32 := rfl
  have e : min ((n : Int).toNat) IntKind.u32.bits = n := by rw [hb]; omega
  rw [shrI, e, Int.fdiv_eq_ediv_of_nonneg _ (Int.le_of_lt (Int.pow_pos (by decide)))]
  show _ = ((x >>> n : Nat) : Int)
  rw [Nat.shiftRight_eq_div_pow, Int.natCast_ediv, Int.natCast_pow]
  rfl
theorem shl32_nat (x n : Nat) (hn : n ≤ 32) : shlI .u32 (x : Int) (n : Int) = ((Nat.mod (Nat.shiftLeft x n) 4294967296 : Nat) : Int) := by
  have hb : IntKind.u32.bits = 32 := rfl
  have e : min ((n : Int).toNat) IntKind.u32.bits = n := by rw [hb]; omega
  rw [shlI, e, IntKind.wrap_u32]
  show _ = ((x <<< n % 4294967296 : Nat) : Int)
  rw [Nat.shiftLeft_eq, Int.natCast_emod, Int.natCast_mul, Int.natCast_pow]
  rfl
theorem mod_lt32 (x : Nat) : B32 (Nat.mod x 4294967296) := Nat.mod_lt _ (by decide)
theorem shr_lt {x : Nat} (n : Nat) (hx : B32 x) : B32 (Nat.shiftRight x n) := by
  show x >>> n < _
  rw [Nat.shiftRight_eq_div_pow]
  exact Nat.lt_of_le_of_lt (Nat.div_le_self _ _) hx
theorem rot_lt {x : Nat} (n m : Nat) (hx : B32 x) : B32 (nrot x n m) := or_lt (shr_lt n hx) (mod_lt32 _)
theorem turn_nat {x n m : Nat} (hx : B32 x) (hn : n ≤ 32) (hm : m ≤ 32) (e : IntKind.u64.wrap (32 - (n : Int)) = (m : Int)) : turn (x : Int) (n : Int) = ((nrot x n m : Nat) : Int) := by
  rw [turn, e, shr32_nat x n hn, shl32_nat x m hm, or_nat (shr_lt n hx) (mod_lt32 _)]
  rfl
theorem w32_nat (a b : Nat) : w32 (a : Int) (b : Int) = ((nadd a b : Nat) : Int) := by
  rw [w32, IntKind.wrap_u32]
  show _ = (((a + b) % 4294967296 : Nat) : Int)
  omega
theorem rotR_nat {x : Nat} (hx : B32 x) : rotR (x : Int) 2 = ((nrot x 2 30 : Nat) : Int) ∧ rotR (x : Int) 13 = ((nrot x 13 19 : Nat) : Int) ∧ rotR (x : Int) 22 = ((nrot x 22 10 : Nat) : Int) ∧ rotR (x : Int) 6 = ((nrot x 6 26 : Nat) : Int) ∧ rotR (x : Int) 11 = ((nrot x 11 21 : Nat) : Int) ∧ rotR (x : Int) 25 = ((nrot x 25 7 : Nat) : Int)
    ∧ rotR (x : Int) 7 = ((nrot x 7 25 : Nat) : Int) ∧ rotR (x : Int) 18 = ((nrot x 18 14 : Nat) : Int) ∧ rotR (x : Int) 17 = ((nrot x 17 15 : Nat) : Int) ∧ rotR (x : Int) 19 = ((nrot x 19 13 : Nat) : Int) := by
  rw [← turn2, ← turn13, ← turn22, ← turn6, ← turn11, ← turn25, ← turn7, ← turn18, ← turn17, ← turn19]
  exact ⟨turn_nat (n := 2) (m := 30) hx (by decide) (by decide) (by decide), turn_nat (n := 13) (m := 19) hx (by decide) (by decide) (by decide), turn_nat (n := 22) (m := 10) hx (by decide) (by decide) (by decide), turn_nat (n := 6) (m := 26) hx (by decide) (by decide) (by decide), turn_nat (n := 11) (m := 21) hx (by decide) (by decide) (by decide), turn_nat (n := 25) (m := 7) hx (by decide) (by decide) (by decide),
    turn_nat (n := 7) (m := 25) hx (by decide) (by decide) (by decide), turn_nat (n := 18) (m := 14) hx (by decide) (by decide) (by decide), turn_nat (n := 17) (m := 15) hx (by decide) (by decide) (by decide), turn_nat (n := 19) (m := 13) hx (by decide) (by decide) (by decide)⟩
theorem sumA_nat {v : Nat → Int} {a : Nat} (h : v 0 = (a : Int)) (ha : B32 a) : sumA v = ((nS0 a : Nat) : Int) := by
  obtain ⟨r2, r13, r22, _⟩ := rotR_nat ha
  rw [sumA, h, r2, r13, r22, xor_nat (rot_lt _ _ ha) (rot_lt _ _ ha), xor_nat (xor_lt (rot_lt _ _ ha) (rot_lt _ _ ha)) (rot_lt _ _ ha)]
  rfl
theorem sumE_nat {v : Nat → Int} {a : Nat} (h : v 4 = (a : Int)) (ha : B32 a) : sumE v = ((nS1 a : Nat) : Int) := by
  obtain ⟨_, _, _, r6, r11, r25, _⟩ := rotR_nat ha
  rw [sumE, h, r6, r11, r25, xor_nat (rot_lt _ _ ha) (rot_lt _ _ ha), xor_nat (xor_lt (rot_lt _ _ ha) (rot_lt _ _ ha)) (rot_lt _ _ ha)]
  rfl
theorem sg0_nat {a : Nat} (ha : B32 a) : sg0 (a : Int) = ((ns0 a : Nat) : Int) := by
  obtain ⟨_, _, _, _, _, _, r7, r18, _⟩ := rotR_nat ha
  rw [sg0, r7, r18, show shrI .u32 (a : Int) 3 = _ from shr32_nat a 3 (by decide), xor_nat (rot_lt _ _ ha) (rot_lt _ _ ha), xor_nat (xor_lt (rot_lt _ _ ha) (rot_lt _ _ ha)) (shr_lt _ ha)]
  rfl
theorem sg1_nat {a : Nat} (ha : B32 a) : sg1 (a : Int) = ((ns1 a : Nat) : Int) := by
  obtain ⟨_, _, _, _, _, _, _, _, r17, r19⟩ := rotR_nat ha
  rw [sg1, r17, r19, show shrI .u32 (a : Int) 10 = _ from shr32_nat a 10 (by decide), xor_nat (rot_lt _ _ ha) (rot_lt _ _ ha), xor_nat (xor_lt (rot_lt _ _ ha) (rot_lt _ _ ha)) (shr_lt _ ha)]
  rfl
theorem chE_nat {v : Nat → Int} {e f g : Nat} (h4 : v 4 = (e : Int)) (h5 : v 5 = (f : Int)) (h6 : v 6 = (g : Int)) (he : B32 e) (hf : B32 f) (hg : B32 g) : chE v = ((nch e f g : Nat) : Int) := by
  have hm : (if IntKind.u32.signed then (-1 : Int) else IntKind.u32.max) = ((4294967295 : Nat) : Int) := by decide
  have h1 : B32 4294967295 := by decide
  rw [chE, h4, h5, h6, hm, and_nat he hf, xor_nat h1 he, and_nat (xor_lt h1 he) hg, xor_nat (and_lt he hf) (and_lt (xor_lt h1 he) hg)]
  rfl
theorem majA_nat {v : Nat → Int} {a b c : Nat} (h0 : v 0 = (a : Int)) (h1 : v 1 = (b : Int)) (h2 : v 2 = (c : Int)) (ha : B32 a) (hb : B32 b) (hc : B32 c) : majA v = ((nmaj a b c : Nat) : Int) := by
  rw [majA, h0, h1, h2, and_nat ha hb, and_nat ha hc, and_nat hb hc, xor_nat (and_lt ha hb) (and_lt ha hc), xor_nat (xor_lt (and_lt ha hb) (and_lt ha hc)) (and_lt hb hc)]
  rfl
structure R8 (v : Nat → Int) (a b c d e f g h : Nat) : Prop where
  (h0 : v 0 = (a : Int)) (h1 : v 1 = (b : Int)) (h2 : v 2 = (c : Int)) (h3 : v 3 = (d : Int)) (h4 : v 4 = (e : Int)) (h5 : v 5 = (f : Int)) (h6 : v 6 = (g : Int)) (h7 : v 7 = (h : Int))
  (l0 : B32 a) (l1 : B32 b) (l2 : B32 c) (l3 : B32 d) (l4 : B32 e) (l5 : B32 f) (l6 : B32 g) (l7 : B32 h)
theorem stT_nat {v : Nat → Int} {a b c d e f g h k w : Nat} (R : R8 v a b c d e f g h) : stT v (k : Int) (w : Int) = ((nT e f g h k w : Nat) : Int) := by
  rw [stT, R.h7, sumE_nat R.h4 R.l4, chE_nat R.h4 R.h5 R.h6 R.l4 R.l5 R.l6, w32_nat, w32_nat, w32_nat, w32_nat]
  congr 1
  show (((((h + nS1 e) % 4294967296 + nch e f g) % 4294967296) + k) % 4294967296 + w) % 4294967296 = (h + nS1 e + nch e f g + k + w) % 4294967296
  omega
theorem step_nat {v : Nat → Int} {a b c d e f g h k w : Nat} (R : R8 v a b c d e f g h) : R8 (stepV v (k : Int) (w : Int)) (Nat.mod (Nat.add (nT e f g h k w) (Nat.add (nS0 a) (nmaj a b c))) 4294967296) a b c (Nat.mod (Nat.add d (nT e f g h k w)) 4294967296) e f g := by
  refine ⟨?_, R.h0, R.h1, R.h2, ?_, R.h4, R.h5, R.h6, mod_lt32 _, R.l0, R.l1, R.l2, mod_lt32 _, R.l4, R.l5, R.l6⟩
  · show w32 (stT v k w) (stU v) = _
    rw [stT_nat R, stU, sumA_nat R.h0 R.l0, majA_nat R.h0 R.h1 R.h2 R.l0 R.l1 R.l2, w32_nat, w32_nat]
    congr 1
    show (nT e f g h k w + (nS0 a + nmaj a b c) % 4294967296) % 4294967296 = (nT e f g h k w + (nS0 a + nmaj a b c)) % 4294967296
    omega
  · show w32 (v 3) (stT v k w) = _
    rw [stT_nat R, R.h3, w32_nat]
    rfl
end Go.Proofs.YtnpkdoggfnlapaaGreatDoor
namespace Go.Proofs.YtnpkdoggfnlapaaGreatDoor
set_option maxRecDepth 100000
open Go.Sx
noncomputable def nrnd {α : Type} (K : Nat → Nat → Nat → Nat → Nat → Nat → Nat → Nat → α) (ks : List Nat) : Nat → Nat → Nat → Nat → Nat → Nat → Nat → Nat → Nat → Nat → Nat → Nat → Nat → Nat → Nat → Nat → Nat → Nat → Nat → Nat → Nat → Nat → Nat → Nat → α :=
  @List.rec Nat (fun _ => Nat → Nat → Nat → Nat → Nat → Nat → Nat → Nat → Nat → Nat → Nat → Nat → Nat → Nat → Nat → Nat → Nat → Nat → Nat → Nat → Nat → Nat → Nat → Nat → α)
    (fun a b c d e f g h _ _ _ _ _ _ _ _ _ _ _ _ _ _ _ _ => K a b c d e f g h)
    (fun k _ ih a b c d e f g h w0 w1 w2 w3 w4 w5 w6 w7 w8 w9 w10 w11 w12 w13 w14 w15 =>
      frc (nT e f g h k w0) fun t => frc (Nat.mod (Nat.add t (Nat.add (nS0 a) (nmaj a b c))) 4294967296) fun a' => frc (Nat.mod (Nat.add d t) 4294967296) fun e' =>
      frc (nmix w0 w1 w9 w14) fun w16 => ih a' a b c e' e f g w1 w2 w3 w4 w5 w6 w7 w8 w9 w10 w11 w12 w13 w14 w15 w16) ks
def ksN : List Nat := [1116352408, 1899447441, 3049323471, 3921009573, 961987163, 1508970993, 2453635748, 2870763221, 3624381080, 310598401, 607225278, 1426881987, 1925078388, 2162078206, 2614888103, 3248222580, 3835390401, 4022224774, 264347078, 604807628, 770255983, 1249150122, 1555081692, 1996064986, 2554220882, 2821834349, 2952996808, 3210313671, 3336571891, 3584528711, 113926993, 338241895, 666307205, 773529912, 1294757372, 1396182291, 1695183700, 1986661051, 2177026350, 2456956037, 2730485921, 2820302411, 3259730800, 3345764771, 3516065817, 3600352804, 4094571909, 275423344, 430227734, 506948616, 659060556, 883997877, 958139571, 1322822218, 1537002063, 1747873779, 1955562222, 2024104815, 2227730452, 2361852424, 2428436474, 2756734187, 3204031479, 3329325298]
noncomputable def nblocks {α : Type} (n : Nat) : List Nat → Nat → Nat → Nat → Nat → Nat → Nat → Nat → Nat → (Nat → Nat → α) → α :=
  @Nat.rec (fun _ => List Nat → Nat → Nat → Nat → Nat → Nat → Nat → Nat → Nat → (Nat → Nat → α) → α)
    (fun _ a b _ _ _ _ _ _ k => k a b)
    (fun _ ih l a b c d e f g h k =>
      frc (l.getD 0 0) fun w0 => frc (l.getD 1 0) fun w1 => frc (l.getD 2 0) fun w2 => frc (l.getD 3 0) fun w3 => frc (l.getD 4 0) fun w4 => frc (l.getD 5 0) fun w5 => frc (l.getD 6 0) fun w6 => frc (l.getD 7 0) fun w7 => frc (l.getD 8 0) fun w8 => frc (l.getD 9 0) fun w9 => frc (l.getD 10 0) fun w10 => frc (l.getD 11 0) fun w11 => frc (l.getD 12 0) fun w12 => frc (l.getD 13 0) fun w13 => frc (l.getD 14 0) fun w14 => frc (l.getD 15 0) fun w15 =>
      nrnd (fun a' b' c' d' e' f' g' h' => frc (nadd a a') fun a => frc (nadd b b') fun b => frc (nadd c c') fun c => frc (nadd d d') fun d => frc (nadd e e') fun e => frc (nadd f f') fun f => frc (nadd g g') fun g => frc (nadd h h') fun h => ih (l.drop 16) a b c d e f g h k)
        ksN a b c d e f g h w0 w1 w2 w3 w4 w5 w6 w7 w8 w9 w10 w11 w12 w13 w14 w15) n
theorem sched_val (b : Nat → UInt8) {n : Nat} : ∀ N, n < N → sched b N n = if n < 16 then word b n else mix (sched b n) n
  | 0, h => absurd h (Nat.not_lt_zero _)
  | N + 1, h => by
    rw [sched_step]
    by_cases e : n = N
    · subst e; rw [if_pos rfl]
    · rw [if_neg e]; exact sched_val b N (by omega)
theorem sched_same (b : Nat → UInt8) {n N N' : Nat} (h : n < N) (h' : n < N') : sched b N n = sched b N' n := by rw [sched_val b N h, sched_val b N' h']
theorem nmix_eq {w0 w1 w9 w14 : Nat} (h1 : B32 w1) (h14 : B32 w14) : w32 (w32 (w32 (w0 : Int) (w9 : Int)) (sg0 (w1 : Int))) (sg1 (w14 : Int)) = ((nmix w0 w1 w9 w14 : Nat) : Int) := by
  rw [sg0_nat h1, sg1_nat h14, w32_nat, w32_nat, w32_nat]
  congr 1
  show (((w0 + w9) % 4294967296 + ns0 w1) % 4294967296 + ns1 w14) % 4294967296 = (w0 + w9 + ns0 w1 + ns1 w14) % 4294967296
  omega
theorem sched_next (b : Nat → UInt8) {n w0 w1 w9 w14 : Nat} (hn : n + 16 < 64) (e0 : sched b 64 n = (w0 : Int)) (e1 : sched b 64 (n + 1) = (w1 : Int)) (e9 : sched b 64 (n + 9) = (w9 : Int)) (e14 : sched b 64 (n + 14) = (w14 : Int)) (h1 : B32 w1) (h14 : B32 w14) : sched b 64 (n + 16) = ((nmix w0 w1 w9 w14 : Nat) : Int) := by
  rw [sched_val b 64 hn, if_neg (by omega), mix, sched_same b (N' := 64) (n := n + 16 - 16) (by omega) (by omega), sched_same b (N' := 64) (n := n + 16 - 7) (by omega) (by omega), sched_same b (N' := 64) (n := n + 16 - 15) (by omega) (by omega), sched_same b (N' := 64) (n := n + 16 - 2) (by omega) (by omega),
    show n + 16 - 16 = n by omega, show n + 16 - 7 = n + 9 by omega, show n + 16 - 15 = n + 1 by omega, show n + 16 - 2 = n + 14 by omega, e0, e1, e9, e14, nmix_eq h1 h14]
theorem stepW_nat : ∀ n, n < 64 → stepW n = ((ksN.getD n 0 : Nat) : Int) := by decide
theorem ksN_drop {n : Nat} (h : n < 64) : ksN.drop n = ksN.getD n 0 :: ksN.drop (n + 1) := by
  have hl : ksN.length = 64 := rfl
  rw [List.drop_eq_getElem_cons (by omega), List.getD_eq_getElem?_getD, List.getElem?_eq_getElem (by omega)]; rfl
def WOk (b : Nat → UInt8) (n : Nat) (ws : Nat → Nat) : Prop := ∀ i, i < 16 → n + i < 64 → sched b 64 (n + i) = (ws i : Int) ∧ B32 (ws i)
theorem nrnd_eq {α : Type} (h0 : Nat → Int) (b : Nat → UInt8) (K : Nat → Nat → Nat → Nat → Nat → Nat → Nat → Nat → α) : ∀ m n, n + m = 64 → ∀ (a b' c d e f g h : Nat), R8 (stepsV h0 b n) a b' c d e f g h → ∀ ws, WOk b n ws →
    ∃ a2 b2 c2 d2 e2 f2 g2 h2, R8 (stepsV h0 b 64) a2 b2 c2 d2 e2 f2 g2 h2 ∧ nrnd K (ksN.drop n) a b' c d e f g h (ws 0) (ws 1) (ws 2) (ws 3) (ws 4) (ws 5) (ws 6) (ws 7) (ws 8) (ws 9) (ws 10) (ws 11) (ws 12) (ws 13) (ws 14) (ws 15) = K a2 b2 c2 d2 e2 f2 g2 h2
  | 0, n, hn, a, b', c, d, e, f, g, h, R, ws, W => by
    obtain rfl : n = 64 := by omega
    exact ⟨a, b', c, d, e, f, g, h, R, rfl⟩
  | m + 1, n, hn, a, b', c, d, e, f, g, h, R, ws, W => by
    rw [ksN_drop (by omega)]
    have hw := W 0 (by decide) (by omega)
    have hR := step_nat (k := ksN.getD n 0) (w := ws 0) R
    rw [← stepW_nat n (by omega), ← (show sched b 64 n = (ws 0 : Int) from hw.1)] at hR
    let ws' : Nat → Nat := fun i => if i < 15 then ws (i + 1) else nmix (ws 0) (ws 1) (ws 9) (ws 14)
    have hW : WOk b (n + 1) ws' := by
      intro i hi hni
      by_cases h15 : i < 15
      · have := W (i + 1) (by omega) (by omega)
        rw [show n + 1 + i = n + (i + 1) by omega]
        simp only [ws', if_pos h15]
        exact this
      · obtain rfl : i = 15 := by omega
        have q0 := W 0 (by decide) (by omega)
        have q1 := W 1 (by decide) (by omega)
        have q9 := W 9 (by decide) (by omega)
        have q14 := W 14 (by decide) (by omega)
        refine ⟨?_, mod_lt32 _⟩
        rw [show n + 1 + 15 = n + 16 by omega]
        exact sched_next b (by omega) q0.1 q1.1 q9.1 q14.1 q1.2 q14.2
    obtain ⟨a2, b2, c2, d2, e2, f2, g2, h2, R2, e2'⟩ := nrnd_eq h0 b K m (n + 1) (by omega) _ _ _ _ _ _ _ _ hR ws' hW
    refine ⟨a2, b2, c2, d2, e2, f2, g2, h2, R2, ?_⟩
    rw [← e2']
    show (frc (nT e f g h (ksN.getD n 0) (ws 0)) fun t => frc (Nat.mod (Nat.add t (Nat.add (nS0 a) (nmaj a b' c))) 4294967296) fun a' => frc (Nat.mod (Nat.add d t) 4294967296) fun e' =>
      frc (nmix (ws 0) (ws 1) (ws 9) (ws 14)) fun w16 => nrnd K (ksN.drop (n + 1)) a' a b' c e' e f g (ws 1) (ws 2) (ws 3) (ws 4) (ws 5) (ws 6) (ws 7) (ws 8) (ws 9) (ws 10) (ws 11) (ws 12) (ws 13) (ws 14) (ws 15) w16) = _
    rw [frc_eq, frc_eq, frc_eq, frc_eq]
    rfl
end Go.Proofs.YtnpkdoggfnlapaaGreatDoor

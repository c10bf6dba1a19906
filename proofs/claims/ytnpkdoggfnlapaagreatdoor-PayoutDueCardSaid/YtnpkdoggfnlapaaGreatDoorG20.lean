/- Parts Yk Yo Yp Yq Ys Yu Yv Yw Ra Rb Rc Rd Re Rf Zg Zh Zi Px Ur Ui Uj Uk Um. -/
import Derived.Test.YtnpkdoggfnlapaaGreatDoorG19
import Derived.Test.YtnpkdoggfnlapaaGreatDoorG18
import Derived.Test.YtnpkdoggfnlapaaGreatDoorG17
import Derived.Test.YtnpkdoggfnlapaaGreatDoorG12
import Derived.Test.YtnpkdoggfnlapaaGreatDoorG15
import Derived.Test.YtnpkdoggfnlapaaGreatDoorG14
import Derived.Test.YtnpkdoggfnlapaaGreatDoorG06
import Derived.Sort.Statements
set_option linter.unusedSimpArgs false
set_option linter.unusedVariables false
namespace Go.Proofs.YtnpkdoggfnlapaaGreatDoor
set_option maxRecDepth 100000
open Go.Sx
def parN2 (p : ParM) : Bool := parN p && parT p
theorem parB_eq (p : ParM) : parB p = (parN2 p && keysOK p.keys) := by
  rw [parB, parN2, Bool.and_assoc, Bool.and_comm (keysOK _)]
theorem eqH_comm (a b : H8) : eqH a b = decide (b = a) := by rw [eqH, Bool.eq_iff_iff, decide_eq_true_eq, decide_eq_true_eq]; exact eq_comm
def rmpM (p : ParM) : Mem := [(0, .ro 8 p.keys.length (keysF p.keys)), (1, .cells 40 (parV p))]
set_option maxHeartbeats 4000000 in
theorem rmayPar_can (p : ParM) (hl : p.keys.length ≤ 1000000000) : Reads Tryz.prog 112 [.box p.ac] [] (XV.bool (parB p)) := by
  refine Reads.of Tryz.T_ok Tryz.func112 rfl _ _ _ rfl rfl (fun C hC => ?_)
  (replace hC : C.n0 = 1 := hC; change Tri _ _ _ ⟨_, _, 1⟩ _)
  rw [parB_eq]
  (refine Tri.cut 2 Tryz.mixed Tryz.T_ok ?_; refine xZ ?_)
  have no : parN2 p = false → XV.bool false = XV.bool (parN2 p && keysOK p.keys) := fun h => by rw [h, Bool.false_and]
  refine wC (fun h1 => ?_) (fun h1 => ?_)
  · (refine xG ?_)
    exact wD <| cutR <| Ends.plain (.inr rfl) rfl (no (by rw [parN2, parN, h1]; rfl))
  (refine xG ?_)
  refine wC (fun h2 => ?_) (fun h2 => ?_)
  · (refine xG ?_)
    exact wD <| cutR <| Ends.plain (.inr rfl) rfl (no (by rw [parN2, parN, h1, h2]; rfl))
  (refine xG ?_)
  refine wC (fun h3 => ?_) (fun h3 => ?_)
  · (refine xG ?_)
    exact wD <| cutR <| Ends.plain (.inr rfl) rfl (no (by rw [parN2, parN, h1, h2, h3]; rfl))
  (refine xG ?_)
  refine wC (fun h4 => ?_) (fun h4 => ?_)
  · (refine xG ?_)
    exact wD <| cutR <| Ends.plain (.inr rfl) rfl (no (by rw [parN2, parN, h1, h2, h3, h4]; rfl))
  have hN : parN p = true := by rw [parN, h1, h2, h3, h4]; rfl
  have noT : parT p = false → XV.bool false = XV.bool (parN2 p && keysOK p.keys) := fun h => no (by rw [parN2, h, Bool.and_false])
  (refine xG ?_)
  refine wC (fun h5 => ?_) (fun h5 => ?_)
  · (refine xG ?_)
    exact wD <| cutR <| Ends.plain (.inr rfl) rfl (noT (by rw [parT, decide_eq_false (show ¬ 2 ≤ p.len by simp only [decide_eq_true_eq] at h5; omega)]; rfl))
  (refine xG ?_)
  refine wC (fun h6 => ?_) (fun h6 => ?_)
  · (refine xG ?_)
    exact wD <| cutR <| Ends.plain (.inr rfl) rfl (noT (by rw [parT, decide_eq_false (show ¬ p.len ≤ 64 by simp only [decide_eq_true_eq] at h6; omega), Bool.false_and, Bool.and_false]))
  (refine xG ?_)
  refine wC (fun h7 => ?_) (fun h7 => ?_)
  · (refine xG ?_)
    exact wD <| cutR <| Ends.plain (.inr rfl) rfl (noT (by rw [parT, decide_eq_false (show ¬ 1 ≤ p.win by simp only [decide_eq_true_eq] at h7; omega), Bool.false_and, Bool.and_false, Bool.and_false]))
  (refine xG ?_)
  refine wC (fun h8 => ?_) (fun h8 => ?_)
  · (refine xG ?_)
    exact wD <| cutR <| Ends.plain (.inr rfl) rfl (noT (by rw [parT, decide_eq_false (show ¬ p.win ≤ p.len by simp only [decide_eq_true_eq] at h8; omega), Bool.and_false, Bool.and_false, Bool.and_false]))
  have hT : parT p = true := by
    simp only [decide_eq_false_iff_not] at h5 h6 h7 h8
    rw [parT, decide_eq_true (show 2 ≤ p.len by omega), decide_eq_true (show p.len ≤ 64 by omega), decide_eq_true (show 1 ≤ p.win by omega), decide_eq_true (show p.win ≤ p.len by omega)]; rfl
  have hN2 : parN2 p = true := by rw [parN2, hN, hT]; rfl
  rw [hN2, Bool.true_and]
  (refine xG ?_)
  refine wD <| cutG <| Tri.seq ?_
  (refine Tri.cut 1 Tryz.mixed Tryz.T_ok ?_; refine xZ ?_)
  refine wD <| cutG <| Tri.block ?_
  refine Tri.loop (α := { i : Nat // i ≤ p.keys.length ∧ (List.range i).all (keyAt p.keys) = true }) (fun i => ⟨[none, some (XV.sv (.ptr 1 0 0 0)), none, some (XV.int .i64 i.1)] ++ List.replicate 75 none, rmpM p, 2⟩) (fun i => p.keys.length - i.1) ⟨0, Nat.zero_le _, rfl⟩ ?_ ?_
  · unfold rmpM
    ((try dsimp only); refine Ent.renC [0, 1] hC ?_ ?_ <;> repeat' (first | exact trivial | exact rfl | exact ⟨_, rfl, rfl, rfl, Nat.le_refl _, fun _ _ => rfl⟩ | exact ⟨_, rfl, rfl, rfl, fun _ _ => rfl⟩ | exact ⟨_, rfl, rfl, rfl⟩ | exact ⟨_, rfl, rfl⟩ | refine ⟨_, rfl, rfl, rfl, by omega, fun k hk => ?_⟩ | refine ⟨?_, ?_⟩ | fail))
  rintro ⟨i, hi, ha⟩
  dsimp only
  unfold rmpM
  (refine Tri.cut 1 Tryz.mixed Tryz.T_ok ?_; refine xZ ?_)
  refine wC (fun k1 => ?_) (fun k1 => ?_)
  · (refine xG ?_)
    have h1' : i < p.keys.length := xW
    have hs := range_all_succ (keyAt p.keys) i
    have hw : IntKind.i64.wrap ((i : Int) + 1) = ((i + 1 : Nat) : Int) := xW
    have bad : keyAt p.keys i = false → XV.bool false = XV.bool (keysOK p.keys) := fun h => by rw [keysOK, range_all_false h1' h]
    refine wD <| cutG <| Tri.seq <| Tri.block ?_
    refine Tri.seq ?_
    refine Tri.seq (Tri.of Tryz.mixed Tryz.T_ok ?_)
    (refine xB ?_)
    refine wD <| cutG <| Tri.block ?_
    refine Tri.loop (α := { k : Nat // k ≤ i ∧ (p.keys.take k).any (eqH (p.keys.getD i default)) = false }) (fun k => ⟨[none, some (XV.sv (.ptr 1 0 0 0)), none, some (XV.int .i64 i), some (XV.int .i64 k.1)] ++ List.replicate 74 none, rmpM p, 2⟩) (fun k => i - k.1) ⟨0, Nat.zero_le _, by simp⟩ ?_ ?_
    · unfold rmpM
      ((try dsimp only); refine Ent.renC [0, 1] hC ?_ ?_ <;> repeat' (first | exact trivial | exact rfl | exact ⟨_, rfl, rfl, rfl, Nat.le_refl _, fun _ _ => rfl⟩ | exact ⟨_, rfl, rfl, rfl, fun _ _ => rfl⟩ | exact ⟨_, rfl, rfl, rfl⟩ | exact ⟨_, rfl, rfl⟩ | refine ⟨_, rfl, rfl, rfl, by omega, fun k hk => ?_⟩ | refine ⟨?_, ?_⟩ | fail))
    rintro ⟨k, hk, hka⟩
    dsimp only
    unfold rmpM
    (refine Tri.cut 1 Tryz.mixed Tryz.T_ok ?_; refine xZ ?_)
    refine wC (fun k2 => ?_) (fun k2 => ?_)
    · (refine xG ?_)
      have h2' : k < i := xW
      have hw2 : IntKind.i64.wrap ((k : Int) + 1) = ((k + 1 : Nat) : Int) := xW
      have hsk := any_take_succ' (p := eqH (p.keys.getD i default)) (show k < p.keys.length by omega)
      refine wD <| cutG <| Tri.seq <| Tri.block <| Tri.of Tryz.mixed Tryz.T_ok ?_
      (refine xB ?_)
      (repeat (refine wN ?_ ?_; exact xW; refine xG ?_))
      simp only [Nat.zero_add, Int.toNat_natCast]
      (refine wP _ _ (eq_op hashE rfl (p.keys.getD k default) (p.keys.getD i default) rfl rfl) ?_; refine xZ ?_)
      refine wC (fun k3 => ?_) (fun k3 => ?_)
      · (refine xG ?_)
        have hq : (p.keys.take i).any (eqH (p.keys.getD i default)) = true := by
          rw [List.any_eq_true]
          refine ⟨p.keys.getD k default, ?_, by rw [eqH_comm]; exact k3⟩
          rw [List.getD_eq_getElem?_getD, List.getElem?_eq_getElem (by omega)]
          show p.keys[k] ∈ _
          rw [List.mem_take_iff_getElem]
          exact ⟨k, by omega, rfl⟩
        exact wD <| blockR <| cutR <| loopR <| blockR <| cutR <| blockR <| cutR <| loopR <| blockR <| cutR <| Ends.plain (.inr rfl) rfl (bad (by rw [keyAt, hq]; simp))
      · (refine xG ?_)
        refine wD <| blockN <| cutG <| Tri.of Tryz.mixed Tryz.T_ok ?_
        (refine xB ?_)
        refine wD <| loopN ⟨⟨k + 1, h2', by rw [hsk, hka, Bool.false_or, eqH_comm]; exact k3⟩, by dsimp only; omega, ?_⟩
        rw [hw2]
        ((try dsimp only); refine Ent.renC [0, 1] hC ?_ ?_ <;> repeat' (first | exact trivial | exact rfl | exact ⟨_, rfl, rfl, rfl, Nat.le_refl _, fun _ _ => rfl⟩ | exact ⟨_, rfl, rfl, rfl, fun _ _ => rfl⟩ | exact ⟨_, rfl, rfl, rfl⟩ | exact ⟨_, rfl, rfl⟩ | refine ⟨_, rfl, rfl, rfl, by omega, fun k hk => ?_⟩ | refine ⟨?_, ?_⟩ | fail))
    · (refine xG ?_)
      have h2' : k = i := xW
      subst h2'
      refine wD <| cutE <| loopX <| blockX <| cutG <| Tri.of Tryz.mixed Tryz.T_ok ?_
      (refine xB ?_)
      (repeat (refine wN ?_ ?_; exact xW; refine xG ?_))
      simp only [Nat.zero_add, Int.toNat_natCast]
      (apply wP; exact (call_op rfl (entersB_of Tryz.func147 (by kernel_rfl)) rfl ((rzero_can (p.keys.getD k default)).at [] ⟨lend_plain rfl, trivial⟩ trivial)); refine xZ ?_)
      refine wC (fun k3 => ?_) (fun k3 => ?_)
      · (refine xG ?_)
        exact wD <| blockR <| cutR <| loopR <| blockR <| cutR <| Ends.plain (.inr rfl) rfl (bad (by rw [keyAt, k3]; rfl))
      · (refine xG ?_)
        refine wD <| blockN <| cutG <| Tri.of Tryz.mixed Tryz.T_ok ?_
        (refine xB ?_)
        refine wD <| loopN ⟨⟨k + 1, h1', by rw [hs, ha, keyAt, k3, hka]; rfl⟩, by dsimp only; omega, ?_⟩
        rw [hw]
        ((try dsimp only); refine Ent.renC [0, 1] hC ?_ ?_ <;> repeat' (first | exact trivial | exact rfl | exact ⟨_, rfl, rfl, rfl, Nat.le_refl _, fun _ _ => rfl⟩ | exact ⟨_, rfl, rfl, rfl, fun _ _ => rfl⟩ | exact ⟨_, rfl, rfl, rfl⟩ | exact ⟨_, rfl, rfl⟩ | refine ⟨_, rfl, rfl, rfl, by omega, fun k hk => ?_⟩ | refine ⟨?_, ?_⟩ | fail))
  · (refine xG ?_)
    have h1' : i = p.keys.length := xW
    subst h1'
    refine wD <| cutE <| loopX <| blockX <| cutG <| Tri.of Tryz.mixed Tryz.T_ok ?_
    (refine xB ?_)
    exact wD (Ends.plain (.inr rfl) rfl (by rw [keysOK, ha]))
def qseed (k : Int) : H8 := ⟨113, byteI (IntKind.u8.wrap k), 0, 0, 0, 0, 0, 0⟩
theorem seed_can (k : Int) : Reads Tryz.prog 118 [.plain (.one (.raw (.int .i64 k)))] [] (.cv (qseed k).x) := by
  refine Reads.of Tryz.T_ok Tryz.func118 rfl _ _ _ rfl rfl (fun C hC => ?_)
  (replace hC : C.n0 = 1 := hC; change Tri _ _ _ ⟨_, _, 1⟩ _)
  refine Tri.of Tryz.mixed Tryz.T_ok ?_
  (refine xB ?_)
  refine wD (Ends.plain (.inr rfl) rfl ?_)
  show _ = XV.cv (.agg [.raw (u8 113), .raw (u8 (byteI (IntKind.u8.wrap k))), .raw (u8 0), .raw (u8 0), .raw (u8 0), .raw (u8 0), .raw (u8 0), .raw (u8 0)])
  rw [u8_byteI]; rfl
def qkeys (n : Nat) : List H8 := (List.range n).map fun k : Nat => treeH (qseed (k : Int))
theorem qkeys_succ (n : Nat) : qkeys (n + 1) = qkeys n ++ [treeH (qseed (n : Int))] := by simp [qkeys, List.range_succ]
theorem qkeys_len (n : Nat) : (qkeys n).length = n := by simp [qkeys]
def madeP (n : Nat) (need : Int) : ParM := ⟨4, 2, need, qkeys n⟩
theorem keys_snoc {l : List H8} {x : H8} {f : Nat → List Value} {m k : Nat} (hm : m = l.length) (hf : f 0 = x.cells) (hk : k < m + 1) : joinF (keysF l) m f k = keysF (l ++ [x]) k := by
  subst hm
  simp only [joinF, nblt]
  by_cases h : k < l.length
  · rw [decide_eq_true h, cond_true, keysF, rowOf, keysF, rowOf, List.getD_eq_getElem?_getD, List.getD_eq_getElem?_getD, List.getElem?_append_left h]
  · obtain rfl : k = l.length := by omega
    rw [decide_eq_false h, cond_false, Nat.sub_self, hf, keysF, rowOf]; simp
def madeSt (n : Nat) (need : Int) (i : Nat) : St :=
  ⟨[some (XV.int .i64 n), none, none, none, some (XV.sv (.ptr 2 0 0 0)), some (XV.sv (.ptr 3 0 0 0)), some (XV.int .i64 i)] ++ List.replicate 20 none,
   [(2, .cells 40 (parCells par0 (.raw (.slice none 0 0)))), (3, .cells 40 [.raw (.int .i64 4), .raw (.int .i64 2), .raw (.int .i64 need), .slc 4 8 0 i]), (4, .vec 29 8 i (keysF (qkeys i)))], 5⟩
set_option maxHeartbeats 2000000 in
theorem made_can (n : Nat) (hn : n ≤ 8) (need : Int) : Makes Tryz.prog 64 [.plain (.one (.raw (.int .i64 n))), .plain (.one (.raw (.int .i64 need)))] [] (.cv (.agg [.raw (.int .i64 4), .raw (.int .i64 2), .raw (.int .i64 need), .slc 0 8 0 n])) (.vec 29 8 n (keysF (qkeys n))) := by
  refine Makes.of Tryz.T_ok Tryz.func64 rfl _ _ _ _ rfl rfl rfl rfl 4 (fun C hC => ?_)
  (replace hC : C.n0 = 2 := hC; change Tri _ _ _ ⟨_, _, 2⟩ _)
  (refine Tri.cut 2 Tryz.mixed Tryz.T_ok ?_; refine xZ ?_)
  refine wD <| cutG <| Tri.ent (Ent.nilc (c := 5) (e := 40) (cs := [.raw (.int .i64 4), .raw (.int .i64 2), .raw (.int .i64 need), .raw (.slice none 0 0)]) (j := 3) rfl rfl 29 8) <| Tri.seq ?_
  (refine Tri.cut 1 Tryz.mixed Tryz.T_ok ?_; refine xZ ?_)
  refine wD <| cutG <| Tri.block ?_
  refine Tri.loop (α := { i : Nat // i ≤ n }) (fun i => madeSt n need i.1) (fun i => n - i.1) ⟨0, Nat.zero_le _⟩ ?_ ?_
  · unfold madeSt
    ((try dsimp only); refine Ent.renC [0, 1, 2, 5, 7] hC ?_ ?_ <;> repeat' (first | exact trivial | exact rfl | exact ⟨_, rfl, rfl, rfl, Nat.le_refl _, fun _ _ => rfl⟩ | exact ⟨_, rfl, rfl, rfl, fun _ _ => rfl⟩ | exact ⟨_, rfl, rfl, rfl⟩ | exact ⟨_, rfl, rfl⟩ | refine ⟨_, rfl, rfl, rfl, by omega, fun k hk => ?_⟩ | refine ⟨?_, ?_⟩ | fail))
    exact absurd hk (Nat.not_lt_zero _)
  rintro ⟨i, hi⟩
  dsimp only
  unfold madeSt
  (refine Tri.cut 1 Tryz.mixed Tryz.T_ok ?_; refine xZ ?_)
  refine wC (fun h1 => ?_) (fun h1 => ?_)
  · (refine xG ?_)
    have h1' : i < n := xW
    have hw : IntKind.i64.wrap ((i : Int) + 1) = ((i + 1 : Nat) : Int) := xW
    (refine wTd ?_ ?_; (first | refine decide_eq_true ?_ | rw [beq_iff_eq] | rw [bne_iff_ne]); exact xW; refine xG ?_)
    refine wD <| cutG <| Tri.seq <| Tri.block <| Tri.of Tryz.mixed Tryz.T_ok ?_
    (refine xB ?_)
    (apply wP; exact (call_op rfl (entersB_of Tryz.func118 (by kernel_rfl)) rfl ((seed_can (i : Int)).at [] ⟨lend_plain rfl, trivial⟩ trivial)); refine xZ ?_)
    (apply wP; exact (call_op rfl (entersB_of Tryz.func117 (by kernel_rfl)) rfl ((tree_can (qseed (i : Int))).at [] ⟨lend_plain rfl, trivial⟩ trivial)); refine xZ ?_)
    (refine wP _ _ (append_op Tryz.T_ok rfl rfl rfl rfl rfl [4, 17] (old_vec rfl rfl (Nat.le_refl _) rfl) (new_vec (lo := 0) rfl rfl (Nat.le_refl _) rfl) rfl (lt1 rfl) (by simp only [maxLen]; omega) (by dsimp only; omega)) ?_; refine xZ ?_)
    refine wD <| blockN <| cutG <| Tri.of Tryz.mixed Tryz.T_ok ?_
    (refine xB ?_)
    refine wD <| loopN ⟨⟨i + 1, h1'⟩, by dsimp only; omega, ?_⟩
    rw [hw]
    ((try dsimp only); refine Ent.renC [0, 1, 2, 3, 18] hC ?_ ?_ <;> repeat' (first | exact trivial | exact rfl | exact ⟨_, rfl, rfl, rfl, Nat.le_refl _, fun _ _ => rfl⟩ | exact ⟨_, rfl, rfl, rfl, fun _ _ => rfl⟩ | exact ⟨_, rfl, rfl, rfl⟩ | exact ⟨_, rfl, rfl⟩ | refine ⟨_, rfl, rfl, rfl, by omega, fun k hk => ?_⟩ | refine ⟨?_, ?_⟩ | fail))
    rw [qkeys_succ]
    exact keys_snoc (qkeys_len _).symm rfl hk
  · (refine xG ?_)
    have h1' : i = n := xW
    subst h1'
    refine wD <| cutE <| loopX <| blockX <| cutG <| Tri.of Tryz.mixed Tryz.T_ok ?_
    (refine xB ?_)
    exact wD (Ends.made (.inr rfl) (Ent.refl _) rfl (Nat.le_of_ble_eq_true rfl) rfl)
end Go.Proofs.YtnpkdoggfnlapaaGreatDoor
namespace Go.Proofs.YtnpkdoggfnlapaaGreatDoor
set_option maxRecDepth 100000
open Go.Sx
abbrev lvT : TypeId := 177
def lvA (l : LvM) : Nat → List Value := fun i => [.int .i64 ((l.getD i default).1 : Int)]
def lvH (l : LvM) : Nat → List Value := fun i => (l.getD i default).2.cells
def lvMem (l : LvM) : Mem := [(0, .cells lvT [.slc 1 1 0 l.length, .slc 2 8 0 l.length]), (1, .vec 3 1 l.length (lvA l)), (2, .vec 29 8 l.length (lvH l))]
def lvP (l : LvM) : AbsP := packP (lvMem l) True
section
variable {P : Program} {C : Ctx} {cd : Code} {slots : List (Option XV)} {mem : Mem} {nx : Nat} {Q : Exit → St → Prop}
theorem Lv.opens (l : LvM) (c : Nat) (hc : mem.get c = some (.abs (lvP l)))
    (h : Tri P C cd ⟨slots, (c, .cells lvT [.slc (nx + 1) 1 0 l.length, .slc (nx + 2) 8 0 l.length]) :: (nx + 1, .vec 3 1 l.length (lvA l)) :: (nx + 2, .vec 29 8 l.length (lvH l)) :: mem.del c, nx + 3⟩ Q) : Tri P C cd ⟨slots, mem, nx⟩ Q :=
  Tri.opens (M := lvMem l) (m := 3) (inv := True) (c := c) hc rfl fun _ => h
theorem Lv.shuts (l : LvM) (c : Nat) {i1 i2 m1 m2 n1 n2 : Nat} {f g : Nat → List Value}
    (k0 : mem.get c = some (.cells lvT [.slc i1 1 0 m1, .slc i2 8 0 m2])) (k1 : mem.get i1 = some (.vec 3 1 n1 f)) (k2 : mem.get i2 = some (.vec 29 8 n2 g))
    (hids : (Nat.beq c i1 || Nat.beq c i2 || Nat.beq i1 i2) = false) (hm1 : m1 = l.length) (hm2 : m2 = l.length) (hl1 : l.length ≤ n1) (hl2 : l.length ≤ n2) (hf : ∀ i, i < l.length → f i = lvA l i) (hg : ∀ i, i < l.length → g i = lvH l i) :
    Ent C ⟨slots, mem, nx⟩ ⟨slots, (c, .abs (lvP l)) :: mem.dels [c, i1, i2], nx⟩ := by
  subst hm1 hm2
  exact Ent.shut3 (S := ⟨slots, mem, nx⟩) (M := lvMem l) (inv := True) hids trivial rfl rfl rfl rfl k0 k1 k2 rfl ⟨rfl, rfl⟩ ⟨rfl, rfl, hl1, hf⟩ ⟨rfl, rfl, hl2, hg⟩
end
end Go.Proofs.YtnpkdoggfnlapaaGreatDoor
namespace Go.Proofs.YtnpkdoggfnlapaaGreatDoor
set_option maxRecDepth 100000
open Go.Sx
end Go.Proofs.YtnpkdoggfnlapaaGreatDoor
namespace Go.Proofs.YtnpkdoggfnlapaaGreatDoor
set_option maxRecDepth 100000
open Go.Sx
end Go.Proofs.YtnpkdoggfnlapaaGreatDoor
namespace Go.Proofs.YtnpkdoggfnlapaaGreatDoor
set_option maxRecDepth 100000
open Go.Sx
end Go.Proofs.YtnpkdoggfnlapaaGreatDoor
namespace Go.Proofs.YtnpkdoggfnlapaaGreatDoor
set_option maxRecDepth 100000
open Go.Sx
end Go.Proofs.YtnpkdoggfnlapaaGreatDoor
namespace Go.Proofs.YtnpkdoggfnlapaaGreatDoor
set_option maxRecDepth 100000
open Go.Sx
def sideSlc (x : SideM) (a b d e : Nat) : List SV := sideCells x (.slc a 8 0 x.par.keys.length) (.slc b 9 0 x.cert.outs.length) (.slc d 282 0 x.cert.sigs.length) (.slc e 1 0 x.used.length)
end Go.Proofs.YtnpkdoggfnlapaaGreatDoor
namespace Go.Sx
theorem Does.at2 {P : Program} {f : FuncId} {a b a2 b2 : Chunk} {l : List AD} {es : List ExtP} {X : XV} {fr : Option Chunk} (h : Does P f [(a, b), (a2, b2)] l es X fr) {Xs : List CV} {M : Mem} {c c2 d : Nat} (rd : List Nat) (hc : M.get c = some a) (hc2 : M.get c2 = some a2) (hids : (Nat.beq c c2 || Nat.beq c d || Nat.beq c2 d) = false) (hrd : (nmem c rd || nmem c2 rd) = false) (ha : LendsL M rd Xs l) (he : LendsX M rd es) :
    CallSpec P f (.one (.ptr c 0 0 0) :: .one (.ptr c2 0 0 0) :: Xs) M d { v := X.ren fun _ => d, upd := (c, b) :: (c2, b2) :: frM d fr, wr := [c, c2] } (c :: c2 :: rd) := by
  simp only [Bool.or_eq_false_iff, nbeq, decide_eq_false_iff_not] at hids hrd
  refine h.at [c, c2] rd rfl (by simp [hids.1.1, hids.1.2, hids.2]) (by simp [hrd.1, hrd.2]) (fun i c' x h1 h2 => ?_) ha he
  match i with
  | 0 =>
    simp only [List.getElem?_cons_zero, Option.some.injEq] at h1 h2
    subst h1 h2; exact hc
  | 1 =>
    simp only [List.getElem?_cons_succ, List.getElem?_cons_zero, Option.some.injEq] at h1 h2
    subst h1 h2; exact hc2
  | i + 2 => simp at h1
theorem Ends.shutN2 {C : Ctx} {T : TyTab} {rs : List ResultVar} {n0 : Nat} {X v : XV} {S S' : St} {e : Exit} {ch ch2 : Chunk} (he : e = .normal ∨ e = .ret) (hE : Ent C S S') (hm : S'.mem.get 0 = some ch) (hm2 : S'.mem.get 1 = some ch2) (hr : resX T S' rs = some v) (hv : v = X) :
    Ends C T rs 2 n0 ⟨X, [(0, ch), (1, ch2)], none⟩ e S := by
  refine ⟨he, _, hE, by rw [hr, hv], fun i ch' h => ?_, fun i ch h => by cases h⟩
  simp only [Mem.get, nbeq] at h
  by_cases hk : 0 = i
  · subst hk
    simp only [decide_true, cond_true, Option.some.injEq] at h
    exact ⟨by omega, by rw [← h]; exact hm⟩
  · by_cases hk1 : 1 = i
    · subst hk1
      simp only [hk, decide_false, decide_true, cond_true, cond_false, Option.some.injEq] at h
      exact ⟨by omega, by rw [← h]; exact hm2⟩
    · simp [hk, hk1] at h
end Go.Sx
namespace Go.Proofs.YtnpkdoggfnlapaaGreatDoor
set_option maxRecDepth 100000
open Go.Sx
end Go.Proofs.YtnpkdoggfnlapaaGreatDoor
namespace Go.Proofs.YtnpkdoggfnlapaaGreatDoor
set_option maxRecDepth 100000
open Go.Sx
def FwdM.x (f : FwdM) : CV := .agg (f.cells.map .raw)
theorem dec_gt {a b : Int} : decide (b < a) = !decide (a ≤ b) := by rw [Bool.eq_iff_iff]; simp
theorem dec_ge {a b c : Int} (h : b = c) : decide (a < b) = !decide (c ≤ a) := by subst h; rw [Bool.eq_iff_iff]; simp
theorem outOK_ref (o : OutM) : outOK o = !(zeroB o.to || (decide (o.amt.toInt < 1) || decide (1125899906842624 < o.amt.toInt))) := by
  rw [outOK, moneyB, withinB, dec_ge (a := o.amt.toInt) (b := 1) rfl, dec_gt]
  cases zeroB o.to <;> cases decide (1 ≤ o.amt.toInt) <;> cases decide (o.amt.toInt ≤ 1125899906842624) <;> rfl
theorem routs_can (l : List OutM) (hl : l.length ≤ 1000000000) : Reads Tryz.prog 110 [.row 9 l.length (outsF l)] [] (XV.bool (outsOK l)) := by
  refine Reads.of Tryz.T_ok Tryz.func110 rfl _ _ _ rfl rfl (fun C hC => ?_)
  (replace hC : C.n0 = 1 := hC; change Tri _ _ _ ⟨_, _, 1⟩ _)
  (refine Tri.cut 2 Tryz.mixed Tryz.T_ok ?_; refine xZ ?_)
  refine wC (fun h0 => ?_) (fun h0 => ?_)
  · have h0' : 16 < l.length := xW
    (refine xG ?_)
    refine wD <| cutR <| Ends.plain (.inr rfl) rfl ?_
    rw [outsOK, show decide (l.length ≤ 16) = false by rw [decide_eq_false_iff_not]; omega, Bool.and_false]
  have h0' : l.length ≤ 16 := xW
  (refine xG ?_)
  refine wD <| cutG <| Tri.seq ?_
  (refine Tri.cut 1 Tryz.mixed Tryz.T_ok ?_; refine xZ ?_)
  refine wD <| cutG <| Tri.block ?_
  refine Tri.loop (α := { i : Nat // i ≤ l.length ∧ (l.take i).all outOK = true }) (fun i => ⟨[some (XV.sv (.slc 0 9 0 l.length)), none, none, some (XV.int .i64 i.1)] ++ List.replicate 31 none, [(0, .ro 9 l.length (outsF l))], 1⟩) (fun i => l.length - i.1) ⟨0, Nat.zero_le _, rfl⟩ ?_ ?_
  · ((try dsimp only); refine Ent.renC [0] hC ?_ ?_ <;> repeat' (first | exact trivial | exact rfl | exact ⟨_, rfl, rfl, rfl, Nat.le_refl _, fun _ _ => rfl⟩ | exact ⟨_, rfl, rfl, rfl, fun _ _ => rfl⟩ | exact ⟨_, rfl, rfl, rfl⟩ | exact ⟨_, rfl, rfl⟩ | refine ⟨_, rfl, rfl, rfl, by omega, fun k hk => ?_⟩ | refine ⟨?_, ?_⟩ | fail))
  rintro ⟨i, hi, ha⟩
  dsimp only
  (refine Tri.cut 1 Tryz.mixed Tryz.T_ok ?_; refine xZ ?_)
  refine wC (fun h1 => ?_) (fun h1 => ?_)
  · (refine xG ?_)
    have h1' : i < l.length := xW
    have hs := all_take_succ (p := outOK) h1'
    have hw : IntKind.i64.wrap ((i : Int) + 1) = ((i + 1 : Nat) : Int) := xW
    refine wD <| cutG <| Tri.seq <| Tri.block <| Tri.of Tryz.mixed Tryz.T_ok ?_
    (refine xB ?_)
    (repeat (refine wN ?_ ?_; exact xW; refine xG ?_))
    simp only [Nat.zero_add, Int.toNat_natCast]
    (apply wP; exact (call_op rfl (entersB_of Tryz.func147 (by kernel_rfl)) rfl ((rzero_can (l.getD i default).to).at [] ⟨lend_plain rfl, trivial⟩ trivial)); refine xZ ?_)
    refine wC (fun h2 => ?_) (fun h2 => ?_)
    · (refine xG ?_)
      refine wD <| blockR <| cutR <| loopR <| blockR <| cutR <| Ends.plain (.inr rfl) rfl ?_
      rw [outsOK, all_false h1' (by rw [outOK_ref, h2]; rfl), Bool.false_and]
    · (refine xG ?_)
      (repeat (refine wN ?_ ?_; exact xW; refine xG ?_))
      simp only [Nat.zero_add, Int.toNat_natCast]
      refine wC (fun h3 => ?_) (fun h3 => ?_)
      · (refine xG ?_)
        refine wD <| blockR <| cutR <| loopR <| blockR <| cutR <| Ends.plain (.inr rfl) rfl ?_
        rw [outsOK, all_false h1' (by rw [outOK_ref, h2, h3]; rfl), Bool.false_and]
      · (refine xG ?_)
        (repeat (refine wN ?_ ?_; exact xW; refine xG ?_))
        simp only [Nat.zero_add, Int.toNat_natCast]
        refine wC (fun h4 => ?_) (fun h4 => ?_)
        · (refine xG ?_)
          refine wD <| blockR <| cutR <| loopR <| blockR <| cutR <| Ends.plain (.inr rfl) rfl ?_
          rw [outsOK, all_false h1' (by rw [outOK_ref, h2, h3, h4]; rfl), Bool.false_and]
        · (refine xG ?_)
          refine wD <| blockN <| cutG <| Tri.of Tryz.mixed Tryz.T_ok ?_
          (refine xB ?_)
          refine wD <| loopN ⟨⟨i + 1, h1', by rw [hs, ha, outOK_ref, h2, h3, h4]; rfl⟩, by dsimp only; omega, ?_⟩
          rw [hw]
          ((try dsimp only); refine Ent.renC [0] hC ?_ ?_ <;> repeat' (first | exact trivial | exact rfl | exact ⟨_, rfl, rfl, rfl, Nat.le_refl _, fun _ _ => rfl⟩ | exact ⟨_, rfl, rfl, rfl, fun _ _ => rfl⟩ | exact ⟨_, rfl, rfl, rfl⟩ | exact ⟨_, rfl, rfl⟩ | refine ⟨_, rfl, rfl, rfl, by omega, fun k hk => ?_⟩ | refine ⟨?_, ?_⟩ | fail))
  · (refine xG ?_)
    have h1' : i = l.length := xW
    subst h1'
    rw [List.take_length] at ha
    refine wD <| cutE <| loopX <| blockX <| cutG <| Tri.of Tryz.mixed Tryz.T_ok ?_
    (refine xB ?_)
    refine wD (Ends.plain (.inr rfl) rfl ?_)
    rw [outsOK, ha, show decide (l.length ≤ 16) = true from decide_eq_true h0']; rfl
end Go.Proofs.YtnpkdoggfnlapaaGreatDoor
namespace Go.Proofs.YtnpkdoggfnlapaaGreatDoor
set_option maxRecDepth 100000
open Go.Sx
end Go.Proofs.YtnpkdoggfnlapaaGreatDoor
namespace Go.Proofs.YtnpkdoggfnlapaaGreatDoor
set_option maxRecDepth 100000
open Go.Sx
theorem noPar_can (p : ParM) (hl : p.keys.length ≤ 1000000000) : Reads Tryz.prog 108 [.box p.ac] [] (XV.bool (parZ p)) := by
  refine Reads.of Tryz.T_ok Tryz.func108 rfl _ _ _ rfl rfl (fun C hC => ?_)
  (replace hC : C.n0 = 1 := hC; change Tri _ _ _ ⟨_, _, 1⟩ _)
  refine Tri.of Tryz.mixed Tryz.T_ok ?_
  (refine xB ?_)
  refine wC (fun h1 => ?_) (fun h1 => ?_)
  · (refine xG ?_)
    refine wC (fun h2 => ?_) (fun h2 => ?_)
    · (refine xG ?_)
      refine wC (fun h3 => ?_) (fun h3 => ?_)
      · (refine xG ?_)
        exact wD (Ends.plain (.inr rfl) rfl (by rw [parZ, h1, h2, h3]; rfl))
      · (refine xG ?_)
        exact wD (Ends.plain (.inr rfl) rfl (by rw [parZ, h1, h2, h3]; rfl))
    · (refine xG ?_)
      exact wD (Ends.plain (.inr rfl) rfl (by rw [parZ, h1, h2]; rfl))
  · (refine xG ?_)
    exact wD (Ends.plain (.inr rfl) rfl (by rw [parZ, h1]; rfl))
end Go.Proofs.YtnpkdoggfnlapaaGreatDoor
namespace Go.Sx
theorem new_elem {S : St} {x : Operand} {c off sz sz1 i j k cap n : Nat} {f g : Nat → List Value} {rd : List Nat} (hx : S.ev x = some (XV.sv (.sla c off sz1 k cap))) (hm : S.mem.get c = some (.ro sz n f)) (hrd : nmem c rd = true) (hoff : off = i * sz + j) (hi : i < n) (hl : ∀ q, q < k → (g q).length = sz1) (hf : ((f i).drop j).take (k * sz1) = tabF g 0 k) : NewOp S x rd sz1 k g := by
  intro β ow w v h1 h2
  have hv := h1 _ hx
  have hh := h2 c ((nmem_iff c rd).1 hrd) _ hm
  obtain ⟨a, e1, e2, e3⟩ := hv
  simp only [Holds] at hh
  by_cases hnil : (β c).nil = true
  · rw [if_pos hnil] at hh
    omega
  rw [if_neg hnil] at hh
  obtain ⟨v1, v2, v7⟩ := hh
  refine ⟨⟨some a, _, e1, fun hk => ⟨a, rfl, flat_cells hl fun q hq r v hv => ?_⟩⟩, hl⟩
  have hr : r < sz1 := by rw [← hl q hq]; exact (List.getElem?_eq_some_iff.1 hv).1
  have hg : ((f i).drop j)[q * sz1 + r]? = some v := by
    have h5 := flat_get (m := k) hl hq hr
    rw [← tabF_eq, ← hf, hv] at h5
    rw [List.getElem?_take] at h5
    split at h5
    · exact h5
    · cases h5
  rw [List.getElem?_drop] at hg
  have := (v7 i hi).2 (j + (q * sz1 + r)) v hg
  rw [e3 (by omega), loc_add, ← this]
  congr 2
  rw [hoff]; omega
end Go.Sx
namespace Go.Proofs.YtnpkdoggfnlapaaGreatDoor
set_option maxRecDepth 100000
open Go.Sx
theorem drop_pre {E : Type} (pre l : List E) (k : Nat) : (pre ++ l).drop (pre.length + k) = l.drop k := by rw [← List.drop_drop, List.drop_left]
theorem hashesL_zero (p : Nat → H8) : hashesL p 0 = [] := rfl
theorem tab_hash_mid (p : Nat → H8) : ∀ (m i n : Nat) (post : List Value), n < m → (((tabF (hashF p) i m ++ post).drop (n * 8)).take 8) = (p (i + n)).cells
  | 0, _, _, _, h => absurd h (Nat.not_lt_zero _)
  | m + 1, i, 0, post, _ => rfl
  | m + 1, i, n + 1, post, h => by
    have e : (n + 1) * 8 = (p i).cells.length + n * 8 := by show _ = 8 + n * 8; omega
    show (((p i).cells ++ tabF (hashF p) (i + 1) m ++ post).drop ((n + 1) * 8)).take 8 = _
    rw [List.append_assoc, e, drop_pre, tab_hash_mid p m (i + 1) n post (by omega)]
    rw [show i + 1 + n = i + (n + 1) by omega]
theorem tab_hash_at (p : Nat → H8) (j : Nat) {m n off l : Nat} {pre post cs : List Value} (hcs : cs = pre ++ (tabF (hashF p) 0 m ++ post)) (hn : n < m) (hj : j = pre.length) (hoff : off = j + n * 8) (hl : l = 8) : ((cs.map SV.raw).drop off).take (l * 1) = (tabF (rowB (p n).l) 0 l).map .raw := by
  subst hcs hoff hj hl
  rw [← List.map_drop, ← List.map_take, drop_pre, tab_hash_mid p m 0 n post hn, Nat.zero_add]
  rfl
def sigBs (s : SigM) (a b c : Nat) : List UInt8 := (numL s.idx 1 :: (hashesL s.opn a ++ (hashesL s.shut b ++ hashesL s.path c))).flatten
theorem sigBs_len (s : SigM) (a b c : Nat) : (sigBs s a b c).length = 1 + 8 * (a + b + c) := by
  simp only [sigBs, List.flatten_cons, List.flatten_append, List.length_append, hashesL_flat, numL_length]; omega
theorem sigBs_a (s : SigM) (a : Nat) : sigBs s (a + 1) 0 0 = sigBs s a 0 0 ++ (s.opn a).l := by simp [sigBs, hashesL_succ, hashesL_zero]
theorem sigBs_b (s : SigM) (b : Nat) : sigBs s 16 (b + 1) 0 = sigBs s 16 b 0 ++ (s.shut b).l := by simp [sigBs, hashesL_succ, hashesL_zero]
theorem sigBs_c (s : SigM) (c : Nat) : sigBs s 16 16 (c + 1) = sigBs s 16 16 c ++ (s.path c).l := by simp [sigBs, hashesL_succ]
theorem sig_cells_a (s : SigM) : s.cells = [.int .i64 s.idx] ++ (tabF (hashF s.opn) 0 16 ++ (tabF (hashF s.shut) 0 16 ++ tabF (hashF s.path) 0 3)) := by simp [SigM.cells]
theorem sig_cells_b (s : SigM) : s.cells = (.int .i64 s.idx :: tabF (hashF s.opn) 0 16) ++ (tabF (hashF s.shut) 0 16 ++ tabF (hashF s.path) 0 3) := by simp [SigM.cells]
theorem sig_cells_c (s : SigM) : s.cells = (.int .i64 s.idx :: (tabF (hashF s.opn) 0 16 ++ tabF (hashF s.shut) 0 16)) ++ (tabF (hashF s.path) 0 3 ++ []) := by simp [SigM.cells]
def rsigSt (s : SigM) (pre : List (Option XV)) (post : Nat) (b : List UInt8) (i : Nat) : St :=
  ⟨[none, some (XV.sv (.ptr 1 0 0 0)), none, some (XV.sv (.slc 2 1 0 b.length))] ++ pre ++ [some (XV.int .i64 i)] ++ List.replicate post none, [(1, .cells 190 (s.cells.map .raw)), (2, .vec 5 1 b.length (rowB b))], 3⟩
set_option maxHeartbeats 4000000 in
theorem rsig_can (s : SigM) : Makes Tryz.prog 149 [.plain s.x] [] (XV.sv (.slc 0 1 0 281)) (.vec 5 1 281 (rowB s.parts.flatten)) := by
  refine Makes.of Tryz.T_ok Tryz.func149 rfl _ _ _ _ rfl rfl rfl rfl 2 (fun C hC => ?_)
  (replace hC : C.n0 = 1 := hC; change Tri _ _ _ ⟨_, _, 1⟩ _)
  (refine Tri.cut 2 Tryz.mixed Tryz.T_ok ?_; refine xZ ?_)
  (apply wP; exact (call_op rfl (entersB_of Tryz.func72 (by kernel_rfl)) rfl ((num_can s.idx 1 (by decide)).at [] ⟨lend_plain rfl, lend_plain rfl, trivial⟩ trivial)); refine xZ ?_)
  refine wD <| cutG <| Tri.seq ?_
  (refine Tri.cut 1 Tryz.mixed Tryz.T_ok ?_; refine xZ ?_)
  refine wD <| cutG <| Tri.block ?_
  refine Tri.loop (α := { i : Nat // i ≤ 16 }) (fun i => rsigSt s [] 36 (sigBs s i.1 0 0) i.1) (fun i => 16 - i.1) ⟨0, Nat.zero_le _⟩ ?_ ?_
  · dsimp only
    rw [rsigSt, sigBs_len]
    ((try dsimp only); refine Ent.renC [0, 1, 5] hC ?_ ?_ <;> repeat' (first | exact trivial | exact rfl | exact ⟨_, rfl, rfl, rfl, Nat.le_refl _, fun _ _ => rfl⟩ | exact ⟨_, rfl, rfl, rfl, fun _ _ => rfl⟩ | exact ⟨_, rfl, rfl, rfl⟩ | exact ⟨_, rfl, rfl⟩ | refine ⟨_, rfl, rfl, rfl, by omega, fun k hk => ?_⟩ | refine ⟨?_, ?_⟩ | fail))
  rintro ⟨i, hi⟩
  dsimp only
  have hl := sigBs_len s i 0 0
  (refine Tri.cut 1 Tryz.mixed Tryz.T_ok ?_; refine xZ ?_)
  refine wC (fun h1 => ?_) (fun h1 => ?_)
  · (refine xG ?_)
    have h1' : i < 16 := xW
    have hw : IntKind.i64.wrap ((i : Int) + 1) = ((i + 1 : Nat) : Int) := xW
    refine wD <| cutG <| Tri.seq <| Tri.block <| Tri.of Tryz.mixed Tryz.T_ok ?_
    (refine xB ?_)
    (repeat (refine wN ?_ ?_; exact xW; refine xG ?_))
    simp only [Nat.zero_add, Int.toNat_natCast]
    (refine wP _ _ (append_op Tryz.T_ok rfl rfl rfl rfl rfl [2, 1] (old_vec rfl rfl (Nat.le_refl _) rfl) (new_sla (g := rowB (s.opn i).l) rfl rfl rfl (fun _ _ => rfl) (tab_hash_at s.opn 1 (sig_cells_a s) h1' rfl (by omega) rfl)) rfl (fun _ _ => rfl) (by simp only [maxLen]; omega) (by dsimp only; omega)) ?_; refine xZ ?_)
    refine wD <| blockN <| cutG <| Tri.of Tryz.mixed Tryz.T_ok ?_
    (refine xB ?_)
    refine wD <| loopN ⟨⟨i + 1, h1'⟩, by dsimp only; omega, ?_⟩
    rw [hw]
    dsimp only
    rw [rsigSt, sigBs_a, List.length_append]
    ((try dsimp only); refine Ent.renC [0, 1, 10] hC ?_ ?_ <;> repeat' (first | exact trivial | exact rfl | exact ⟨_, rfl, rfl, rfl, Nat.le_refl _, fun _ _ => rfl⟩ | exact ⟨_, rfl, rfl, rfl, fun _ _ => rfl⟩ | exact ⟨_, rfl, rfl, rfl⟩ | exact ⟨_, rfl, rfl⟩ | refine ⟨_, rfl, rfl, rfl, by omega, fun k hk => ?_⟩ | refine ⟨?_, ?_⟩ | fail))
    · exact Nat.le_refl _
    exact fun k hk => rowB_join rfl (fun _ _ => rfl) (fun _ _ => rfl) hk
  · (refine xG ?_)
    have h1' : i = 16 := xW
    subst h1'
    refine wD <| cutE <| loopX <| blockX <| cutG <| Tri.seq ?_
    (refine Tri.cut 1 Tryz.mixed Tryz.T_ok ?_; refine xZ ?_)
    refine wD <| cutG <| Tri.block ?_
    refine Tri.loop (α := { i : Nat // i ≤ 16 }) (fun i => rsigSt s [none] 35 (sigBs s 16 i.1 0) i.1) (fun i => 16 - i.1) ⟨0, Nat.zero_le _⟩ ?_ ?_
    · dsimp only
      rw [rsigSt]
      ((try dsimp only); refine Ent.renC [0, 1, 2] hC ?_ ?_ <;> repeat' (first | exact trivial | exact rfl | exact ⟨_, rfl, rfl, rfl, Nat.le_refl _, fun _ _ => rfl⟩ | exact ⟨_, rfl, rfl, rfl, fun _ _ => rfl⟩ | exact ⟨_, rfl, rfl, rfl⟩ | exact ⟨_, rfl, rfl⟩ | refine ⟨_, rfl, rfl, rfl, by omega, fun k hk => ?_⟩ | refine ⟨?_, ?_⟩ | fail))
    rintro ⟨i, hi⟩
    dsimp only
    have hl := sigBs_len s 16 i 0
    (refine Tri.cut 1 Tryz.mixed Tryz.T_ok ?_; refine xZ ?_)
    refine wC (fun h1 => ?_) (fun h1 => ?_)
    · (refine xG ?_)
      have h1' : i < 16 := xW
      have hw : IntKind.i64.wrap ((i : Int) + 1) = ((i + 1 : Nat) : Int) := xW
      refine wD <| cutG <| Tri.seq <| Tri.block <| Tri.of Tryz.mixed Tryz.T_ok ?_
      (refine xB ?_)
      (repeat (refine wN ?_ ?_; exact xW; refine xG ?_))
      simp only [Nat.zero_add, Int.toNat_natCast]
      (refine wP _ _ (append_op Tryz.T_ok rfl rfl rfl rfl rfl [2, 1] (old_vec rfl rfl (Nat.le_refl _) rfl) (new_sla (g := rowB (s.shut i).l) rfl rfl rfl (fun _ _ => rfl) (tab_hash_at s.shut 129 (sig_cells_b s) h1' rfl (by omega) rfl)) rfl (fun _ _ => rfl) (by simp only [maxLen]; omega) (by dsimp only; omega)) ?_; refine xZ ?_)
      refine wD <| blockN <| cutG <| Tri.of Tryz.mixed Tryz.T_ok ?_
      (refine xB ?_)
      refine wD <| loopN ⟨⟨i + 1, h1'⟩, by dsimp only; omega, ?_⟩
      rw [hw]
      dsimp only
      rw [rsigSt, sigBs_b, List.length_append]
      ((try dsimp only); refine Ent.renC [0, 1, 10] hC ?_ ?_ <;> repeat' (first | exact trivial | exact rfl | exact ⟨_, rfl, rfl, rfl, Nat.le_refl _, fun _ _ => rfl⟩ | exact ⟨_, rfl, rfl, rfl, fun _ _ => rfl⟩ | exact ⟨_, rfl, rfl, rfl⟩ | exact ⟨_, rfl, rfl⟩ | refine ⟨_, rfl, rfl, rfl, by omega, fun k hk => ?_⟩ | refine ⟨?_, ?_⟩ | fail))
      · exact Nat.le_refl _
      exact fun k hk => rowB_join rfl (fun _ _ => rfl) (fun _ _ => rfl) hk
    · (refine xG ?_)
      have h1' : i = 16 := xW
      subst h1'
      refine wD <| cutE <| loopX <| blockX <| cutG <| Tri.seq ?_
      (refine Tri.cut 1 Tryz.mixed Tryz.T_ok ?_; refine xZ ?_)
      refine wD <| cutG <| Tri.block ?_
      refine Tri.loop (α := { i : Nat // i ≤ 3 }) (fun i => rsigSt s [none, none] 34 (sigBs s 16 16 i.1) i.1) (fun i => 3 - i.1) ⟨0, Nat.zero_le _⟩ ?_ ?_
      · dsimp only
        rw [rsigSt]
        ((try dsimp only); refine Ent.renC [0, 1, 2] hC ?_ ?_ <;> repeat' (first | exact trivial | exact rfl | exact ⟨_, rfl, rfl, rfl, Nat.le_refl _, fun _ _ => rfl⟩ | exact ⟨_, rfl, rfl, rfl, fun _ _ => rfl⟩ | exact ⟨_, rfl, rfl, rfl⟩ | exact ⟨_, rfl, rfl⟩ | refine ⟨_, rfl, rfl, rfl, by omega, fun k hk => ?_⟩ | refine ⟨?_, ?_⟩ | fail))
      rintro ⟨i, hi⟩
      dsimp only
      have hl := sigBs_len s 16 16 i
      (refine Tri.cut 1 Tryz.mixed Tryz.T_ok ?_; refine xZ ?_)
      refine wC (fun h1 => ?_) (fun h1 => ?_)
      · (refine xG ?_)
        have h1' : i < 3 := xW
        have hw : IntKind.i64.wrap ((i : Int) + 1) = ((i + 1 : Nat) : Int) := xW
        refine wD <| cutG <| Tri.seq <| Tri.block <| Tri.of Tryz.mixed Tryz.T_ok ?_
        (refine xB ?_)
        (repeat (refine wN ?_ ?_; exact xW; refine xG ?_))
        simp only [Nat.zero_add, Int.toNat_natCast]
        (refine wP _ _ (append_op Tryz.T_ok rfl rfl rfl rfl rfl [2, 1] (old_vec rfl rfl (Nat.le_refl _) rfl) (new_sla (g := rowB (s.path i).l) rfl rfl rfl (fun _ _ => rfl) (tab_hash_at s.path 257 (sig_cells_c s) h1' rfl (by omega) rfl)) rfl (fun _ _ => rfl) (by simp only [maxLen]; omega) (by dsimp only; omega)) ?_; refine xZ ?_)
        refine wD <| blockN <| cutG <| Tri.of Tryz.mixed Tryz.T_ok ?_
        (refine xB ?_)
        refine wD <| loopN ⟨⟨i + 1, h1'⟩, by dsimp only; omega, ?_⟩
        rw [hw]
        dsimp only
        rw [rsigSt, sigBs_c, List.length_append]
        ((try dsimp only); refine Ent.renC [0, 1, 10] hC ?_ ?_ <;> repeat' (first | exact trivial | exact rfl | exact ⟨_, rfl, rfl, rfl, Nat.le_refl _, fun _ _ => rfl⟩ | exact ⟨_, rfl, rfl, rfl, fun _ _ => rfl⟩ | exact ⟨_, rfl, rfl, rfl⟩ | exact ⟨_, rfl, rfl⟩ | refine ⟨_, rfl, rfl, rfl, by omega, fun k hk => ?_⟩ | refine ⟨?_, ?_⟩ | fail))
        · exact Nat.le_refl _
        exact fun k hk => rowB_join rfl (fun _ _ => rfl) (fun _ _ => rfl) hk
      · (refine xG ?_)
        have h1' : i = 3 := xW
        subst h1'
        refine wD <| cutE <| loopX <| blockX <| cutG <| Tri.of Tryz.mixed Tryz.T_ok ?_
        (refine xB ?_)
        exact wD (Ends.made (.inr rfl) (Ent.refl _) rfl (Nat.le_of_ble_eq_true rfl) rfl)
end Go.Proofs.YtnpkdoggfnlapaaGreatDoor
namespace Go.Proofs.YtnpkdoggfnlapaaGreatDoor
set_option maxRecDepth 100000
open Go.Sx
theorem rowB_joinL {a b : List UInt8} {f g : Nat → List Value} {m : Nat} (hm : m = a.length) (hf : ∀ i, i < a.length → f i = rowB a i) (hg : ∀ i, i < b.length → g i = rowB b i) : ∀ i, i < (a ++ b).length → joinF f m g i = rowB (a ++ b) i := fun i hi => rowB_join hm hf hg (by rw [← List.length_append]; exact hi)
theorem zadd {f : Nat → List Value} {n : Nat} : ∀ i, i < n → f (0 + i) = f i := fun i _ => by rw [Nat.zero_add]
def outsB (l : List OutM) (i : Nat) : List UInt8 := (numL (l.length : Int) 1 :: (l.take i).flatMap OutM.parts).flatten
theorem outsB_succ {l : List OutM} {i : Nat} (hi : i < l.length) : outsB l (i + 1) = outsB l i ++ (l.getD i default).to.l ++ numL (l.getD i default).amt.toInt 7 := by
  rw [outsB, outsB, flatMap_take_succ _ hi]
  simp [OutM.parts]
theorem outsB_all (l : List OutM) : outsB l l.length = (outsParts l).flatten := by rw [outsB, List.take_length, outsParts]
theorem outsB_len (l : List OutM) : ∀ i, i ≤ l.length → (outsB l i).length = 1 + 15 * i
  | 0, _ => by simp [outsB, numL_length]
  | i + 1, h => by rw [outsB_succ h, List.length_append, List.length_append, outsB_len l i (by omega), numL_length, H8.l_len]; omega
set_option maxHeartbeats 1000000 in
theorem routsB_can (l : List OutM) (hn : l.length ≤ 1000) : Makes Tryz.prog 89 [.row 9 l.length (outsF l)] [] (XV.sv (.slc 0 1 0 (outsParts l).flatten.length)) (.vec 5 1 (outsParts l).flatten.length (rowB (outsParts l).flatten)) := by
  refine Makes.of Tryz.T_ok Tryz.func89 rfl _ _ _ _ rfl rfl rfl rfl 1 (fun C hC => ?_)
  (replace hC : C.n0 = 1 := hC; change Tri _ _ _ ⟨_, _, 1⟩ _)
  (refine Tri.cut 2 Tryz.mixed Tryz.T_ok ?_; refine xZ ?_)
  (apply wP; exact (call_op rfl (entersB_of Tryz.func72 (by kernel_rfl)) rfl ((num_can (l.length : Int) 1 (by decide)).at [] ⟨lend_plain rfl, lend_plain rfl, trivial⟩ trivial)); refine xZ ?_)
  refine wD <| cutG <| Tri.seq ?_
  (refine Tri.cut 1 Tryz.mixed Tryz.T_ok ?_; refine xZ ?_)
  refine wD <| cutG <| Tri.block ?_
  refine Tri.loop (α := { i : Nat // i ≤ l.length }) (fun i => ⟨[some (XV.sv (.slc 0 9 0 l.length)), none, none, some (XV.sv (.slc 1 1 0 (outsB l i.1).length)), some (XV.int .i64 i.1)] ++ List.replicate 24 none, [(0, .ro 9 l.length (outsF l)), (1, .vec 5 1 (outsB l i.1).length (rowB (outsB l i.1)))], 2⟩) (fun i => l.length - i.1) ⟨0, Nat.zero_le _⟩ ?_ ?_
  · dsimp only
    rw [outsB_len l 0 (Nat.zero_le _)]
    ((try dsimp only); refine Ent.renC [0, 4] hC ?_ ?_ <;> repeat' (first | exact trivial | exact rfl | exact ⟨_, rfl, rfl, rfl, Nat.le_refl _, fun _ _ => rfl⟩ | exact ⟨_, rfl, rfl, rfl, fun _ _ => rfl⟩ | exact ⟨_, rfl, rfl, rfl⟩ | exact ⟨_, rfl, rfl⟩ | refine ⟨_, rfl, rfl, rfl, by omega, fun k hk => ?_⟩ | refine ⟨?_, ?_⟩ | fail))
  rintro ⟨i, hi⟩
  dsimp only
  have hl := outsB_len l i hi
  (refine Tri.cut 1 Tryz.mixed Tryz.T_ok ?_; refine xZ ?_)
  refine wC (fun h1 => ?_) (fun h1 => ?_)
  · (refine xG ?_)
    have h1' : i < l.length := xW
    have hw : IntKind.i64.wrap ((i : Int) + 1) = ((i + 1 : Nat) : Int) := xW
    refine wD <| cutG <| Tri.seq <| Tri.block <| Tri.of Tryz.mixed Tryz.T_ok ?_
    (refine xB ?_)
    (repeat (refine wN ?_ ?_; exact xW; refine xG ?_))
    simp only [Nat.zero_add, Int.toNat_natCast]
    (refine wP _ _ (append_op Tryz.T_ok rfl rfl rfl rfl rfl [1, 0] (old_vec rfl rfl (Nat.le_refl _) rfl) (new_elem (i := i) (j := 0) (g := rowB (l.getD i default).to.l) rfl rfl rfl (by omega) h1' (fun _ _ => rfl) rfl) rfl (fun _ _ => rfl) (by simp only [maxLen]; omega) (by dsimp only; omega)) ?_; refine xZ ?_)
    (repeat (refine wN ?_ ?_; exact xW; refine xG ?_))
    simp only [Nat.zero_add, Int.toNat_natCast]
    (apply wP; exact (call_op rfl (entersB_of Tryz.func72 (by kernel_rfl)) rfl ((num_can (l.getD i default).amt.toInt 7 (by decide)).at [] ⟨lend_plain rfl, lend_plain rfl, trivial⟩ trivial)); refine xZ ?_)
    (refine wP _ _ (append_op Tryz.T_ok rfl rfl rfl rfl rfl [12, 18] (old_vec rfl rfl (Nat.le_refl _) rfl) (new_vec (lo := 0) rfl rfl (Nat.le_refl _) rfl) rfl (fun _ _ => rfl) (by simp only [maxLen]; omega) (by dsimp only; omega)) ?_; refine xZ ?_)
    refine wD <| blockN <| cutG <| Tri.of Tryz.mixed Tryz.T_ok ?_
    (refine xB ?_)
    refine wD <| loopN ⟨⟨i + 1, h1'⟩, by dsimp only; omega, ?_⟩
    rw [hw]
    dsimp only
    rw [outsB_succ h1', List.length_append, List.length_append]
    ((try dsimp only); refine Ent.renC [0, 19] hC ?_ ?_ <;> repeat' (first | exact trivial | exact rfl | exact ⟨_, rfl, rfl, rfl, Nat.le_refl _, fun _ _ => rfl⟩ | exact ⟨_, rfl, rfl, rfl, fun _ _ => rfl⟩ | exact ⟨_, rfl, rfl, rfl⟩ | exact ⟨_, rfl, rfl⟩ | refine ⟨_, rfl, rfl, rfl, by omega, fun k hk => ?_⟩ | refine ⟨?_, ?_⟩ | fail))
    · exact Nat.le_refl _
    rw [← List.length_append, ← List.length_append]
    exact rowB_joinL (by rw [List.length_append]; rfl) (rowB_joinL rfl (fun _ _ => rfl) (fun _ _ => rfl)) zadd
  · (refine xG ?_)
    have h1' : i = l.length := xW
    subst h1'
    rw [outsB_all]
    refine wD <| cutE <| loopX <| blockX <| cutG <| Tri.of Tryz.mixed Tryz.T_ok ?_
    (refine xB ?_)
    exact wD (Ends.made (.inr rfl) (Ent.refl _) rfl (Nat.le_of_ble_eq_true rfl) rfl)
end Go.Proofs.YtnpkdoggfnlapaaGreatDoor
namespace Go.Proofs.YtnpkdoggfnlapaaGreatDoor
set_option maxRecDepth 100000
open Go.Sx
end Go.Proofs.YtnpkdoggfnlapaaGreatDoor
namespace Go.Proofs.YtnpkdoggfnlapaaGreatDoor
set_option maxRecDepth 100000
open Go.Sx
end Go.Proofs.YtnpkdoggfnlapaaGreatDoor
namespace Go.Proofs.YtnpkdoggfnlapaaGreatDoor
set_option maxRecDepth 100000
open Go.Sx
theorem noPar0 : Reads Tryz.prog 108 [.box par0.ac] [] (XV.bool true) := noPar_can par0 (Nat.zero_le _)
end Go.Proofs.YtnpkdoggfnlapaaGreatDoor
namespace Go.Proofs.YtnpkdoggfnlapaaGreatDoor
set_option maxRecDepth 100000
open Go.Sx
end Go.Proofs.YtnpkdoggfnlapaaGreatDoor
namespace Go.Proofs.YtnpkdoggfnlapaaGreatDoor
set_option maxRecDepth 100000
open Go.Lib Go.Sort
def bigL : List UInt8 → Nat
  | [] => 0
  | x :: r => x.toNat * 256 ^ r.length + bigL r
theorem bigL_lt : ∀ l : List UInt8, bigL l < 256 ^ l.length
  | [] => by simp [bigL]
  | x :: r => by
    have := bigL_lt r
    have h := x.toNat_lt
    simp only [bigL, List.length_cons, Nat.pow_succ]
    have : (x.toNat + 1) * 256 ^ r.length ≤ 256 * 256 ^ r.length := Nat.mul_le_mul_right _ (by omega)
    rw [Nat.add_mul, Nat.one_mul] at this
    omega
theorem num_step (x y : UInt8) (m a b : Nat) (ha : a < m) (hb : b < m) : (x.toNat * m + a < y.toNat * m + b ↔ x.toNat < y.toNat ∨ (x = y ∧ a < b)) ∧ (x.toNat * m + a = y.toNat * m + b ↔ x = y ∧ a = b) := by
  rcases Nat.lt_trichotomy x.toNat y.toNat with h | h | h
  · have h1 : (x.toNat + 1) * m ≤ y.toNat * m := Nat.mul_le_mul_right _ h
    rw [Nat.add_mul, Nat.one_mul] at h1
    have hne : x ≠ y := fun e => by rw [e] at h; omega
    exact ⟨⟨fun _ => .inl h, fun _ => by omega⟩, ⟨fun e => by omega, fun e => absurd e.1 hne⟩⟩
  · have e : x = y := UInt8.toNat_inj.1 h
    subst e
    exact ⟨⟨fun h => .inr ⟨rfl, by omega⟩, fun h => by rcases h with h | h <;> omega⟩, ⟨fun h => ⟨rfl, by omega⟩, fun h => by omega⟩⟩
  · have h1 : (y.toNat + 1) * m ≤ x.toNat * m := Nat.mul_le_mul_right _ h
    rw [Nat.add_mul, Nat.one_mul] at h1
    have hne : x ≠ y := fun e => by rw [e] at h; omega
    exact ⟨⟨fun _ => by omega, fun e => by rcases e with e | e; omega; exact absurd e.1 hne⟩, ⟨fun e => by omega, fun e => absurd e.1 hne⟩⟩
theorem bigL_inj : ∀ {a b : List UInt8}, a.length = b.length → bigL a = bigL b → a = b
  | [], [], _, _ => rfl
  | x :: a, y :: b, hl, h => by
    have hl' : a.length = b.length := by simpa using hl
    simp only [bigL, hl'] at h
    obtain ⟨rfl, h2⟩ := (num_step x y _ _ _ (hl' ▸ bigL_lt a) (bigL_lt b)).2.1 h
    rw [bigL_inj hl' h2]
theorem ltL_num : ∀ {a b : List UInt8}, a.length = b.length → (ltL a b = true ↔ bigL a < bigL b)
  | [], [], _ => by simp [ltL, bigL]
  | x :: a, y :: b, hl => by
    have hl' : a.length = b.length := by simpa using hl
    have h := (num_step x y _ _ _ (hl' ▸ bigL_lt a) (bigL_lt b)).1
    simp only [ltL, bigL, hl', h]
    by_cases e : x = y
    · subst e; simp [ltL_num hl']
    · simp [e, UInt8.lt_iff_toNat_lt]
def Pt.num (p : Pt) : Nat := bigL p.tx.l
theorem Pt.num_tx {p q : Pt} : p.num = q.num ↔ p.tx = q.tx := by
  constructor
  · intro h
    have h := bigL_inj (a := p.tx.l) (b := q.tx.l) rfl h
    obtain ⟨⟨_, _, _, _, _, _, _, _⟩, _⟩ := p
    obtain ⟨⟨_, _, _, _, _, _, _, _⟩, _⟩ := q
    simp only [H8.l, List.cons.injEq, and_true] at h
    obtain ⟨rfl, rfl, rfl, rfl, rfl, rfl, rfl, rfl⟩ := h
    rfl
  · intro h; simp only [Pt.num, h]
theorem ltPt_num (p q : Pt) : ltPt p q = true ↔ p.num < q.num ∨ (p.num = q.num ∧ p.no.toInt < q.no.toInt) := by
  unfold ltPt
  simp only [Bool.or_eq_true, Bool.and_eq_true, decide_eq_true_eq, ltL_num (a := p.tx.l) (b := q.tx.l) rfl, Pt.num_tx]
  rfl
theorem ltPt_false (p q : Pt) : ltPt p q = false ↔ ¬ (p.num < q.num ∨ (p.num = q.num ∧ p.no.toInt < q.no.toInt)) := by
  rw [← ltPt_num]; simp
theorem ltPt_swo : SWO ltPt where
  irrefl x := by rw [ltPt_false]; omega
  trans x y z h1 h2 := by rw [ltPt_num] at *; omega
  ntrans x y z h1 h2 := by rw [ltPt_false] at *; omega
theorem Pt.eq_of {p q : Pt} (h1 : p.num = q.num) (h2 : p.no.toInt = q.no.toInt) : p = q := by
  have h1 := Pt.num_tx.1 h1
  have h2 := Int64.toInt_inj.1 h2
  obtain ⟨_, _⟩ := p
  obtain ⟨_, _⟩ := q
  subst h1 h2
  rfl
theorem ltPt_total (x y : Pt) (h1 : ltPt x y = false) (h2 : ltPt y x = false) : x = y := by
  rw [ltPt_false] at *
  exact Pt.eq_of (by omega) (by omega)
end Go.Proofs.YtnpkdoggfnlapaaGreatDoor
namespace Go.Proofs.YtnpkdoggfnlapaaGreatDoor
set_option maxRecDepth 100000
open Go.Sx
theorem wrap_i64 {n : Int} (h1 : -9223372036854775808 ≤ n) (h2 : n < 9223372036854775808) : IntKind.i64.wrap n = n := by
  have e1 : IntKind.i64.bits = 64 := rfl
  have e2 : IntKind.i64.signed = true := rfl
  simp only [IntKind.wrap, e1, e2, Bool.true_and]
  split <;> rename_i h <;> simp only [ge_iff_le, decide_eq_true_eq] at h <;> omega
structure RC where
  P : List Pt
  C : List Coin
def RC.mem (R : RC) : Mem := [(0, .cells 78 [.slc 1 9 0 R.P.length, .slc 2 11 0 R.C.length]), (1, .vec 65 9 R.P.length fun i => (R.P.getD i default).cells), (2, .vec 162 11 R.C.length fun i => (R.C.getD i default).cells)]
def rcP (R : RC) : AbsP := packP R.mem True
def RC.empty : RC := ⟨[], []⟩
end Go.Proofs.YtnpkdoggfnlapaaGreatDoor
namespace Go.Proofs.YtnpkdoggfnlapaaGreatDoor
set_option maxRecDepth 100000
open Go.Sx
def RC.root (R : RC) (i1 i2 : Nat) : Chunk := .cells 78 [.slc i1 9 0 R.P.length, .slc i2 11 0 R.C.length]
def RC.vecP (R : RC) : Chunk := .vec 65 9 R.P.length fun i => (R.P.getD i default).cells
def RC.vecC (R : RC) : Chunk := .vec 162 11 R.C.length fun i => (R.C.getD i default).cells
def RC.sumN (R : RC) : Nat → Int
  | 0 => 0
  | i + 1 => IntKind.i64.wrap (R.sumN i + (R.C.getD i default).amt.toInt)
def posIn (p : Pt) : List Pt → Nat
  | [] => 0
  | q :: r => if ltPt q p = true then posIn p r + 1 else 0
def RC.pos (R : RC) (p : Pt) : Nat := posIn p R.P
def RC.isAt (R : RC) (p : Pt) : Bool := decide (R.pos p < R.P.length) && decide (R.P.getD (R.pos p) default = p)
end Go.Proofs.YtnpkdoggfnlapaaGreatDoor
namespace Go.Proofs.YtnpkdoggfnlapaaGreatDoor
set_option maxRecDepth 100000
open Go.Sx
theorem RC.opens {P : Program} {C : Ctx} {cd : Code} {slots : List (Option XV)} {mem : Mem} {nx : Nat} {Q : Exit → St → Prop} (R : RC) (c : Nat) (hc : mem.get c = some (.abs (rcP R)))
    (h : Tri P C cd ⟨slots, (c, R.root (nx + 1) (nx + 2)) :: (nx + 1, R.vecP) :: (nx + 2, R.vecC) :: mem.del c, nx + 3⟩ Q) : Tri P C cd ⟨slots, mem, nx⟩ Q :=
  Tri.opens (M := R.mem) (m := 3) (inv := True) (c := c) hc rfl fun _ => h
theorem RC.shuts {C : Ctx} {slots : List (Option XV)} {mem : Mem} {nx : Nat} (R : RC) (c : Nat) {i1 i2 m1 m2 n1 n2 : Nat} {f g : Nat → List Value}
    (k0 : mem.get c = some (.cells 78 [.slc i1 9 0 m1, .slc i2 11 0 m2])) (k1 : mem.get i1 = some (.vec 65 9 n1 f)) (k2 : mem.get i2 = some (.vec 162 11 n2 g))
    (hids : (Nat.beq c i1 || Nat.beq c i2 || Nat.beq i1 i2) = false) (hm1 : m1 = R.P.length) (hm2 : m2 = R.C.length) (hl1 : R.P.length ≤ n1) (hl2 : R.C.length ≤ n2) (hf : ∀ i, i < R.P.length → f i = (R.P.getD i default).cells) (hg : ∀ i, i < R.C.length → g i = (R.C.getD i default).cells) :
    Ent C ⟨slots, mem, nx⟩ ⟨slots, (c, .abs (rcP R)) :: mem.dels [c, i1, i2], nx⟩ := by
  subst hm1 hm2
  exact Ent.shut3 (S := ⟨slots, mem, nx⟩) (M := R.mem) (inv := True) hids trivial rfl rfl rfl rfl k0 k1 k2 rfl ⟨rfl, rfl⟩ ⟨rfl, rfl, hl1, hf⟩ ⟨rfl, rfl, hl2, hg⟩
end Go.Proofs.YtnpkdoggfnlapaaGreatDoor
namespace Go.Proofs.YtnpkdoggfnlapaaGreatDoor
set_option maxRecDepth 100000
open Go.Sx
def RC.okB (R : RC) (p : Pt) (c : Coin) : Bool := !(R.isAt p) && !(decide (p.no.toInt < 0)) && !(decide (255 < p.no.toInt)) && !(decide (c.amt.toInt < 1)) && !(decide (1125899906842624 < c.amt.toInt)) && !(decide (IntKind.i64.wrap (1125899906842624 - c.amt.toInt) < R.sumN R.C.length))
def RC.add1 (R : RC) (p : Pt) (c : Coin) : RC := ⟨R.P.take (R.pos p) ++ p :: R.P.drop (R.pos p), R.C.take (R.pos p) ++ c :: R.C.drop (R.pos p)⟩
def RC.add (R : RC) (p : Pt) (c : Coin) : RC := if R.okB p c = true then R.add1 p c else R
theorem RC.ends {C : Ctx} {T : TyTab} {rs : List ResultVar} {X X' : XV} {e : Exit} {slots : List (Option XV)} {mem : Mem} {nx : Nat} {R0 : RC} (R : RC) {i1 i2 m1 m2 n1 n2 : Nat} {f g : Nat → List Value} (he : e = .normal ∨ e = .ret)
    (k0 : mem.get 0 = some (.cells 78 [.slc i1 9 0 m1, .slc i2 11 0 m2])) (k1 : mem.get i1 = some (.vec 65 9 n1 f)) (k2 : mem.get i2 = some (.vec 162 11 n2 g))
    (hids : (Nat.beq 0 i1 || Nat.beq 0 i2 || Nat.beq i1 i2) = false) (hr : resX T ⟨slots, (0, .abs (rcP R)) :: mem.dels [0, i1, i2], nx⟩ rs = some X') (hX : X' = X) (hR : R = R0) (hm1 : m1 = R.P.length) (hm2 : m2 = R.C.length) (hl1 : R.P.length ≤ n1) (hl2 : R.C.length ≤ n2)
    (hf : ∀ i, i < R.P.length → f i = (R.P.getD i default).cells) (hg : ∀ i, i < R.C.length → g i = (R.C.getD i default).cells) : Sx.Ends C T rs 1 1 ⟨X, [(0, .abs (rcP R0))], none⟩ e ⟨slots, mem, nx⟩ := by
  subst hX hR
  refine ⟨he, _, RC.shuts R 0 k0 k1 k2 hids hm1 hm2 hl1 hl2 hf hg, hr, fun i ch h => ?_, fun i ch h => by cases h⟩
  simp only [Mem.get, nbeq] at h
  by_cases hk : 0 = i
  · subst hk
    simp only [decide_true, cond_true, Option.some.injEq] at h
    exact ⟨by omega, by rw [← h]; rfl⟩
  · simp [hk] at h
end Go.Proofs.YtnpkdoggfnlapaaGreatDoor
namespace Go.Proofs.YtnpkdoggfnlapaaGreatDoor
set_option maxRecDepth 100000
open Go.Sx
def RC.get (R : RC) (p : Pt) : Coin := if R.isAt p = true then R.C.getD (R.pos p) default else coin0
end Go.Proofs.YtnpkdoggfnlapaaGreatDoor

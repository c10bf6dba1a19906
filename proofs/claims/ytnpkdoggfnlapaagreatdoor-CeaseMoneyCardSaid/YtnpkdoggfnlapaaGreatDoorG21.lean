/- Parts Yk Yo Yp. -/
import Derived.Test.YtnpkdoggfnlapaaGreatDoorG20
set_option linter.unusedSimpArgs false
set_option linter.unusedVariables false
namespace Go.Proofs.YtnpkdoggfnlapaaGreatDoor
set_option maxRecDepth 100000
open Go.Sx
def parN2 (p : ParM) : Bool := parN p && parT p
theorem parB_eq (p : ParM) : parB p = (parN2 p && keysOK p.keys) := by
  rw [parB, parN2, Bool.and_assoc, Bool.and_comm (keysOK _)]
theorem eqH_comm (a b : H8) : eqH a b = decide (b = a) := by rw [eqH, Bool.eq_iff_iff, decide_eq_true_eq, decide_eq_true_eq]; exact eq_comm
def rmpM (p : ParM) : Mem := [(0, .ro 8 p.keys.length (keysF p.keys)), (1, .cells 40 (parV p))]
set_option maxHeartbeats 4000000 in
theorem rmayPar_can (p : ParM) (hl : p.keys.length ≤ 1000000000) : Reads Tryz.prog 112 [.box p.ac] [] (XV.bool (parB p)) := by
  refine Reads.of Tryz.T_ok Tryz.func112 rfl _ _ _ rfl rfl (fun C hC => ?_)
  (replace hC : C.n0 = 1 := hC; change Tri _ _ _ ⟨_, _, 1⟩ _)
  rw [parB_eq]
  (refine Tri.cut 2 Tryz.mixed Tryz.T_ok ?_; ((conv => arg 5; whnf); repeat (refine xS ?_; conv => arg 5; whnf)))
  have no : parN2 p = false → XV.bool false = XV.bool (parN2 p && keysOK p.keys) := fun h => by rw [h, Bool.false_and]
  refine wC (fun h1 => ?_) (fun h1 => ?_)
  · (refine wGo ?_; ((conv => arg 5; whnf); repeat (refine xS ?_; conv => arg 5; whnf)))
    exact wD <| cutR <| Ends.plain (.inr rfl) rfl (no (by rw [parN2, parN, h1]; rfl))
  (refine wGo ?_; ((conv => arg 5; whnf); repeat (refine xS ?_; conv => arg 5; whnf)))
  refine wC (fun h2 => ?_) (fun h2 => ?_)
  · (refine wGo ?_; ((conv => arg 5; whnf); repeat (refine xS ?_; conv => arg 5; whnf)))
    exact wD <| cutR <| Ends.plain (.inr rfl) rfl (no (by rw [parN2, parN, h1, h2]; rfl))
  (refine wGo ?_; ((conv => arg 5; whnf); repeat (refine xS ?_; conv => arg 5; whnf)))
  refine wC (fun h3 => ?_) (fun h3 => ?_)
  · (refine wGo ?_; ((conv => arg 5; whnf); repeat (refine xS ?_; conv => arg 5; whnf)))
    exact wD <| cutR <| Ends.plain (.inr rfl) rfl (no (by rw [parN2, parN, h1, h2, h3]; rfl))
  (refine wGo ?_; ((conv => arg 5; whnf); repeat (refine xS ?_; conv => arg 5; whnf)))
  refine wC (fun h4 => ?_) (fun h4 => ?_)
  · (refine wGo ?_; ((conv => arg 5; whnf); repeat (refine xS ?_; conv => arg 5; whnf)))
    exact wD <| cutR <| Ends.plain (.inr rfl) rfl (no (by rw [parN2, parN, h1, h2, h3, h4]; rfl))
  have hN : parN p = true := by rw [parN, h1, h2, h3, h4]; rfl
  have noT : parT p = false → XV.bool false = XV.bool (parN2 p && keysOK p.keys) := fun h => no (by rw [parN2, h, Bool.and_false])
  (refine wGo ?_; ((conv => arg 5; whnf); repeat (refine xS ?_; conv => arg 5; whnf)))
  refine wC (fun h5 => ?_) (fun h5 => ?_)
  · (refine wGo ?_; ((conv => arg 5; whnf); repeat (refine xS ?_; conv => arg 5; whnf)))
    exact wD <| cutR <| Ends.plain (.inr rfl) rfl (noT (by rw [parT, decide_eq_false (show ¬ 2 ≤ p.len by simp only [decide_eq_true_eq] at h5; omega)]; rfl))
  (refine wGo ?_; ((conv => arg 5; whnf); repeat (refine xS ?_; conv => arg 5; whnf)))
  refine wC (fun h6 => ?_) (fun h6 => ?_)
  · (refine wGo ?_; ((conv => arg 5; whnf); repeat (refine xS ?_; conv => arg 5; whnf)))
    exact wD <| cutR <| Ends.plain (.inr rfl) rfl (noT (by rw [parT, decide_eq_false (show ¬ p.len ≤ 64 by simp only [decide_eq_true_eq] at h6; omega), Bool.false_and, Bool.and_false]))
  (refine wGo ?_; ((conv => arg 5; whnf); repeat (refine xS ?_; conv => arg 5; whnf)))
  refine wC (fun h7 => ?_) (fun h7 => ?_)
  · (refine wGo ?_; ((conv => arg 5; whnf); repeat (refine xS ?_; conv => arg 5; whnf)))
    exact wD <| cutR <| Ends.plain (.inr rfl) rfl (noT (by rw [parT, decide_eq_false (show ¬ 1 ≤ p.win by simp only [decide_eq_true_eq] at h7; omega), Bool.false_and, Bool.and_false, Bool.and_false]))
  (refine wGo ?_; ((conv => arg 5; whnf); repeat (refine xS ?_; conv => arg 5; whnf)))
  refine wC (fun h8 => ?_) (fun h8 => ?_)
  · (refine wGo ?_; ((conv => arg 5; whnf); repeat (refine xS ?_; conv => arg 5; whnf)))
    exact wD <| cutR <| Ends.plain (.inr rfl) rfl (noT (by rw [parT, decide_eq_false (show ¬ p.win ≤ p.len by simp only [decide_eq_true_eq] at h8; omega), Bool.and_false, Bool.and_false, Bool.and_false]))
  have hT : parT p = true := by
    simp only [decide_eq_false_iff_not] at h5 h6 h7 h8
    rw [parT, decide_eq_true (show 2 ≤ p.len by omega), decide_eq_true (show p.len ≤ 64 by omega), decide_eq_true (show 1 ≤ p.win by omega), decide_eq_true (show p.win ≤ p.len by omega)]; rfl
  have hN2 : parN2 p = true := by rw [parN2, hN, hT]; rfl
  rw [hN2, Bool.true_and]
  (refine wGo ?_; ((conv => arg 5; whnf); repeat (refine xS ?_; conv => arg 5; whnf)))
  refine wD <| cutG <| Tri.seq ?_
  (refine Tri.cut 1 Tryz.mixed Tryz.T_ok ?_; ((conv => arg 5; whnf); repeat (refine xS ?_; conv => arg 5; whnf)))
  refine wD <| cutG <| Tri.block ?_
  refine Tri.loop (α := { i : Nat // i ≤ p.keys.length ∧ (List.range i).all (keyAt p.keys) = true }) (fun i => ⟨[none, some (XV.sv (.ptr 1 0 0 0)), none, some (XV.int .i64 i.1)] ++ List.replicate 75 none, rmpM p, 2⟩) (fun i => p.keys.length - i.1) ⟨0, Nat.zero_le _, rfl⟩ ?_ ?_
  · unfold rmpM
    ((try dsimp only); refine Ent.renC [0, 1] hC ?_ ?_ <;> repeat' (first | exact trivial | exact rfl | exact ⟨_, rfl, rfl, rfl, Nat.le_refl _, fun _ _ => rfl⟩ | exact ⟨_, rfl, rfl, rfl, fun _ _ => rfl⟩ | exact ⟨_, rfl, rfl, rfl⟩ | exact ⟨_, rfl, rfl⟩ | refine ⟨_, rfl, rfl, rfl, by omega, fun k hk => ?_⟩ | refine ⟨?_, ?_⟩ | fail))
  rintro ⟨i, hi, ha⟩
  dsimp only
  unfold rmpM
  (refine Tri.cut 1 Tryz.mixed Tryz.T_ok ?_; ((conv => arg 5; whnf); repeat (refine xS ?_; conv => arg 5; whnf)))
  refine wC (fun k1 => ?_) (fun k1 => ?_)
  · (refine wGo ?_; ((conv => arg 5; whnf); repeat (refine xS ?_; conv => arg 5; whnf)))
    have h1' : i < p.keys.length := (by (try simp only [ww] at *); omega)
    have hs := range_all_succ (keyAt p.keys) i
    have hw : IntKind.i64.wrap ((i : Int) + 1) = ((i + 1 : Nat) : Int) := (by (try simp only [ww] at *); omega)
    have bad : keyAt p.keys i = false → XV.bool false = XV.bool (keysOK p.keys) := fun h => by rw [keysOK, range_all_false h1' h]
    refine wD <| cutG <| Tri.seq <| Tri.block ?_
    refine Tri.seq ?_
    refine Tri.seq (Tri.of Tryz.mixed Tryz.T_ok ?_)
    (refine wBegin ?_; ((conv => arg 5; whnf); repeat (refine xS ?_; conv => arg 5; whnf)))
    refine wD <| cutG <| Tri.block ?_
    refine Tri.loop (α := { k : Nat // k ≤ i ∧ (p.keys.take k).any (eqH (p.keys.getD i default)) = false }) (fun k => ⟨[none, some (XV.sv (.ptr 1 0 0 0)), none, some (XV.int .i64 i), some (XV.int .i64 k.1)] ++ List.replicate 74 none, rmpM p, 2⟩) (fun k => i - k.1) ⟨0, Nat.zero_le _, by simp⟩ ?_ ?_
    · unfold rmpM
      ((try dsimp only); refine Ent.renC [0, 1] hC ?_ ?_ <;> repeat' (first | exact trivial | exact rfl | exact ⟨_, rfl, rfl, rfl, Nat.le_refl _, fun _ _ => rfl⟩ | exact ⟨_, rfl, rfl, rfl, fun _ _ => rfl⟩ | exact ⟨_, rfl, rfl, rfl⟩ | exact ⟨_, rfl, rfl⟩ | refine ⟨_, rfl, rfl, rfl, by omega, fun k hk => ?_⟩ | refine ⟨?_, ?_⟩ | fail))
    rintro ⟨k, hk, hka⟩
    dsimp only
    unfold rmpM
    (refine Tri.cut 1 Tryz.mixed Tryz.T_ok ?_; ((conv => arg 5; whnf); repeat (refine xS ?_; conv => arg 5; whnf)))
    refine wC (fun k2 => ?_) (fun k2 => ?_)
    · (refine wGo ?_; ((conv => arg 5; whnf); repeat (refine xS ?_; conv => arg 5; whnf)))
      have h2' : k < i := (by (try simp only [ww] at *); omega)
      have hw2 : IntKind.i64.wrap ((k : Int) + 1) = ((k + 1 : Nat) : Int) := (by (try simp only [ww] at *); omega)
      have hsk := any_take_succ' (p := eqH (p.keys.getD i default)) (show k < p.keys.length by omega)
      refine wD <| cutG <| Tri.seq <| Tri.block <| Tri.of Tryz.mixed Tryz.T_ok ?_
      (refine wBegin ?_; ((conv => arg 5; whnf); repeat (refine xS ?_; conv => arg 5; whnf)))
      (repeat (refine wN ?_ ?_; exact (by (try simp only [ww] at *); omega); refine wGo ?_; ((conv => arg 5; whnf); repeat (refine xS ?_; conv => arg 5; whnf))))
      simp only [Nat.zero_add, Int.toNat_natCast]
      (refine wP _ _ (eq_op hashE rfl (p.keys.getD k default) (p.keys.getD i default) rfl rfl) ?_; ((conv => arg 5; whnf); repeat (refine xS ?_; conv => arg 5; whnf)))
      refine wC (fun k3 => ?_) (fun k3 => ?_)
      · (refine wGo ?_; ((conv => arg 5; whnf); repeat (refine xS ?_; conv => arg 5; whnf)))
        have hq : (p.keys.take i).any (eqH (p.keys.getD i default)) = true := by
          rw [List.any_eq_true]
          refine ⟨p.keys.getD k default, ?_, by rw [eqH_comm]; exact k3⟩
          rw [List.getD_eq_getElem?_getD, List.getElem?_eq_getElem (by omega)]
          show p.keys[k] ∈ _
          rw [List.mem_take_iff_getElem]
          exact ⟨k, by omega, rfl⟩
        exact wD <| blockR <| cutR <| loopR <| blockR <| cutR <| blockR <| cutR <| loopR <| blockR <| cutR <| Ends.plain (.inr rfl) rfl (bad (by rw [keyAt, hq]; simp))
      · (refine wGo ?_; ((conv => arg 5; whnf); repeat (refine xS ?_; conv => arg 5; whnf)))
        refine wD <| blockN <| cutG <| Tri.of Tryz.mixed Tryz.T_ok ?_
        (refine wBegin ?_; ((conv => arg 5; whnf); repeat (refine xS ?_; conv => arg 5; whnf)))
        refine wD <| loopN ⟨⟨k + 1, h2', by rw [hsk, hka, Bool.false_or, eqH_comm]; exact k3⟩, by dsimp only; omega, ?_⟩
        rw [hw2]
        ((try dsimp only); refine Ent.renC [0, 1] hC ?_ ?_ <;> repeat' (first | exact trivial | exact rfl | exact ⟨_, rfl, rfl, rfl, Nat.le_refl _, fun _ _ => rfl⟩ | exact ⟨_, rfl, rfl, rfl, fun _ _ => rfl⟩ | exact ⟨_, rfl, rfl, rfl⟩ | exact ⟨_, rfl, rfl⟩ | refine ⟨_, rfl, rfl, rfl, by omega, fun k hk => ?_⟩ | refine ⟨?_, ?_⟩ | fail))
    · (refine wGo ?_; ((conv => arg 5; whnf); repeat (refine xS ?_; conv => arg 5; whnf)))
      have h2' : k = i := (by (try simp only [ww] at *); omega)
      subst h2'
      refine wD <| cutE <| loopX <| blockX <| cutG <| Tri.of Tryz.mixed Tryz.T_ok ?_
      (refine wBegin ?_; ((conv => arg 5; whnf); repeat (refine xS ?_; conv => arg 5; whnf)))
      (repeat (refine wN ?_ ?_; exact (by (try simp only [ww] at *); omega); refine wGo ?_; ((conv => arg 5; whnf); repeat (refine xS ?_; conv => arg 5; whnf))))
      simp only [Nat.zero_add, Int.toNat_natCast]
      (apply wP; exact (call_op rfl (entersB_of Tryz.func147 (by kernel_rfl)) rfl ((rzero_can (p.keys.getD k default)).at [] ⟨lend_plain rfl, trivial⟩ trivial)); ((conv => arg 5; whnf); repeat (refine xS ?_; conv => arg 5; whnf)))
      refine wC (fun k3 => ?_) (fun k3 => ?_)
      · (refine wGo ?_; ((conv => arg 5; whnf); repeat (refine xS ?_; conv => arg 5; whnf)))
        exact wD <| blockR <| cutR <| loopR <| blockR <| cutR <| Ends.plain (.inr rfl) rfl (bad (by rw [keyAt, k3]; rfl))
      · (refine wGo ?_; ((conv => arg 5; whnf); repeat (refine xS ?_; conv => arg 5; whnf)))
        refine wD <| blockN <| cutG <| Tri.of Tryz.mixed Tryz.T_ok ?_
        (refine wBegin ?_; ((conv => arg 5; whnf); repeat (refine xS ?_; conv => arg 5; whnf)))
        refine wD <| loopN ⟨⟨k + 1, h1', by rw [hs, ha, keyAt, k3, hka]; rfl⟩, by dsimp only; omega, ?_⟩
        rw [hw]
        ((try dsimp only); refine Ent.renC [0, 1] hC ?_ ?_ <;> repeat' (first | exact trivial | exact rfl | exact ⟨_, rfl, rfl, rfl, Nat.le_refl _, fun _ _ => rfl⟩ | exact ⟨_, rfl, rfl, rfl, fun _ _ => rfl⟩ | exact ⟨_, rfl, rfl, rfl⟩ | exact ⟨_, rfl, rfl⟩ | refine ⟨_, rfl, rfl, rfl, by omega, fun k hk => ?_⟩ | refine ⟨?_, ?_⟩ | fail))
  · (refine wGo ?_; ((conv => arg 5; whnf); repeat (refine xS ?_; conv => arg 5; whnf)))
    have h1' : i = p.keys.length := (by (try simp only [ww] at *); omega)
    subst h1'
    refine wD <| cutE <| loopX <| blockX <| cutG <| Tri.of Tryz.mixed Tryz.T_ok ?_
    (refine wBegin ?_; ((conv => arg 5; whnf); repeat (refine xS ?_; conv => arg 5; whnf)))
    exact wD (Ends.plain (.inr rfl) rfl (by rw [keysOK, ha]))
def qseed (k : Int) : H8 := ⟨113, byteI (IntKind.u8.wrap k), 0, 0, 0, 0, 0, 0⟩
theorem seed_can (k : Int) : Reads Tryz.prog 118 [.plain (.one (.raw (.int .i64 k)))] [] (.cv (qseed k).x) := by
  refine Reads.of Tryz.T_ok Tryz.func118 rfl _ _ _ rfl rfl (fun C hC => ?_)
  (replace hC : C.n0 = 1 := hC; change Tri _ _ _ ⟨_, _, 1⟩ _)
  refine Tri.of Tryz.mixed Tryz.T_ok ?_
  (refine wBegin ?_; ((conv => arg 5; whnf); repeat (refine xS ?_; conv => arg 5; whnf)))
  refine wD (Ends.plain (.inr rfl) rfl ?_)
  show _ = XV.cv (.agg [.raw (u8 113), .raw (u8 (byteI (IntKind.u8.wrap k))), .raw (u8 0), .raw (u8 0), .raw (u8 0), .raw (u8 0), .raw (u8 0), .raw (u8 0)])
  rw [u8_byteI]; rfl
def qkeys (n : Nat) : List H8 := (List.range n).map fun k : Nat => treeH (qseed (k : Int))
theorem qkeys_succ (n : Nat) : qkeys (n + 1) = qkeys n ++ [treeH (qseed (n : Int))] := by simp [qkeys, List.range_succ]
theorem qkeys_len (n : Nat) : (qkeys n).length = n := by simp [qkeys]
def madeP (n : Nat) (need : Int) : ParM := ⟨4, 2, need, qkeys n⟩
theorem keys_snoc {l : List H8} {x : H8} {f : Nat → List Value} {m k : Nat} (hm : m = l.length) (hf : f 0 = x.cells) (hk : k < m + 1) : joinF (keysF l) m f k = keysF (l ++ [x]) k := by
  subst hm
  simp only [joinF, nblt]
  by_cases h : k < l.length
  · rw [decide_eq_true h, cond_true, keysF, rowOf, keysF, rowOf, List.getD_eq_getElem?_getD, List.getD_eq_getElem?_getD, List.getElem?_append_left h]
  · obtain rfl : k = l.length := by omega
    rw [decide_eq_false h, cond_false, Nat.sub_self, hf, keysF, rowOf]; simp
def madeSt (n : Nat) (need : Int) (i : Nat) : St :=
  ⟨[some (XV.int .i64 n), none, none, none, some (XV.sv (.ptr 2 0 0 0)), some (XV.sv (.ptr 3 0 0 0)), some (XV.int .i64 i)] ++ List.replicate 20 none,
   [(2, .cells 40 (parCells par0 (.raw (.slice none 0 0)))), (3, .cells 40 [.raw (.int .i64 4), .raw (.int .i64 2), .raw (.int .i64 need), .slc 4 8 0 i]), (4, .vec 29 8 i (keysF (qkeys i)))], 5⟩
set_option maxHeartbeats 2000000 in
theorem made_can (n : Nat) (hn : n ≤ 8) (need : Int) : Makes Tryz.prog 64 [.plain (.one (.raw (.int .i64 n))), .plain (.one (.raw (.int .i64 need)))] [] (.cv (.agg [.raw (.int .i64 4), .raw (.int .i64 2), .raw (.int .i64 need), .slc 0 8 0 n])) (.vec 29 8 n (keysF (qkeys n))) := by
  refine Makes.of Tryz.T_ok Tryz.func64 rfl _ _ _ _ rfl rfl rfl rfl 4 (fun C hC => ?_)
  (replace hC : C.n0 = 2 := hC; change Tri _ _ _ ⟨_, _, 2⟩ _)
  (refine Tri.cut 2 Tryz.mixed Tryz.T_ok ?_; ((conv => arg 5; whnf); repeat (refine xS ?_; conv => arg 5; whnf)))
  refine wD <| cutG <| Tri.ent (Ent.nilc (c := 5) (e := 40) (cs := [.raw (.int .i64 4), .raw (.int .i64 2), .raw (.int .i64 need), .raw (.slice none 0 0)]) (j := 3) rfl rfl 29 8) <| Tri.seq ?_
  (refine Tri.cut 1 Tryz.mixed Tryz.T_ok ?_; ((conv => arg 5; whnf); repeat (refine xS ?_; conv => arg 5; whnf)))
  refine wD <| cutG <| Tri.block ?_
  refine Tri.loop (α := { i : Nat // i ≤ n }) (fun i => madeSt n need i.1) (fun i => n - i.1) ⟨0, Nat.zero_le _⟩ ?_ ?_
  · unfold madeSt
    ((try dsimp only); refine Ent.renC [0, 1, 2, 5, 7] hC ?_ ?_ <;> repeat' (first | exact trivial | exact rfl | exact ⟨_, rfl, rfl, rfl, Nat.le_refl _, fun _ _ => rfl⟩ | exact ⟨_, rfl, rfl, rfl, fun _ _ => rfl⟩ | exact ⟨_, rfl, rfl, rfl⟩ | exact ⟨_, rfl, rfl⟩ | refine ⟨_, rfl, rfl, rfl, by omega, fun k hk => ?_⟩ | refine ⟨?_, ?_⟩ | fail))
    exact absurd hk (Nat.not_lt_zero _)
  rintro ⟨i, hi⟩
  dsimp only
  unfold madeSt
  (refine Tri.cut 1 Tryz.mixed Tryz.T_ok ?_; ((conv => arg 5; whnf); repeat (refine xS ?_; conv => arg 5; whnf)))
  refine wC (fun h1 => ?_) (fun h1 => ?_)
  · (refine wGo ?_; ((conv => arg 5; whnf); repeat (refine xS ?_; conv => arg 5; whnf)))
    have h1' : i < n := (by (try simp only [ww] at *); omega)
    have hw : IntKind.i64.wrap ((i : Int) + 1) = ((i + 1 : Nat) : Int) := (by (try simp only [ww] at *); omega)
    (refine wTd ?_ ?_; (first | refine decide_eq_true ?_ | rw [beq_iff_eq] | rw [bne_iff_ne]); exact (by (try simp only [ww] at *); omega); refine wGo ?_; ((conv => arg 5; whnf); repeat (refine xS ?_; conv => arg 5; whnf)))
    refine wD <| cutG <| Tri.seq <| Tri.block <| Tri.of Tryz.mixed Tryz.T_ok ?_
    (refine wBegin ?_; ((conv => arg 5; whnf); repeat (refine xS ?_; conv => arg 5; whnf)))
    (apply wP; exact (call_op rfl (entersB_of Tryz.func118 (by kernel_rfl)) rfl ((seed_can (i : Int)).at [] ⟨lend_plain rfl, trivial⟩ trivial)); ((conv => arg 5; whnf); repeat (refine xS ?_; conv => arg 5; whnf)))
    (apply wP; exact (call_op rfl (entersB_of Tryz.func117 (by kernel_rfl)) rfl ((tree_can (qseed (i : Int))).at [] ⟨lend_plain rfl, trivial⟩ trivial)); ((conv => arg 5; whnf); repeat (refine xS ?_; conv => arg 5; whnf)))
    (refine wP _ _ (append_op Tryz.T_ok rfl rfl rfl rfl rfl [4, 17] (old_vec rfl rfl (Nat.le_refl _) rfl) (new_vec (lo := 0) rfl rfl (Nat.le_refl _) rfl) rfl (lt1 rfl) (by simp only [maxLen]; omega) (by dsimp only; omega)) ?_; ((conv => arg 5; whnf); repeat (refine xS ?_; conv => arg 5; whnf)))
    refine wD <| blockN <| cutG <| Tri.of Tryz.mixed Tryz.T_ok ?_
    (refine wBegin ?_; ((conv => arg 5; whnf); repeat (refine xS ?_; conv => arg 5; whnf)))
    refine wD <| loopN ⟨⟨i + 1, h1'⟩, by dsimp only; omega, ?_⟩
    rw [hw]
    ((try dsimp only); refine Ent.renC [0, 1, 2, 3, 18] hC ?_ ?_ <;> repeat' (first | exact trivial | exact rfl | exact ⟨_, rfl, rfl, rfl, Nat.le_refl _, fun _ _ => rfl⟩ | exact ⟨_, rfl, rfl, rfl, fun _ _ => rfl⟩ | exact ⟨_, rfl, rfl, rfl⟩ | exact ⟨_, rfl, rfl⟩ | refine ⟨_, rfl, rfl, rfl, by omega, fun k hk => ?_⟩ | refine ⟨?_, ?_⟩ | fail))
    rw [qkeys_succ]
    exact keys_snoc (qkeys_len _).symm rfl hk
  · (refine wGo ?_; ((conv => arg 5; whnf); repeat (refine xS ?_; conv => arg 5; whnf)))
    have h1' : i = n := (by (try simp only [ww] at *); omega)
    subst h1'
    refine wD <| cutE <| loopX <| blockX <| cutG <| Tri.of Tryz.mixed Tryz.T_ok ?_
    (refine wBegin ?_; ((conv => arg 5; whnf); repeat (refine xS ?_; conv => arg 5; whnf)))
    exact wD (Ends.made (.inr rfl) (Ent.refl _) rfl (Nat.le_of_ble_eq_true rfl) rfl)
end Go.Proofs.YtnpkdoggfnlapaaGreatDoor
namespace Go.Proofs.YtnpkdoggfnlapaaGreatDoor
set_option maxRecDepth 100000
open Go.Sx
abbrev lvT : TypeId := 177
def lvA (l : LvM) : Nat → List Value := fun i => [.int .i64 ((l.getD i default).1 : Int)]
def lvH (l : LvM) : Nat → List Value := fun i => (l.getD i default).2.cells
def lvMem (l : LvM) : Mem := [(0, .cells lvT [.slc 1 1 0 l.length, .slc 2 8 0 l.length]), (1, .vec 3 1 l.length (lvA l)), (2, .vec 29 8 l.length (lvH l))]
def lvP (l : LvM) : AbsP := packP (lvMem l) True
section
variable {P : Program} {C : Ctx} {cd : Code} {slots : List (Option XV)} {mem : Mem} {nx : Nat} {Q : Exit → St → Prop}
theorem Lv.opens (l : LvM) (c : Nat) (hc : mem.get c = some (.abs (lvP l)))
    (h : Tri P C cd ⟨slots, (c, .cells lvT [.slc (nx + 1) 1 0 l.length, .slc (nx + 2) 8 0 l.length]) :: (nx + 1, .vec 3 1 l.length (lvA l)) :: (nx + 2, .vec 29 8 l.length (lvH l)) :: mem.del c, nx + 3⟩ Q) : Tri P C cd ⟨slots, mem, nx⟩ Q :=
  Tri.opens (M := lvMem l) (m := 3) (inv := True) (c := c) hc rfl fun _ => h
theorem Lv.shuts (l : LvM) (c : Nat) {i1 i2 m1 m2 n1 n2 : Nat} {f g : Nat → List Value}
    (k0 : mem.get c = some (.cells lvT [.slc i1 1 0 m1, .slc i2 8 0 m2])) (k1 : mem.get i1 = some (.vec 3 1 n1 f)) (k2 : mem.get i2 = some (.vec 29 8 n2 g))
    (hids : (Nat.beq c i1 || Nat.beq c i2 || Nat.beq i1 i2) = false) (hm1 : m1 = l.length) (hm2 : m2 = l.length) (hl1 : l.length ≤ n1) (hl2 : l.length ≤ n2) (hf : ∀ i, i < l.length → f i = lvA l i) (hg : ∀ i, i < l.length → g i = lvH l i) :
    Ent C ⟨slots, mem, nx⟩ ⟨slots, (c, .abs (lvP l)) :: mem.dels [c, i1, i2], nx⟩ := by
  subst hm1 hm2
  exact Ent.shut3 (S := ⟨slots, mem, nx⟩) (M := lvMem l) (inv := True) hids trivial rfl rfl rfl rfl k0 k1 k2 rfl ⟨rfl, rfl⟩ ⟨rfl, rfl, hl1, hf⟩ ⟨rfl, rfl, hl2, hg⟩
end
theorem lvA_snoc {l : LvM} {x : Nat × H8} {f : Nat → List Value} {m k : Nat} (hm : m = l.length) (hf : f 0 = [.int .i64 (x.1 : Int)]) (hk : k < m + 1) : joinF (lvA l) m f k = lvA (l ++ [x]) k := by
  subst hm
  simp only [joinF, nblt]
  by_cases h : k < l.length
  · rw [decide_eq_true h, cond_true, lvA, lvA, List.getD_eq_getElem?_getD, List.getD_eq_getElem?_getD, List.getElem?_append_left h]
  · obtain rfl : k = l.length := by omega
    rw [decide_eq_false h, cond_false, Nat.sub_self, hf, lvA]; simp
theorem lvH_snoc {l : LvM} {x : Nat × H8} {f : Nat → List Value} {m k : Nat} (hm : m = l.length) (hf : f 0 = x.2.cells) (hk : k < m + 1) : joinF (lvH l) m f k = lvH (l ++ [x]) k := by
  subst hm
  simp only [joinF, nblt]
  by_cases h : k < l.length
  · rw [decide_eq_true h, cond_true, lvH, lvH, List.getD_eq_getElem?_getD, List.getD_eq_getElem?_getD, List.getElem?_append_left h]
  · obtain rfl : k = l.length := by omega
    rw [decide_eq_false h, cond_false, Nat.sub_self, hf, lvH]; simp
structure PutI (i : Nat) (h : H8) (l : LvM) where
  k : Nat
  acc : LvM
  done : Bool
  le : k ≤ l.length
  eq : putGo i h l (zeroB h) = acc ++ putGo i h (l.drop k) done
  len : acc.length ≤ 2 * k
def putSt (i : Nat) (h : H8) (l : LvM) (k : Nat) (acc : LvM) (done : Bool) : St :=
  ⟨[some (XV.sv (.ptr 0 0 0 0)), some (XV.int .i64 i), none, none, none, some (XV.sv (.ptr 3 0 0 0)), none, some (XV.sv (.slc 6 1 0 acc.length)), some (XV.sv (.slc 7 8 0 acc.length)), some (XV.bool done), some (XV.int .i64 k)] ++ List.replicate 85 none,
   [(0, .cells lvT [.slc 4 1 0 l.length, .slc 5 8 0 l.length]), (3, .cells 29 (h.cells.map .raw)), (4, .vec 3 1 l.length (lvA l)), (5, .vec 29 8 l.length (lvH l)), (6, .vec 3 1 acc.length (lvA acc)), (7, .vec 29 8 acc.length (lvH acc))], 8⟩
set_option maxHeartbeats 4000000 in
theorem put_can2 (l : LvM) (i : Nat) (hi : i < 65536) (h : H8) (hl : l.length ≤ 1000000) : Acts Tryz.prog 96 (.abs (lvP l)) (.abs (lvP (lvPut l i h))) [.plain (.one (.raw (.int .i64 i))), .plain h.x] [] (XV.bool true) := by
  refine Acts.of Tryz.T_ok Tryz.func96 rfl _ _ _ _ _ rfl rfl rfl (fun C hC => ?_)
  (replace hC : C.n0 = 3 := hC; change Tri _ _ _ ⟨_, _, 3⟩ _)
  refine Lv.opens l 0 rfl ?_
  (refine Tri.cut 5 Tryz.mixed Tryz.T_ok ?_; ((conv => arg 5; whnf); repeat (refine xS ?_; conv => arg 5; whnf)))
  (refine wFd ?_ ?_; (first | refine decide_eq_false ?_ | rw [beq_eq_false_iff_ne] | rw [bne_eq_false_iff_eq]); exact (by (try simp only [ww] at *); omega); refine wGo ?_; ((conv => arg 5; whnf); repeat (refine xS ?_; conv => arg 5; whnf)))
  (refine wFd ?_ ?_; (first | refine decide_eq_false ?_ | rw [beq_eq_false_iff_ne] | rw [bne_eq_false_iff_eq]); exact (by (try simp only [ww] at *); omega); refine wGo ?_; ((conv => arg 5; whnf); repeat (refine xS ?_; conv => arg 5; whnf)))
  (apply wP; exact (call_op rfl (entersB_of Tryz.func147 (by kernel_rfl)) rfl ((rzero_can h).at [] ⟨lend_plain rfl, trivial⟩ trivial)); ((conv => arg 5; whnf); repeat (refine xS ?_; conv => arg 5; whnf)))
  refine wD <| cutG <| Tri.ent (Ent.nils (t := 7) rfl 3 1) <| Tri.ent (Ent.nils (t := 8) rfl 29 8) <| Tri.seq ?_
  (refine Tri.cut 1 Tryz.mixed Tryz.T_ok ?_; ((conv => arg 5; whnf); repeat (refine xS ?_; conv => arg 5; whnf)))
  refine wD <| cutG <| Tri.block ?_
  refine Tri.loop (α := PutI i h l) (fun x => putSt i h l x.k x.acc x.done) (fun x => l.length - x.k) ⟨0, [], zeroB h, Nat.zero_le _, rfl, Nat.zero_le _⟩ ?_ ?_
  · unfold putSt
    ((try dsimp only); refine Ent.renC [0, 1, 2, 6, 4, 5, 19, 20] hC ?_ ?_ <;> repeat' (first | exact trivial | exact rfl | exact ⟨_, rfl, rfl, rfl, Nat.le_refl _, fun _ _ => rfl⟩ | exact ⟨_, rfl, rfl, rfl, fun _ _ => rfl⟩ | exact ⟨_, rfl, rfl, rfl⟩ | exact ⟨_, rfl, rfl⟩ | refine ⟨_, rfl, rfl, rfl, by omega, fun k hk => ?_⟩ | refine ⟨?_, ?_⟩ | fail))
    all_goals first | exact Nat.le_refl _ | exact fun k hk => absurd hk (Nat.not_lt_zero _)
  rintro ⟨k, acc, done, hk, hg, hlen⟩
  unfold putSt
  dsimp only
  (refine Tri.cut 1 Tryz.mixed Tryz.T_ok ?_; ((conv => arg 5; whnf); repeat (refine xS ?_; conv => arg 5; whnf)))
  refine wC (fun h1 => ?_) (fun h1 => ?_)
  · (refine wGo ?_; ((conv => arg 5; whnf); repeat (refine xS ?_; conv => arg 5; whnf)))
    have h1' : k < l.length := (by (try simp only [ww] at *); omega)
    have hw : IntKind.i64.wrap ((k : Int) + 1) = ((k + 1 : Nat) : Int) := (by (try simp only [ww] at *); omega)
    obtain ⟨x, hx⟩ : ∃ x, l.getD k default = x := ⟨_, rfl⟩
    rw [dropD_cons h1', hx] at hg
    obtain ⟨a, z⟩ := x
    rw [putGo, ← List.append_assoc] at hg
    obtain ⟨acc1, hacc⟩ : ∃ acc1, acc ++ (if (!done && decide (i ≤ a)) = true then [(i, h)] else []) = acc1 := ⟨_, rfl⟩
    rw [hacc, ← List.append_assoc] at hg
    have hl1 : acc1.length ≤ 2 * k + 1 := by
      rw [← hacc, List.length_append]
      split <;> simp <;> omega
    refine wD <| cutG <| Tri.seq <| Tri.block <| Tri.merge (putSt i h l k acc1 (done || decide (i ≤ a))) (Tri.of Tryz.mixed Tryz.T_ok ?_) ?_
    · have hd0 : (!done && decide (i ≤ a)) = false → acc1 = acc ∧ (done || decide (i ≤ a)) = done := fun h0 => by
        refine ⟨by rw [← hacc, if_neg (by rw [h0]; simp), List.append_nil], ?_⟩
        cases done <;> simp_all
      (refine wBegin ?_; ((conv => arg 5; whnf); repeat (refine xS ?_; conv => arg 5; whnf)))
      refine wC (fun h2 => ?_) (fun h2 => ?_)
      · (refine wGo ?_; ((conv => arg 5; whnf); repeat (refine xS ?_; conv => arg 5; whnf)))
        (repeat (refine wN ?_ ?_; exact (by (try simp only [ww] at *); omega); refine wGo ?_; ((conv => arg 5; whnf); repeat (refine xS ?_; conv => arg 5; whnf))))
        simp only [Nat.zero_add, Int.toNat_natCast, hx]
        refine wC (fun h3 => ?_) (fun h3 => ?_)
        · have h3' : decide (i ≤ a) = true := decide_eq_true (by simp only [decide_eq_true_eq] at h3; omega)
          have hdn : done = false := by simpa using h2
          obtain rfl : acc1 = acc ++ [(i, h)] := by rw [← hacc, if_pos (by rw [h2, h3']; rfl)]
          (refine wGo ?_; ((conv => arg 5; whnf); repeat (refine xS ?_; conv => arg 5; whnf)))
          (refine wP _ _ (append_op Tryz.T_ok rfl rfl rfl rfl rfl [6, 30] (old_vec rfl rfl (Nat.le_refl _) rfl) (new_vec (lo := 0) rfl rfl (Nat.le_refl _) rfl) rfl (lt1 rfl) (by simp only [maxLen]; omega) (by dsimp only; omega)) ?_; ((conv => arg 5; whnf); repeat (refine xS ?_; conv => arg 5; whnf)))
          (refine wP _ _ (append_op Tryz.T_ok rfl rfl rfl rfl rfl [7, 34] (old_vec rfl rfl (Nat.le_refl _) rfl) (new_vec (lo := 0) rfl rfl (Nat.le_refl _) rfl) rfl (lt1 rfl) (by simp only [maxLen]; omega) (by dsimp only; omega)) ?_; ((conv => arg 5; whnf); repeat (refine xS ?_; conv => arg 5; whnf)))
          refine wD ⟨rfl, ?_⟩
          unfold putSt
          rw [h3', Bool.or_true, List.length_append]
          ((try dsimp only); refine Ent.renC [0, 1, 2, 3, 4, 5, 31, 35] hC ?_ ?_ <;> repeat' (first | exact trivial | exact rfl | exact ⟨_, rfl, rfl, rfl, Nat.le_refl _, fun _ _ => rfl⟩ | exact ⟨_, rfl, rfl, rfl, fun _ _ => rfl⟩ | exact ⟨_, rfl, rfl, rfl⟩ | exact ⟨_, rfl, rfl⟩ | refine ⟨_, rfl, rfl, rfl, by omega, fun k hk => ?_⟩ | refine ⟨?_, ?_⟩ | fail))
          · exact Nat.le_refl _
          · exact fun j hj => lvA_snoc rfl rfl hj
          · exact Nat.le_refl _
          · exact fun j hj => lvH_snoc rfl rfl hj
        · obtain ⟨rfl, hd1⟩ := hd0 (by rw [decide_eq_false (by simp only [decide_eq_false_iff_not] at h3; omega), Bool.and_false])
          (refine wGo ?_; ((conv => arg 5; whnf); repeat (refine xS ?_; conv => arg 5; whnf)))
          refine wD ⟨rfl, ?_⟩
          rw [hd1]
          unfold putSt
          ((try dsimp only); refine Ent.renC [0, 1, 2, 3, 4, 5, 6, 7] hC ?_ ?_ <;> repeat' (first | exact trivial | exact rfl | exact ⟨_, rfl, rfl, rfl, Nat.le_refl _, fun _ _ => rfl⟩ | exact ⟨_, rfl, rfl, rfl, fun _ _ => rfl⟩ | exact ⟨_, rfl, rfl, rfl⟩ | exact ⟨_, rfl, rfl⟩ | refine ⟨_, rfl, rfl, rfl, by omega, fun k hk => ?_⟩ | refine ⟨?_, ?_⟩ | fail))
      · obtain ⟨rfl, hd1⟩ := hd0 (by rw [h2, Bool.false_and])
        (refine wGo ?_; ((conv => arg 5; whnf); repeat (refine xS ?_; conv => arg 5; whnf)))
        refine wD ⟨rfl, ?_⟩
        rw [hd1]
        unfold putSt
        ((try dsimp only); refine Ent.renC [0, 1, 2, 3, 4, 5, 6, 7] hC ?_ ?_ <;> repeat' (first | exact trivial | exact rfl | exact ⟨_, rfl, rfl, rfl, Nat.le_refl _, fun _ _ => rfl⟩ | exact ⟨_, rfl, rfl, rfl, fun _ _ => rfl⟩ | exact ⟨_, rfl, rfl, rfl⟩ | exact ⟨_, rfl, rfl⟩ | refine ⟨_, rfl, rfl, rfl, by omega, fun k hk => ?_⟩ | refine ⟨?_, ?_⟩ | fail))
    · generalize (done || decide (i ≤ a)) = done1 at hg ⊢
      unfold putSt
      refine Tri.of Tryz.mixed Tryz.T_ok ?_
      (refine wBegin ?_; ((conv => arg 5; whnf); repeat (refine xS ?_; conv => arg 5; whnf)))
      (repeat (refine wN ?_ ?_; exact (by (try simp only [ww] at *); omega); refine wGo ?_; ((conv => arg 5; whnf); repeat (refine xS ?_; conv => arg 5; whnf))))
      simp only [Nat.zero_add, Int.toNat_natCast, hx]
      refine wC (fun h2 => ?_) (fun h2 => ?_)
      · have hne : ¬ a = i := by simp only [bne_iff_ne, ne_eq] at h2; omega
        rw [if_neg hne] at hg
        (refine wGo ?_; ((conv => arg 5; whnf); repeat (refine xS ?_; conv => arg 5; whnf)))
        (repeat (refine wN ?_ ?_; exact (by (try simp only [ww] at *); omega); refine wGo ?_; ((conv => arg 5; whnf); repeat (refine xS ?_; conv => arg 5; whnf))))
        simp only [Nat.zero_add, Int.toNat_natCast, hx]
        (refine wP _ _ (append_op Tryz.T_ok rfl rfl rfl rfl rfl [6, 25] (old_vec rfl rfl (Nat.le_refl _) rfl) (new_vec (lo := 0) rfl rfl (Nat.le_refl _) rfl) rfl (lt1 rfl) (by simp only [maxLen]; omega) (by dsimp only; omega)) ?_; ((conv => arg 5; whnf); repeat (refine xS ?_; conv => arg 5; whnf)))
        (repeat (refine wN ?_ ?_; exact (by (try simp only [ww] at *); omega); refine wGo ?_; ((conv => arg 5; whnf); repeat (refine xS ?_; conv => arg 5; whnf))))
        simp only [Nat.zero_add, Int.toNat_natCast, hx]
        (refine wP _ _ (append_op Tryz.T_ok rfl rfl rfl rfl rfl [7, 35] (old_vec rfl rfl (Nat.le_refl _) rfl) (new_vec (lo := 0) rfl rfl (Nat.le_refl _) rfl) rfl (lt1 rfl) (by simp only [maxLen]; omega) (by dsimp only; omega)) ?_; ((conv => arg 5; whnf); repeat (refine xS ?_; conv => arg 5; whnf)))
        refine wD <| blockN <| cutG <| Tri.of Tryz.mixed Tryz.T_ok ?_
        (refine wBegin ?_; ((conv => arg 5; whnf); repeat (refine xS ?_; conv => arg 5; whnf)))
        refine wD <| loopN ⟨⟨k + 1, acc1 ++ [(a, z)], done1, h1', hg, by rw [List.length_append]; simp only [List.length_singleton]; omega⟩, by dsimp only; omega, ?_⟩
        rw [hw]
        dsimp only
        rw [List.length_append]
        ((try dsimp only); refine Ent.renC [0, 1, 2, 3, 4, 5, 26, 36] hC ?_ ?_ <;> repeat' (first | exact trivial | exact rfl | exact ⟨_, rfl, rfl, rfl, Nat.le_refl _, fun _ _ => rfl⟩ | exact ⟨_, rfl, rfl, rfl, fun _ _ => rfl⟩ | exact ⟨_, rfl, rfl, rfl⟩ | exact ⟨_, rfl, rfl⟩ | refine ⟨_, rfl, rfl, rfl, by omega, fun k hk => ?_⟩ | refine ⟨?_, ?_⟩ | fail))
        · exact Nat.le_refl _
        · exact fun j hj => lvA_snoc rfl rfl hj
        · exact Nat.le_refl _
        · exact fun j hj => lvH_snoc rfl rfl hj
      · have hne : a = i := by simp only [bne_eq_false_iff_eq] at h2; omega
        rw [if_pos hne, List.append_nil] at hg
        (refine wGo ?_; ((conv => arg 5; whnf); repeat (refine xS ?_; conv => arg 5; whnf)))
        refine wD <| blockN <| cutG <| Tri.of Tryz.mixed Tryz.T_ok ?_
        (refine wBegin ?_; ((conv => arg 5; whnf); repeat (refine xS ?_; conv => arg 5; whnf)))
        refine wD <| loopN ⟨⟨k + 1, acc1, done1, h1', hg, by omega⟩, by dsimp only; omega, ?_⟩
        rw [hw]
        ((try dsimp only); refine Ent.renC [0, 1, 2, 3, 4, 5, 6, 7] hC ?_ ?_ <;> repeat' (first | exact trivial | exact rfl | exact ⟨_, rfl, rfl, rfl, Nat.le_refl _, fun _ _ => rfl⟩ | exact ⟨_, rfl, rfl, rfl, fun _ _ => rfl⟩ | exact ⟨_, rfl, rfl, rfl⟩ | exact ⟨_, rfl, rfl⟩ | refine ⟨_, rfl, rfl, rfl, by omega, fun k hk => ?_⟩ | refine ⟨?_, ?_⟩ | fail))
  · (refine wGo ?_; ((conv => arg 5; whnf); repeat (refine xS ?_; conv => arg 5; whnf)))
    have h1' : k = l.length := (by (try simp only [ww] at *); omega)
    subst h1'
    rw [List.drop_length, putGo] at hg
    refine wD <| cutE <| loopX <| blockX <| cutG <| Tri.of Tryz.mixed Tryz.T_ok ?_
    have hput : lvPut l i h = acc ++ (if done = true then [] else [(i, h)]) := hg
    (refine wBegin ?_; ((conv => arg 5; whnf); repeat (refine xS ?_; conv => arg 5; whnf)))
    refine wC (fun h2 => ?_) (fun h2 => ?_)
    · have hdn : done = false := by simpa using h2
      subst hdn
      rw [if_neg (by simp)] at hput
      (refine wGo ?_; ((conv => arg 5; whnf); repeat (refine xS ?_; conv => arg 5; whnf)))
      (refine wP _ _ (append_op Tryz.T_ok rfl rfl rfl rfl rfl [6, 19] (old_vec rfl rfl (Nat.le_refl _) rfl) (new_vec (lo := 0) rfl rfl (Nat.le_refl _) rfl) rfl (lt1 rfl) (by simp only [maxLen]; omega) (by dsimp only; omega)) ?_; ((conv => arg 5; whnf); repeat (refine xS ?_; conv => arg 5; whnf)))
      (refine wP _ _ (append_op Tryz.T_ok rfl rfl rfl rfl rfl [7, 23] (old_vec rfl rfl (Nat.le_refl _) rfl) (new_vec (lo := 0) rfl rfl (Nat.le_refl _) rfl) rfl (lt1 rfl) (by simp only [maxLen]; omega) (by dsimp only; omega)) ?_; ((conv => arg 5; whnf); repeat (refine xS ?_; conv => arg 5; whnf)))
      rw [hput]
      have hln : (acc ++ [(i, h)]).length = acc.length + 1 := by simp
      exact wD (Ends.shutN (.inr rfl) (Lv.shuts (acc ++ [(i, h)]) 0 (i1 := 20) (i2 := 24) rfl rfl rfl rfl hln.symm hln.symm (Nat.le_of_eq hln) (Nat.le_of_eq hln) (fun j hj => lvA_snoc rfl rfl (by omega)) (fun j hj => lvH_snoc rfl rfl (by omega))) rfl rfl rfl)
    · have hdn : done = true := by simpa using h2
      subst hdn
      rw [if_pos rfl, List.append_nil] at hput
      (refine wGo ?_; ((conv => arg 5; whnf); repeat (refine xS ?_; conv => arg 5; whnf)))
      rw [hput]
      exact wD (Ends.shutN (.inr rfl) (Lv.shuts acc 0 (i1 := 6) (i2 := 7) rfl rfl rfl rfl rfl rfl (Nat.le_refl _) (Nat.le_refl _) (fun _ _ => rfl) (fun _ _ => rfl)) rfl rfl rfl)
end Go.Proofs.YtnpkdoggfnlapaaGreatDoor
namespace Go.Proofs.YtnpkdoggfnlapaaGreatDoor
set_option maxRecDepth 100000
open Go.Sx
def getSt (l : LvM) (i : Nat) (k : Nat) : St :=
  ⟨[some (XV.sv (.ptr 0 0 0 0)), some (XV.int .i64 i), none, none, some (XV.sv (.ptr 4 0 0 0)), some (XV.int .i64 k)] ++ List.replicate 26 none,
   [(0, .cells lvT [.slc 2 1 0 l.length, .slc 3 8 0 l.length]), (2, .vec 3 1 l.length (lvA l)), (3, .vec 29 8 l.length (lvH l)), (4, .cells 29 (zeroH.cells.map .raw))], 5⟩
set_option maxHeartbeats 2000000 in
theorem get_can (l : LvM) (i : Nat) (hl : l.length ≤ 1000000) : Acts Tryz.prog 152 (.abs (lvP l)) (.abs (lvP l)) [.plain (.one (.raw (.int .i64 i)))] [] (hashX (lvGet l i)) := by
  refine Acts.of Tryz.T_ok Tryz.func152 rfl _ _ _ _ _ rfl rfl rfl (fun C hC => ?_)
  (replace hC : C.n0 = 2 := hC; change Tri _ _ _ ⟨_, _, 2⟩ _)
  refine Lv.opens l 0 rfl ?_
  (refine Tri.cut 1 Tryz.mixed Tryz.T_ok ?_; ((conv => arg 5; whnf); repeat (refine xS ?_; conv => arg 5; whnf)))
  refine wD <| cutG <| Tri.seq ?_
  (refine Tri.cut 1 Tryz.mixed Tryz.T_ok ?_; ((conv => arg 5; whnf); repeat (refine xS ?_; conv => arg 5; whnf)))
  refine wD <| cutG <| Tri.block ?_
  refine Tri.loop (α := { k : Nat // k ≤ l.length ∧ lvGet l i = lvGet (l.drop k) i }) (fun k => getSt l i k.1) (fun k => l.length - k.1) ⟨0, Nat.zero_le _, rfl⟩ ?_ ?_
  · unfold getSt
    ((try dsimp only); refine Ent.renC [0, 1, 3, 4, 5] hC ?_ ?_ <;> repeat' (first | exact trivial | exact rfl | exact ⟨_, rfl, rfl, rfl, Nat.le_refl _, fun _ _ => rfl⟩ | exact ⟨_, rfl, rfl, rfl, fun _ _ => rfl⟩ | exact ⟨_, rfl, rfl, rfl⟩ | exact ⟨_, rfl, rfl⟩ | refine ⟨_, rfl, rfl, rfl, by omega, fun k hk => ?_⟩ | refine ⟨?_, ?_⟩ | fail))
  rintro ⟨k, hk, hg⟩
  unfold getSt
  dsimp only
  (refine Tri.cut 1 Tryz.mixed Tryz.T_ok ?_; ((conv => arg 5; whnf); repeat (refine xS ?_; conv => arg 5; whnf)))
  refine wC (fun h1 => ?_) (fun h1 => ?_)
  · (refine wGo ?_; ((conv => arg 5; whnf); repeat (refine xS ?_; conv => arg 5; whnf)))
    have h1' : k < l.length := (by (try simp only [ww] at *); omega)
    have hw : IntKind.i64.wrap ((k : Int) + 1) = ((k + 1 : Nat) : Int) := (by (try simp only [ww] at *); omega)
    obtain ⟨x, hx⟩ : ∃ x, l.getD k default = x := ⟨_, rfl⟩
    rw [dropD_cons h1', hx] at hg
    obtain ⟨a, z⟩ := x
    rw [lvGet] at hg
    refine wD <| cutG <| Tri.seq <| Tri.block <| Tri.of Tryz.mixed Tryz.T_ok ?_
    (refine wBegin ?_; ((conv => arg 5; whnf); repeat (refine xS ?_; conv => arg 5; whnf)))
    (repeat (refine wN ?_ ?_; exact (by (try simp only [ww] at *); omega); refine wGo ?_; ((conv => arg 5; whnf); repeat (refine xS ?_; conv => arg 5; whnf))))
    simp only [Nat.zero_add, Int.toNat_natCast, hx]
    refine wC (fun h2 => ?_) (fun h2 => ?_)
    · rw [if_pos (by simp only [beq_iff_eq] at h2; omega)] at hg
      (refine wGo ?_; ((conv => arg 5; whnf); repeat (refine xS ?_; conv => arg 5; whnf)))
      (repeat (refine wN ?_ ?_; exact (by (try simp only [ww] at *); omega); refine wGo ?_; ((conv => arg 5; whnf); repeat (refine xS ?_; conv => arg 5; whnf))))
      simp only [Nat.zero_add, Int.toNat_natCast, hx]
      refine wD <| blockR <| cutR <| loopR <| blockR <| cutR ?_
      rw [hg]
      exact Ends.shutN (.inr rfl) (Lv.shuts l 0 (i1 := 2) (i2 := 3) rfl rfl rfl rfl rfl rfl (Nat.le_refl _) (Nat.le_refl _) (fun _ _ => rfl) (fun _ _ => rfl)) rfl rfl rfl
    · rw [if_neg (by simp only [beq_eq_false_iff_ne] at h2; omega)] at hg
      (refine wGo ?_; ((conv => arg 5; whnf); repeat (refine xS ?_; conv => arg 5; whnf)))
      refine wD <| blockN <| cutG <| Tri.of Tryz.mixed Tryz.T_ok ?_
      (refine wBegin ?_; ((conv => arg 5; whnf); repeat (refine xS ?_; conv => arg 5; whnf)))
      refine wD <| loopN ⟨⟨k + 1, h1', hg⟩, by dsimp only; omega, ?_⟩
      rw [hw]
      ((try dsimp only); refine Ent.renC [0, 1, 2, 3, 4] hC ?_ ?_ <;> repeat' (first | exact trivial | exact rfl | exact ⟨_, rfl, rfl, rfl, Nat.le_refl _, fun _ _ => rfl⟩ | exact ⟨_, rfl, rfl, rfl, fun _ _ => rfl⟩ | exact ⟨_, rfl, rfl, rfl⟩ | exact ⟨_, rfl, rfl⟩ | refine ⟨_, rfl, rfl, rfl, by omega, fun k hk => ?_⟩ | refine ⟨?_, ?_⟩ | fail))
  · (refine wGo ?_; ((conv => arg 5; whnf); repeat (refine xS ?_; conv => arg 5; whnf)))
    have h1' : k = l.length := (by (try simp only [ww] at *); omega)
    subst h1'
    rw [List.drop_length, lvGet] at hg
    refine wD <| cutE <| loopX <| blockX <| cutG <| Tri.of Tryz.mixed Tryz.T_ok ?_
    rw [hg]
    (refine wBegin ?_; ((conv => arg 5; whnf); repeat (refine xS ?_; conv => arg 5; whnf)))
    exact wD (Ends.shutN (.inr rfl) (Lv.shuts l 0 (i1 := 2) (i2 := 3) rfl rfl rfl rfl rfl rfl (Nat.le_refl _) (Nat.le_refl _) (fun _ _ => rfl) (fun _ _ => rfl)) rfl rfl rfl)
theorem shl_nat (x k n : Nat) (hk : k < 64) (h : x * 2 ^ k = n) (hn : n < 9223372036854775808) : shlI .i64 (x : Int) (k : Int) = (n : Int) := by
  have e : min ((k : Int).toNat) IntKind.i64.bits = k := by rw [Int.toNat_natCast]; exact Nat.min_eq_left (Nat.le_of_lt hk)
  rw [shlI, e]
  have e2 : (x : Int) * 2 ^ k = (n : Int) := by rw [← h]; simp
  rw [e2]
  exact (by (try simp only [ww] at *); omega)
theorem shl_one {k : Nat} (hk : k ≤ 16) : shlI .i64 1 (k : Int) = ((2 ^ k : Nat) : Int) := by
  have h1 : 2 ^ k ≤ 2 ^ 16 := Nat.pow_le_pow_right (by decide) hk
  exact shl_nat 1 k (2 ^ k) (by omega) (Nat.one_mul _) (by omega)
def inR (f k : Nat) (x : Nat × H8) : Bool := decide (f ≤ x.1) && decide (x.1 < f + 2 ^ k)
theorem someIn_eq (l : LvM) (f k : Nat) : someIn l f k = l.any (inR f k) := rfl
def Placed (l : LvM) : Prop := ∀ x ∈ l, x.1 < 65536
def nodeSt (l : LvM) (f k : Nat) (j : Nat) (b : Bool) : St :=
  ⟨[some (XV.sv (.ptr 0 0 0 0)), some (XV.int .i64 f), some (XV.int .i64 k), none, none, none, some (XV.sv (.ptr 5 0 0 0)), some (XV.bool b), some (XV.int .i64 j)] ++ List.replicate 64 none,
   [(0, .cells lvT [.slc 3 1 0 l.length, .slc 4 8 0 l.length]), (3, .vec 3 1 l.length (lvA l)), (4, .vec 29 8 l.length (lvH l)), (5, .cells 29 (zeroH.cells.map .raw))], 6⟩
theorem nodeH_none {l : LvM} {f k : Nat} (h : someIn l f k = false) : nodeH l f k = zeroH := by
  cases k with
  | zero => rw [nodeH, if_neg (by rw [h]; simp)]
  | succ k => rw [nodeH, if_neg (by rw [h]; simp)]
set_option maxHeartbeats 4000000 in
theorem node_can (l : LvM) (hl : l.length ≤ 1000000) (hp : Placed l) : ∀ (k : Nat), k ≤ 16 → ∀ (f : Nat), f + 2 ^ k ≤ 131072 → Acts Tryz.prog 97 (.abs (lvP l)) (.abs (lvP l)) [.plain (.one (.raw (.int .i64 f))), .plain (.one (.raw (.int .i64 k)))] [] (hashX (nodeH l f k)) := by
  intro k
  induction k using Nat.strongRecOn with
  | ind k ih =>
  intro hk16 f hf
  have hpk := Nat.two_pow_pos k
  refine Acts.of Tryz.T_ok Tryz.func97 rfl _ _ _ _ _ rfl rfl rfl (fun C hC => ?_)
  (replace hC : C.n0 = 3 := hC; change Tri _ _ _ ⟨_, _, 3⟩ _)
  refine Lv.opens l 0 rfl ?_
  (refine Tri.cut 2 Tryz.mixed Tryz.T_ok ?_; ((conv => arg 5; whnf); repeat (refine xS ?_; conv => arg 5; whnf)))
  refine wD <| cutG <| Tri.seq ?_
  (refine Tri.cut 1 Tryz.mixed Tryz.T_ok ?_; ((conv => arg 5; whnf); repeat (refine xS ?_; conv => arg 5; whnf)))
  refine wD <| cutG <| Tri.block ?_
  refine Tri.loop (α := { j : Nat // j ≤ l.length }) (fun j => nodeSt l f k j.1 ((l.take j.1).any (inR f k))) (fun j => l.length - j.1) ⟨0, Nat.zero_le _⟩ ?_ ?_
  · unfold nodeSt
    ((try dsimp only); refine Ent.renC [0, 1, 2, 4, 5, 6] hC ?_ ?_ <;> repeat' (first | exact trivial | exact rfl | exact ⟨_, rfl, rfl, rfl, Nat.le_refl _, fun _ _ => rfl⟩ | exact ⟨_, rfl, rfl, rfl, fun _ _ => rfl⟩ | exact ⟨_, rfl, rfl, rfl⟩ | exact ⟨_, rfl, rfl⟩ | refine ⟨_, rfl, rfl, rfl, by omega, fun k hk => ?_⟩ | refine ⟨?_, ?_⟩ | fail))
  rintro ⟨j, hj⟩
  unfold nodeSt
  dsimp only
  (refine Tri.cut 1 Tryz.mixed Tryz.T_ok ?_; ((conv => arg 5; whnf); repeat (refine xS ?_; conv => arg 5; whnf)))
  refine wC (fun h1 => ?_) (fun h1 => ?_)
  · (refine wGo ?_; ((conv => arg 5; whnf); repeat (refine xS ?_; conv => arg 5; whnf)))
    have h1' : j < l.length := (by (try simp only [ww] at *); omega)
    have hw : IntKind.i64.wrap ((j : Int) + 1) = ((j + 1 : Nat) : Int) := (by (try simp only [ww] at *); omega)
    have hs := any_take_succ' (p := inR f k) h1'
    obtain ⟨x, hx⟩ : ∃ x, l.getD j default = x := ⟨_, rfl⟩
    rw [hx] at hs
    obtain ⟨a, z⟩ := x
    have ha : a < 65536 := hp (a, z) (by rw [← hx, List.getD_eq_getElem?_getD, List.getElem?_eq_getElem h1']; exact List.getElem_mem h1')
    have hu : IntKind.u64.wrap (k : Int) = (k : Int) := (by (try simp only [ww] at *); omega)
    have hadd : IntKind.i64.wrap ((f : Int) + ((2 ^ k : Nat) : Int)) = ((f + 2 ^ k : Nat) : Int) := by rw [IntKind.wrap_i64]; omega
    refine wD <| cutG <| Tri.seq <| Tri.block <| Tri.of Tryz.mixed Tryz.T_ok ?_
    (refine wBegin ?_; ((conv => arg 5; whnf); repeat (refine xS ?_; conv => arg 5; whnf)))
    refine wC (fun h2 => ?_) (fun h2 => ?_)
    · rw [h2, Bool.true_or] at hs
      (refine wGo ?_; ((conv => arg 5; whnf); repeat (refine xS ?_; conv => arg 5; whnf)))
      refine wD <| blockN <| cutG <| Tri.of Tryz.mixed Tryz.T_ok ?_
      (refine wBegin ?_; ((conv => arg 5; whnf); repeat (refine xS ?_; conv => arg 5; whnf)))
      refine wD <| loopN ⟨⟨j + 1, h1'⟩, by dsimp only; omega, ?_⟩
      rw [hw]
      dsimp only
      rw [hs]
      ((try dsimp only); refine Ent.renC [0, 1, 2, 3, 4, 5] hC ?_ ?_ <;> repeat' (first | exact trivial | exact rfl | exact ⟨_, rfl, rfl, rfl, Nat.le_refl _, fun _ _ => rfl⟩ | exact ⟨_, rfl, rfl, rfl, fun _ _ => rfl⟩ | exact ⟨_, rfl, rfl, rfl⟩ | exact ⟨_, rfl, rfl⟩ | refine ⟨_, rfl, rfl, rfl, by omega, fun k hk => ?_⟩ | refine ⟨?_, ?_⟩ | fail))
    rw [h2, Bool.false_or] at hs
    (refine wGo ?_; ((conv => arg 5; whnf); repeat (refine xS ?_; conv => arg 5; whnf)))
    (repeat (refine wN ?_ ?_; exact (by (try simp only [ww] at *); omega); refine wGo ?_; ((conv => arg 5; whnf); repeat (refine xS ?_; conv => arg 5; whnf))))
    simp only [Nat.zero_add, Int.toNat_natCast, hx]
    refine wC (fun h3 => ?_) (fun h3 => ?_)
    · have h3' : f ≤ a := by simp only [decide_eq_true_eq] at h3; omega
      (refine wGo ?_; ((conv => arg 5; whnf); repeat (refine xS ?_; conv => arg 5; whnf)))
      (repeat (refine wN ?_ ?_; exact (by (try simp only [ww] at *); omega); refine wGo ?_; ((conv => arg 5; whnf); repeat (refine xS ?_; conv => arg 5; whnf))))
      simp only [Nat.zero_add, Int.toNat_natCast, hx, hu]
      (repeat (refine wN ?_ ?_; exact (by (try simp only [ww] at *); omega); refine wGo ?_; ((conv => arg 5; whnf); repeat (refine xS ?_; conv => arg 5; whnf))))
      simp only [shl_one hk16, hadd]
      refine wD <| blockN <| cutG <| Tri.of Tryz.mixed Tryz.T_ok ?_
      (refine wBegin ?_; ((conv => arg 5; whnf); repeat (refine xS ?_; conv => arg 5; whnf)))
      refine wD <| loopN ⟨⟨j + 1, h1'⟩, by dsimp only; omega, ?_⟩
      rw [hw]
      dsimp only
      rw [hs, show inR f k (a, z) = decide ((a : Int) < ((f + 2 ^ k : Nat) : Int)) by
        rw [inR, decide_eq_true h3', Bool.true_and, Bool.eq_iff_iff, decide_eq_true_eq, decide_eq_true_eq]; dsimp only; omega]
      ((try dsimp only); refine Ent.renC [0, 1, 2, 3, 4, 5] hC ?_ ?_ <;> repeat' (first | exact trivial | exact rfl | exact ⟨_, rfl, rfl, rfl, Nat.le_refl _, fun _ _ => rfl⟩ | exact ⟨_, rfl, rfl, rfl, fun _ _ => rfl⟩ | exact ⟨_, rfl, rfl, rfl⟩ | exact ⟨_, rfl, rfl⟩ | refine ⟨_, rfl, rfl, rfl, by omega, fun k hk => ?_⟩ | refine ⟨?_, ?_⟩ | fail))
    · have h3' : ¬ f ≤ a := by simp only [decide_eq_false_iff_not] at h3; omega
      (refine wGo ?_; ((conv => arg 5; whnf); repeat (refine xS ?_; conv => arg 5; whnf)))
      refine wD <| blockN <| cutG <| Tri.of Tryz.mixed Tryz.T_ok ?_
      (refine wBegin ?_; ((conv => arg 5; whnf); repeat (refine xS ?_; conv => arg 5; whnf)))
      refine wD <| loopN ⟨⟨j + 1, h1'⟩, by dsimp only; omega, ?_⟩
      rw [hw]
      dsimp only
      rw [hs, show inR f k (a, z) = false by rw [inR, decide_eq_false h3', Bool.false_and]]
      ((try dsimp only); refine Ent.renC [0, 1, 2, 3, 4, 5] hC ?_ ?_ <;> repeat' (first | exact trivial | exact rfl | exact ⟨_, rfl, rfl, rfl, Nat.le_refl _, fun _ _ => rfl⟩ | exact ⟨_, rfl, rfl, rfl, fun _ _ => rfl⟩ | exact ⟨_, rfl, rfl, rfl⟩ | exact ⟨_, rfl, rfl⟩ | refine ⟨_, rfl, rfl, rfl, by omega, fun k hk => ?_⟩ | refine ⟨?_, ?_⟩ | fail))
  · (refine wGo ?_; ((conv => arg 5; whnf); repeat (refine xS ?_; conv => arg 5; whnf)))
    have h1' : j = l.length := (by (try simp only [ww] at *); omega)
    subst h1'
    rw [List.take_length, ← someIn_eq]
    refine wD <| cutE <| loopX <| blockX <| cutG <| Tri.ent (Lv.shuts l 0 (i1 := 3) (i2 := 4) rfl rfl rfl rfl rfl rfl (Nat.le_refl _) (Nat.le_refl _) (fun _ _ => rfl) (fun _ _ => rfl)) (Tri.of Tryz.mixed Tryz.T_ok ?_)
    (refine wBegin ?_; ((conv => arg 5; whnf); repeat (refine xS ?_; conv => arg 5; whnf)))
    refine wC (fun h2 => ?_) (fun h2 => ?_)
    · (refine wGo ?_; ((conv => arg 5; whnf); repeat (refine xS ?_; conv => arg 5; whnf)))
      refine wD ?_
      rw [nodeH_none (by simpa using h2)]
      exact Ends.shutN (.inr rfl) (Ent.refl _) rfl rfl rfl
    have hsome : someIn l f k = true := by simpa using h2
    (refine wGo ?_; ((conv => arg 5; whnf); repeat (refine xS ?_; conv => arg 5; whnf)))
    refine wC (fun h3 => ?_) (fun h3 => ?_)
    · obtain rfl : k = 0 := by simp only [beq_iff_eq] at h3; omega
      (refine wGo ?_; ((conv => arg 5; whnf); repeat (refine xS ?_; conv => arg 5; whnf)))
      (apply wP; exact (call_op rfl (entersB_of Tryz.func152 (by kernel_rfl)) rfl ((get_can l f hl).at [] rfl rfl rfl ⟨lend_plain rfl, trivial⟩ trivial)); ((conv => arg 5; whnf); repeat (refine xS ?_; conv => arg 5; whnf)))
      refine wD ?_
      rw [nodeH, if_pos hsome]
      exact Ends.shutN (.inr rfl) (Ent.refl _) rfl rfl rfl
    · obtain ⟨m, rfl⟩ : ∃ m, k = m + 1 := ⟨k - 1, by simp only [beq_eq_false_iff_ne] at h3; omega⟩
      have hpm : 2 ^ (m + 1) = 2 ^ m + 2 ^ m := by rw [Nat.pow_succ]; omega
      have hpm0 := Nat.two_pow_pos m
      have hm1 : IntKind.i64.wrap (((m + 1 : Nat) : Int) - 1) = (m : Int) := (by (try simp only [ww] at *); omega)
      have hu : IntKind.u64.wrap (m : Int) = (m : Int) := (by (try simp only [ww] at *); omega)
      have hadd : IntKind.i64.wrap ((f : Int) + ((2 ^ m : Nat) : Int)) = ((f + 2 ^ m : Nat) : Int) := by rw [IntKind.wrap_i64]; omega
      (refine wGo ?_; ((conv => arg 5; whnf); repeat (refine xS ?_; conv => arg 5; whnf)))
      simp only [hm1]
      (apply wP; exact (call_op rfl (entersB_of Tryz.func97 (by kernel_rfl)) rfl ((ih m (Nat.lt_succ_self m) (by omega) f (by omega)).at [] rfl rfl rfl ⟨lend_plain rfl, lend_plain rfl, trivial⟩ trivial)); ((conv => arg 5; whnf); repeat (refine xS ?_; conv => arg 5; whnf)))
      simp only [hm1, hu]
      (repeat (refine wN ?_ ?_; exact (by (try simp only [ww] at *); omega); refine wGo ?_; ((conv => arg 5; whnf); repeat (refine xS ?_; conv => arg 5; whnf))))
      simp only [shl_one (show m ≤ 16 by omega), hadd, hm1]
      (apply wP; exact (call_op rfl (entersB_of Tryz.func97 (by kernel_rfl)) rfl ((ih m (Nat.lt_succ_self m) (by omega) (f + 2 ^ m) (by omega)).at [] rfl rfl rfl ⟨lend_plain rfl, lend_plain rfl, trivial⟩ trivial)); ((conv => arg 5; whnf); repeat (refine xS ?_; conv => arg 5; whnf)))
      (apply wP; exact (call_op rfl (entersB_of Tryz.func148 (by kernel_rfl)) rfl ((rover_can (nodeH l f m) (nodeH l (f + 2 ^ m) m)).at [] ⟨lend_plain rfl, lend_plain rfl, trivial⟩ trivial)); ((conv => arg 5; whnf); repeat (refine xS ?_; conv => arg 5; whnf)))
      refine wD ?_
      rw [nodeH, if_pos hsome]
      exact Ends.shutN (.inr rfl) (Ent.refl _) rfl rfl rfl
end Go.Proofs.YtnpkdoggfnlapaaGreatDoor

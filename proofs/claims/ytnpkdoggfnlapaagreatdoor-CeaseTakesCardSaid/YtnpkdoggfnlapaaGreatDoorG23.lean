/- Parts Yo Yp Yq Ys. -/
import Derived.Test.YtnpkdoggfnlapaaGreatDoorG22
import Derived.Test.YtnpkdoggfnlapaaGreatDoorG20
set_option linter.unusedSimpArgs false
set_option linter.unusedVariables false
namespace Go.Proofs.YtnpkdoggfnlapaaGreatDoor
set_option maxRecDepth 100000
open Go.Sx
abbrev lvT : TypeId := 177
def lvA (l : LvM) : Nat → List Value := fun i => [.int .i64 ((l.getD i default).1 : Int)]
def lvH (l : LvM) : Nat → List Value := fun i => (l.getD i default).2.cells
def lvMem (l : LvM) : Mem := [(0, .cells lvT [.slc 1 1 0 l.length, .slc 2 8 0 l.length]), (1, .vec 3 1 l.length (lvA l)), (2, .vec 29 8 l.length (lvH l))]
def lvP (l : LvM) : AbsP := packP (lvMem l) True
section
variable {P : Program} {C : Ctx} {cd : Code} {slots : List (Option XV)} {mem : Mem} {nx : Nat} {Q : Exit → St → Prop}
theorem Lv.opens (l : LvM) (c : Nat) (hc : mem.get c = some (.abs (lvP l)))
    (h : Tri P C cd ⟨slots, (c, .cells lvT [.slc (nx + 1) 1 0 l.length, .slc (nx + 2) 8 0 l.length]) :: (nx + 1, .vec 3 1 l.length (lvA l)) :: (nx + 2, .vec 29 8 l.length (lvH l)) :: mem.del c, nx + 3⟩ Q) : Tri P C cd ⟨slots, mem, nx⟩ Q :=
  Tri.opens (M := lvMem l) (m := 3) (inv := True) (c := c) hc rfl fun _ => h
theorem Lv.shuts (l : LvM) (c : Nat) {i1 i2 m1 m2 n1 n2 : Nat} {f g : Nat → List Value}
    (k0 : mem.get c = some (.cells lvT [.slc i1 1 0 m1, .slc i2 8 0 m2])) (k1 : mem.get i1 = some (.vec 3 1 n1 f)) (k2 : mem.get i2 = some (.vec 29 8 n2 g))
    (hids : (Nat.beq c i1 || Nat.beq c i2 || Nat.beq i1 i2) = false) (hm1 : m1 = l.length) (hm2 : m2 = l.length) (hl1 : l.length ≤ n1) (hl2 : l.length ≤ n2) (hf : ∀ i, i < l.length → f i = lvA l i) (hg : ∀ i, i < l.length → g i = lvH l i) :
    Ent C ⟨slots, mem, nx⟩ ⟨slots, (c, .abs (lvP l)) :: mem.dels [c, i1, i2], nx⟩ := by
  subst hm1 hm2
  exact Ent.shut3 (S := ⟨slots, mem, nx⟩) (M := lvMem l) (inv := True) hids trivial rfl rfl rfl rfl k0 k1 k2 rfl ⟨rfl, rfl⟩ ⟨rfl, rfl, hl1, hf⟩ ⟨rfl, rfl, hl2, hg⟩
end
theorem lvA_snoc {l : LvM} {x : Nat × H8} {f : Nat → List Value} {m k : Nat} (hm : m = l.length) (hf : f 0 = [.int .i64 (x.1 : Int)]) (hk : k < m + 1) : joinF (lvA l) m f k = lvA (l ++ [x]) k := by
  subst hm
  simp only [joinF, nblt]
  by_cases h : k < l.length
  · rw [decide_eq_true h, cond_true, lvA, lvA, List.getD_eq_getElem?_getD, List.getD_eq_getElem?_getD, List.getElem?_append_left h]
  · obtain rfl : k = l.length := by omega
    rw [decide_eq_false h, cond_false, Nat.sub_self, hf, lvA]; simp
theorem lvH_snoc {l : LvM} {x : Nat × H8} {f : Nat → List Value} {m k : Nat} (hm : m = l.length) (hf : f 0 = x.2.cells) (hk : k < m + 1) : joinF (lvH l) m f k = lvH (l ++ [x]) k := by
  subst hm
  simp only [joinF, nblt]
  by_cases h : k < l.length
  · rw [decide_eq_true h, cond_true, lvH, lvH, List.getD_eq_getElem?_getD, List.getD_eq_getElem?_getD, List.getElem?_append_left h]
  · obtain rfl : k = l.length := by omega
    rw [decide_eq_false h, cond_false, Nat.sub_self, hf, lvH]; simp
structure PutI (i : Nat) (h : H8) (l : LvM) where
  k : Nat
  acc : LvM
  done : Bool
  le : k ≤ l.length
  eq : putGo i h l (zeroB h) = acc ++ putGo i h (l.drop k) done
  len : acc.length ≤ 2 * k
def putSt (i : Nat) (h : H8) (l : LvM) (k : Nat) (acc : LvM) (done : Bool) : St :=
  ⟨[some (XV.sv (.ptr 0 0 0 0)), some (XV.int .i64 i), none, none, none, some (XV.sv (.ptr 3 0 0 0)), none, some (XV.sv (.slc 6 1 0 acc.length)), some (XV.sv (.slc 7 8 0 acc.length)), some (XV.bool done), some (XV.int .i64 k)] ++ List.replicate 85 none,
   [(0, .cells lvT [.slc 4 1 0 l.length, .slc 5 8 0 l.length]), (3, .cells 29 (h.cells.map .raw)), (4, .vec 3 1 l.length (lvA l)), (5, .vec 29 8 l.length (lvH l)), (6, .vec 3 1 acc.length (lvA acc)), (7, .vec 29 8 acc.length (lvH acc))], 8⟩
set_option maxHeartbeats 4000000 in
theorem put_can2 (l : LvM) (i : Nat) (hi : i < 65536) (h : H8) (hl : l.length ≤ 1000000) : Acts Tryz.prog 96 (.abs (lvP l)) (.abs (lvP (lvPut l i h))) [.plain (.one (.raw (.int .i64 i))), .plain h.x] [] (XV.bool true) := by
  refine Acts.of Tryz.T_ok Tryz.func96 rfl _ _ _ _ _ rfl rfl rfl (fun C hC => ?_)
  (replace hC : C.n0 = 3 := hC; change Tri _ _ _ ⟨_, _, 3⟩ _)
  refine Lv.opens l 0 rfl ?_
  (refine Tri.cut 5 Tryz.mixed Tryz.T_ok ?_; refine xZ ?_)
  (refine wFd ?_ ?_; (first | refine decide_eq_false ?_ | rw [beq_eq_false_iff_ne] | rw [bne_eq_false_iff_eq]); exact xW; refine xG ?_)
  (refine wFd ?_ ?_; (first | refine decide_eq_false ?_ | rw [beq_eq_false_iff_ne] | rw [bne_eq_false_iff_eq]); exact xW; refine xG ?_)
  (apply wP; exact (call_op rfl (entersB_of Tryz.func147 (by kernel_rfl)) rfl ((rzero_can h).at [] ⟨lend_plain rfl, trivial⟩ trivial)); refine xZ ?_)
  refine wD <| cutG <| Tri.ent (Ent.nils (t := 7) rfl 3 1) <| Tri.ent (Ent.nils (t := 8) rfl 29 8) <| Tri.seq ?_
  (refine Tri.cut 1 Tryz.mixed Tryz.T_ok ?_; refine xZ ?_)
  refine wD <| cutG <| Tri.block ?_
  refine Tri.loop (α := PutI i h l) (fun x => putSt i h l x.k x.acc x.done) (fun x => l.length - x.k) ⟨0, [], zeroB h, Nat.zero_le _, rfl, Nat.zero_le _⟩ ?_ ?_
  · unfold putSt
    ((try dsimp only); refine Ent.renC [0, 1, 2, 6, 4, 5, 19, 20] hC ?_ ?_ <;> repeat' (first | exact trivial | exact rfl | exact ⟨_, rfl, rfl, rfl, Nat.le_refl _, fun _ _ => rfl⟩ | exact ⟨_, rfl, rfl, rfl, fun _ _ => rfl⟩ | exact ⟨_, rfl, rfl, rfl⟩ | exact ⟨_, rfl, rfl⟩ | refine ⟨_, rfl, rfl, rfl, by omega, fun k hk => ?_⟩ | refine ⟨?_, ?_⟩ | fail))
    all_goals first | exact Nat.le_refl _ | exact fun k hk => absurd hk (Nat.not_lt_zero _)
  rintro ⟨k, acc, done, hk, hg, hlen⟩
  unfold putSt
  dsimp only
  (refine Tri.cut 1 Tryz.mixed Tryz.T_ok ?_; refine xZ ?_)
  refine wC (fun h1 => ?_) (fun h1 => ?_)
  · (refine xG ?_)
    have h1' : k < l.length := xW
    have hw : IntKind.i64.wrap ((k : Int) + 1) = ((k + 1 : Nat) : Int) := xW
    obtain ⟨x, hx⟩ : ∃ x, l.getD k default = x := ⟨_, rfl⟩
    rw [dropD_cons h1', hx] at hg
    obtain ⟨a, z⟩ := x
    rw [putGo, ← List.append_assoc] at hg
    obtain ⟨acc1, hacc⟩ : ∃ acc1, acc ++ (if (!done && decide (i ≤ a)) = true then [(i, h)] else []) = acc1 := ⟨_, rfl⟩
    rw [hacc, ← List.append_assoc] at hg
    have hl1 : acc1.length ≤ 2 * k + 1 := by
      rw [← hacc, List.length_append]
      split <;> simp <;> omega
    refine wD <| cutG <| Tri.seq <| Tri.block <| Tri.merge (putSt i h l k acc1 (done || decide (i ≤ a))) (Tri.of Tryz.mixed Tryz.T_ok ?_) ?_
    · have hd0 : (!done && decide (i ≤ a)) = false → acc1 = acc ∧ (done || decide (i ≤ a)) = done := fun h0 => by
        refine ⟨by rw [← hacc, if_neg (by rw [h0]; simp), List.append_nil], ?_⟩
        cases done <;> simp_all
      (refine xB ?_)
      refine wC (fun h2 => ?_) (fun h2 => ?_)
      · (refine xG ?_)
        (repeat (refine wN ?_ ?_; exact xW; refine xG ?_))
        simp only [Nat.zero_add, Int.toNat_natCast, hx]
        refine wC (fun h3 => ?_) (fun h3 => ?_)
        · have h3' : decide (i ≤ a) = true := decide_eq_true (by simp only [decide_eq_true_eq] at h3; omega)
          have hdn : done = false := by simpa using h2
          obtain rfl : acc1 = acc ++ [(i, h)] := by rw [← hacc, if_pos (by rw [h2, h3']; rfl)]
          (refine xG ?_)
          (refine wP _ _ (append_op Tryz.T_ok rfl rfl rfl rfl rfl [6, 30] (old_vec rfl rfl (Nat.le_refl _) rfl) (new_vec (lo := 0) rfl rfl (Nat.le_refl _) rfl) rfl (lt1 rfl) (by simp only [maxLen]; omega) (by dsimp only; omega)) ?_; refine xZ ?_)
          (refine wP _ _ (append_op Tryz.T_ok rfl rfl rfl rfl rfl [7, 34] (old_vec rfl rfl (Nat.le_refl _) rfl) (new_vec (lo := 0) rfl rfl (Nat.le_refl _) rfl) rfl (lt1 rfl) (by simp only [maxLen]; omega) (by dsimp only; omega)) ?_; refine xZ ?_)
          refine wD ⟨rfl, ?_⟩
          unfold putSt
          rw [h3', Bool.or_true, List.length_append]
          ((try dsimp only); refine Ent.renC [0, 1, 2, 3, 4, 5, 31, 35] hC ?_ ?_ <;> repeat' (first | exact trivial | exact rfl | exact ⟨_, rfl, rfl, rfl, Nat.le_refl _, fun _ _ => rfl⟩ | exact ⟨_, rfl, rfl, rfl, fun _ _ => rfl⟩ | exact ⟨_, rfl, rfl, rfl⟩ | exact ⟨_, rfl, rfl⟩ | refine ⟨_, rfl, rfl, rfl, by omega, fun k hk => ?_⟩ | refine ⟨?_, ?_⟩ | fail))
          · exact Nat.le_refl _
          · exact fun j hj => lvA_snoc rfl rfl hj
          · exact Nat.le_refl _
          · exact fun j hj => lvH_snoc rfl rfl hj
        · obtain ⟨rfl, hd1⟩ := hd0 (by rw [decide_eq_false (by simp only [decide_eq_false_iff_not] at h3; omega), Bool.and_false])
          (refine xG ?_)
          refine wD ⟨rfl, ?_⟩
          rw [hd1]
          unfold putSt
          ((try dsimp only); refine Ent.renC [0, 1, 2, 3, 4, 5, 6, 7] hC ?_ ?_ <;> repeat' (first | exact trivial | exact rfl | exact ⟨_, rfl, rfl, rfl, Nat.le_refl _, fun _ _ => rfl⟩ | exact ⟨_, rfl, rfl, rfl, fun _ _ => rfl⟩ | exact ⟨_, rfl, rfl, rfl⟩ | exact ⟨_, rfl, rfl⟩ | refine ⟨_, rfl, rfl, rfl, by omega, fun k hk => ?_⟩ | refine ⟨?_, ?_⟩ | fail))
      · obtain ⟨rfl, hd1⟩ := hd0 (by rw [h2, Bool.false_and])
        (refine xG ?_)
        refine wD ⟨rfl, ?_⟩
        rw [hd1]
        unfold putSt
        ((try dsimp only); refine Ent.renC [0, 1, 2, 3, 4, 5, 6, 7] hC ?_ ?_ <;> repeat' (first | exact trivial | exact rfl | exact ⟨_, rfl, rfl, rfl, Nat.le_refl _, fun _ _ => rfl⟩ | exact ⟨_, rfl, rfl, rfl, fun _ _ => rfl⟩ | exact ⟨_, rfl, rfl, rfl⟩ | exact ⟨_, rfl, rfl⟩ | refine ⟨_, rfl, rfl, rfl, by omega, fun k hk => ?_⟩ | refine ⟨?_, ?_⟩ | fail))
    · generalize (done || decide (i ≤ a)) = done1 at hg ⊢
      unfold putSt
      refine Tri.of Tryz.mixed Tryz.T_ok ?_
      (refine xB ?_)
      (repeat (refine wN ?_ ?_; exact xW; refine xG ?_))
      simp only [Nat.zero_add, Int.toNat_natCast, hx]
      refine wC (fun h2 => ?_) (fun h2 => ?_)
      · have hne : ¬ a = i := by simp only [bne_iff_ne, ne_eq] at h2; omega
        rw [if_neg hne] at hg
        (refine xG ?_)
        (repeat (refine wN ?_ ?_; exact xW; refine xG ?_))
        simp only [Nat.zero_add, Int.toNat_natCast, hx]
        (refine wP _ _ (append_op Tryz.T_ok rfl rfl rfl rfl rfl [6, 25] (old_vec rfl rfl (Nat.le_refl _) rfl) (new_vec (lo := 0) rfl rfl (Nat.le_refl _) rfl) rfl (lt1 rfl) (by simp only [maxLen]; omega) (by dsimp only; omega)) ?_; refine xZ ?_)
        (repeat (refine wN ?_ ?_; exact xW; refine xG ?_))
        simp only [Nat.zero_add, Int.toNat_natCast, hx]
        (refine wP _ _ (append_op Tryz.T_ok rfl rfl rfl rfl rfl [7, 35] (old_vec rfl rfl (Nat.le_refl _) rfl) (new_vec (lo := 0) rfl rfl (Nat.le_refl _) rfl) rfl (lt1 rfl) (by simp only [maxLen]; omega) (by dsimp only; omega)) ?_; refine xZ ?_)
        refine wD <| blockN <| cutG <| Tri.of Tryz.mixed Tryz.T_ok ?_
        (refine xB ?_)
        refine wD <| loopN ⟨⟨k + 1, acc1 ++ [(a, z)], done1, h1', hg, by rw [List.length_append]; simp only [List.length_singleton]; omega⟩, by dsimp only; omega, ?_⟩
        rw [hw]
        dsimp only
        rw [List.length_append]
        ((try dsimp only); refine Ent.renC [0, 1, 2, 3, 4, 5, 26, 36] hC ?_ ?_ <;> repeat' (first | exact trivial | exact rfl | exact ⟨_, rfl, rfl, rfl, Nat.le_refl _, fun _ _ => rfl⟩ | exact ⟨_, rfl, rfl, rfl, fun _ _ => rfl⟩ | exact ⟨_, rfl, rfl, rfl⟩ | exact ⟨_, rfl, rfl⟩ | refine ⟨_, rfl, rfl, rfl, by omega, fun k hk => ?_⟩ | refine ⟨?_, ?_⟩ | fail))
        · exact Nat.le_refl _
        · exact fun j hj => lvA_snoc rfl rfl hj
        · exact Nat.le_refl _
        · exact fun j hj => lvH_snoc rfl rfl hj
      · have hne : a = i := by simp only [bne_eq_false_iff_eq] at h2; omega
        rw [if_pos hne, List.append_nil] at hg
        (refine xG ?_)
        refine wD <| blockN <| cutG <| Tri.of Tryz.mixed Tryz.T_ok ?_
        (refine xB ?_)
        refine wD <| loopN ⟨⟨k + 1, acc1, done1, h1', hg, by omega⟩, by dsimp only; omega, ?_⟩
        rw [hw]
        ((try dsimp only); refine Ent.renC [0, 1, 2, 3, 4, 5, 6, 7] hC ?_ ?_ <;> repeat' (first | exact trivial | exact rfl | exact ⟨_, rfl, rfl, rfl, Nat.le_refl _, fun _ _ => rfl⟩ | exact ⟨_, rfl, rfl, rfl, fun _ _ => rfl⟩ | exact ⟨_, rfl, rfl, rfl⟩ | exact ⟨_, rfl, rfl⟩ | refine ⟨_, rfl, rfl, rfl, by omega, fun k hk => ?_⟩ | refine ⟨?_, ?_⟩ | fail))
  · (refine xG ?_)
    have h1' : k = l.length := xW
    subst h1'
    rw [List.drop_length, putGo] at hg
    refine wD <| cutE <| loopX <| blockX <| cutG <| Tri.of Tryz.mixed Tryz.T_ok ?_
    have hput : lvPut l i h = acc ++ (if done = true then [] else [(i, h)]) := hg
    (refine xB ?_)
    refine wC (fun h2 => ?_) (fun h2 => ?_)
    · have hdn : done = false := by simpa using h2
      subst hdn
      rw [if_neg (by simp)] at hput
      (refine xG ?_)
      (refine wP _ _ (append_op Tryz.T_ok rfl rfl rfl rfl rfl [6, 19] (old_vec rfl rfl (Nat.le_refl _) rfl) (new_vec (lo := 0) rfl rfl (Nat.le_refl _) rfl) rfl (lt1 rfl) (by simp only [maxLen]; omega) (by dsimp only; omega)) ?_; refine xZ ?_)
      (refine wP _ _ (append_op Tryz.T_ok rfl rfl rfl rfl rfl [7, 23] (old_vec rfl rfl (Nat.le_refl _) rfl) (new_vec (lo := 0) rfl rfl (Nat.le_refl _) rfl) rfl (lt1 rfl) (by simp only [maxLen]; omega) (by dsimp only; omega)) ?_; refine xZ ?_)
      rw [hput]
      have hln : (acc ++ [(i, h)]).length = acc.length + 1 := by simp
      exact wD (Ends.shutN (.inr rfl) (Lv.shuts (acc ++ [(i, h)]) 0 (i1 := 20) (i2 := 24) rfl rfl rfl rfl hln.symm hln.symm (Nat.le_of_eq hln) (Nat.le_of_eq hln) (fun j hj => lvA_snoc rfl rfl (by omega)) (fun j hj => lvH_snoc rfl rfl (by omega))) rfl rfl rfl)
    · have hdn : done = true := by simpa using h2
      subst hdn
      rw [if_pos rfl, List.append_nil] at hput
      (refine xG ?_)
      rw [hput]
      exact wD (Ends.shutN (.inr rfl) (Lv.shuts acc 0 (i1 := 6) (i2 := 7) rfl rfl rfl rfl rfl rfl (Nat.le_refl _) (Nat.le_refl _) (fun _ _ => rfl) (fun _ _ => rfl)) rfl rfl rfl)
end Go.Proofs.YtnpkdoggfnlapaaGreatDoor
namespace Go.Proofs.YtnpkdoggfnlapaaGreatDoor
set_option maxRecDepth 100000
open Go.Sx
def getSt (l : LvM) (i : Nat) (k : Nat) : St :=
  ⟨[some (XV.sv (.ptr 0 0 0 0)), some (XV.int .i64 i), none, none, some (XV.sv (.ptr 4 0 0 0)), some (XV.int .i64 k)] ++ List.replicate 26 none,
   [(0, .cells lvT [.slc 2 1 0 l.length, .slc 3 8 0 l.length]), (2, .vec 3 1 l.length (lvA l)), (3, .vec 29 8 l.length (lvH l)), (4, .cells 29 (zeroH.cells.map .raw))], 5⟩
set_option maxHeartbeats 2000000 in
theorem get_can (l : LvM) (i : Nat) (hl : l.length ≤ 1000000) : Acts Tryz.prog 152 (.abs (lvP l)) (.abs (lvP l)) [.plain (.one (.raw (.int .i64 i)))] [] (hashX (lvGet l i)) := by
  refine Acts.of Tryz.T_ok Tryz.func152 rfl _ _ _ _ _ rfl rfl rfl (fun C hC => ?_)
  (replace hC : C.n0 = 2 := hC; change Tri _ _ _ ⟨_, _, 2⟩ _)
  refine Lv.opens l 0 rfl ?_
  (refine Tri.cut 1 Tryz.mixed Tryz.T_ok ?_; refine xZ ?_)
  refine wD <| cutG <| Tri.seq ?_
  (refine Tri.cut 1 Tryz.mixed Tryz.T_ok ?_; refine xZ ?_)
  refine wD <| cutG <| Tri.block ?_
  refine Tri.loop (α := { k : Nat // k ≤ l.length ∧ lvGet l i = lvGet (l.drop k) i }) (fun k => getSt l i k.1) (fun k => l.length - k.1) ⟨0, Nat.zero_le _, rfl⟩ ?_ ?_
  · unfold getSt
    ((try dsimp only); refine Ent.renC [0, 1, 3, 4, 5] hC ?_ ?_ <;> repeat' (first | exact trivial | exact rfl | exact ⟨_, rfl, rfl, rfl, Nat.le_refl _, fun _ _ => rfl⟩ | exact ⟨_, rfl, rfl, rfl, fun _ _ => rfl⟩ | exact ⟨_, rfl, rfl, rfl⟩ | exact ⟨_, rfl, rfl⟩ | refine ⟨_, rfl, rfl, rfl, by omega, fun k hk => ?_⟩ | refine ⟨?_, ?_⟩ | fail))
  rintro ⟨k, hk, hg⟩
  unfold getSt
  dsimp only
  (refine Tri.cut 1 Tryz.mixed Tryz.T_ok ?_; refine xZ ?_)
  refine wC (fun h1 => ?_) (fun h1 => ?_)
  · (refine xG ?_)
    have h1' : k < l.length := xW
    have hw : IntKind.i64.wrap ((k : Int) + 1) = ((k + 1 : Nat) : Int) := xW
    obtain ⟨x, hx⟩ : ∃ x, l.getD k default = x := ⟨_, rfl⟩
    rw [dropD_cons h1', hx] at hg
    obtain ⟨a, z⟩ := x
    rw [lvGet] at hg
    refine wD <| cutG <| Tri.seq <| Tri.block <| Tri.of Tryz.mixed Tryz.T_ok ?_
    (refine xB ?_)
    (repeat (refine wN ?_ ?_; exact xW; refine xG ?_))
    simp only [Nat.zero_add, Int.toNat_natCast, hx]
    refine wC (fun h2 => ?_) (fun h2 => ?_)
    · rw [if_pos (by simp only [beq_iff_eq] at h2; omega)] at hg
      (refine xG ?_)
      (repeat (refine wN ?_ ?_; exact xW; refine xG ?_))
      simp only [Nat.zero_add, Int.toNat_natCast, hx]
      refine wD <| blockR <| cutR <| loopR <| blockR <| cutR ?_
      rw [hg]
      exact Ends.shutN (.inr rfl) (Lv.shuts l 0 (i1 := 2) (i2 := 3) rfl rfl rfl rfl rfl rfl (Nat.le_refl _) (Nat.le_refl _) (fun _ _ => rfl) (fun _ _ => rfl)) rfl rfl rfl
    · rw [if_neg (by simp only [beq_eq_false_iff_ne] at h2; omega)] at hg
      (refine xG ?_)
      refine wD <| blockN <| cutG <| Tri.of Tryz.mixed Tryz.T_ok ?_
      (refine xB ?_)
      refine wD <| loopN ⟨⟨k + 1, h1', hg⟩, by dsimp only; omega, ?_⟩
      rw [hw]
      ((try dsimp only); refine Ent.renC [0, 1, 2, 3, 4] hC ?_ ?_ <;> repeat' (first | exact trivial | exact rfl | exact ⟨_, rfl, rfl, rfl, Nat.le_refl _, fun _ _ => rfl⟩ | exact ⟨_, rfl, rfl, rfl, fun _ _ => rfl⟩ | exact ⟨_, rfl, rfl, rfl⟩ | exact ⟨_, rfl, rfl⟩ | refine ⟨_, rfl, rfl, rfl, by omega, fun k hk => ?_⟩ | refine ⟨?_, ?_⟩ | fail))
  · (refine xG ?_)
    have h1' : k = l.length := xW
    subst h1'
    rw [List.drop_length, lvGet] at hg
    refine wD <| cutE <| loopX <| blockX <| cutG <| Tri.of Tryz.mixed Tryz.T_ok ?_
    rw [hg]
    (refine xB ?_)
    exact wD (Ends.shutN (.inr rfl) (Lv.shuts l 0 (i1 := 2) (i2 := 3) rfl rfl rfl rfl rfl rfl (Nat.le_refl _) (Nat.le_refl _) (fun _ _ => rfl) (fun _ _ => rfl)) rfl rfl rfl)
theorem shl_nat (x k n : Nat) (hk : k < 64) (h : x * 2 ^ k = n) (hn : n < 9223372036854775808) : shlI .i64 (x : Int) (k : Int) = (n : Int) := by
  have e : min ((k : Int).toNat) IntKind.i64.bits = k := by rw [Int.toNat_natCast]; exact Nat.min_eq_left (Nat.le_of_lt hk)
  rw [shlI, e]
  have e2 : (x : Int) * 2 ^ k = (n : Int) := by rw [← h]; simp
  rw [e2]
  exact xW
theorem shl_one {k : Nat} (hk : k ≤ 16) : shlI .i64 1 (k : Int) = ((2 ^ k : Nat) : Int) := by
  have h1 : 2 ^ k ≤ 2 ^ 16 := Nat.pow_le_pow_right (by decide) hk
  exact shl_nat 1 k (2 ^ k) (by omega) (Nat.one_mul _) (by omega)
def inR (f k : Nat) (x : Nat × H8) : Bool := decide (f ≤ x.1) && decide (x.1 < f + 2 ^ k)
theorem someIn_eq (l : LvM) (f k : Nat) : someIn l f k = l.any (inR f k) := rfl
def Placed (l : LvM) : Prop := ∀ x ∈ l, x.1 < 65536
def nodeSt (l : LvM) (f k : Nat) (j : Nat) (b : Bool) : St :=
  ⟨[some (XV.sv (.ptr 0 0 0 0)), some (XV.int .i64 f), some (XV.int .i64 k), none, none, none, some (XV.sv (.ptr 5 0 0 0)), some (XV.bool b), some (XV.int .i64 j)] ++ List.replicate 64 none,
   [(0, .cells lvT [.slc 3 1 0 l.length, .slc 4 8 0 l.length]), (3, .vec 3 1 l.length (lvA l)), (4, .vec 29 8 l.length (lvH l)), (5, .cells 29 (zeroH.cells.map .raw))], 6⟩
theorem nodeH_none {l : LvM} {f k : Nat} (h : someIn l f k = false) : nodeH l f k = zeroH := by
  cases k with
  | zero => rw [nodeH, if_neg (by rw [h]; simp)]
  | succ k => rw [nodeH, if_neg (by rw [h]; simp)]
set_option maxHeartbeats 4000000 in
theorem node_can (l : LvM) (hl : l.length ≤ 1000000) (hp : Placed l) : ∀ (k : Nat), k ≤ 16 → ∀ (f : Nat), f + 2 ^ k ≤ 131072 → Acts Tryz.prog 97 (.abs (lvP l)) (.abs (lvP l)) [.plain (.one (.raw (.int .i64 f))), .plain (.one (.raw (.int .i64 k)))] [] (hashX (nodeH l f k)) := by
  intro k
  induction k using Nat.strongRecOn with
  | ind k ih =>
  intro hk16 f hf
  have hpk := Nat.two_pow_pos k
  refine Acts.of Tryz.T_ok Tryz.func97 rfl _ _ _ _ _ rfl rfl rfl (fun C hC => ?_)
  (replace hC : C.n0 = 3 := hC; change Tri _ _ _ ⟨_, _, 3⟩ _)
  refine Lv.opens l 0 rfl ?_
  (refine Tri.cut 2 Tryz.mixed Tryz.T_ok ?_; refine xZ ?_)
  refine wD <| cutG <| Tri.seq ?_
  (refine Tri.cut 1 Tryz.mixed Tryz.T_ok ?_; refine xZ ?_)
  refine wD <| cutG <| Tri.block ?_
  refine Tri.loop (α := { j : Nat // j ≤ l.length }) (fun j => nodeSt l f k j.1 ((l.take j.1).any (inR f k))) (fun j => l.length - j.1) ⟨0, Nat.zero_le _⟩ ?_ ?_
  · unfold nodeSt
    ((try dsimp only); refine Ent.renC [0, 1, 2, 4, 5, 6] hC ?_ ?_ <;> repeat' (first | exact trivial | exact rfl | exact ⟨_, rfl, rfl, rfl, Nat.le_refl _, fun _ _ => rfl⟩ | exact ⟨_, rfl, rfl, rfl, fun _ _ => rfl⟩ | exact ⟨_, rfl, rfl, rfl⟩ | exact ⟨_, rfl, rfl⟩ | refine ⟨_, rfl, rfl, rfl, by omega, fun k hk => ?_⟩ | refine ⟨?_, ?_⟩ | fail))
  rintro ⟨j, hj⟩
  unfold nodeSt
  dsimp only
  (refine Tri.cut 1 Tryz.mixed Tryz.T_ok ?_; refine xZ ?_)
  refine wC (fun h1 => ?_) (fun h1 => ?_)
  · (refine xG ?_)
    have h1' : j < l.length := xW
    have hw : IntKind.i64.wrap ((j : Int) + 1) = ((j + 1 : Nat) : Int) := xW
    have hs := any_take_succ' (p := inR f k) h1'
    obtain ⟨x, hx⟩ : ∃ x, l.getD j default = x := ⟨_, rfl⟩
    rw [hx] at hs
    obtain ⟨a, z⟩ := x
    have ha : a < 65536 := hp (a, z) (by rw [← hx, List.getD_eq_getElem?_getD, List.getElem?_eq_getElem h1']; exact List.getElem_mem h1')
    have hu : IntKind.u64.wrap (k : Int) = (k : Int) := xW
    have hadd : IntKind.i64.wrap ((f : Int) + ((2 ^ k : Nat) : Int)) = ((f + 2 ^ k : Nat) : Int) := by rw [IntKind.wrap_i64]; omega
    refine wD <| cutG <| Tri.seq <| Tri.block <| Tri.of Tryz.mixed Tryz.T_ok ?_
    (refine xB ?_)
    refine wC (fun h2 => ?_) (fun h2 => ?_)
    · rw [h2, Bool.true_or] at hs
      (refine xG ?_)
      refine wD <| blockN <| cutG <| Tri.of Tryz.mixed Tryz.T_ok ?_
      (refine xB ?_)
      refine wD <| loopN ⟨⟨j + 1, h1'⟩, by dsimp only; omega, ?_⟩
      rw [hw]
      dsimp only
      rw [hs]
      ((try dsimp only); refine Ent.renC [0, 1, 2, 3, 4, 5] hC ?_ ?_ <;> repeat' (first | exact trivial | exact rfl | exact ⟨_, rfl, rfl, rfl, Nat.le_refl _, fun _ _ => rfl⟩ | exact ⟨_, rfl, rfl, rfl, fun _ _ => rfl⟩ | exact ⟨_, rfl, rfl, rfl⟩ | exact ⟨_, rfl, rfl⟩ | refine ⟨_, rfl, rfl, rfl, by omega, fun k hk => ?_⟩ | refine ⟨?_, ?_⟩ | fail))
    rw [h2, Bool.false_or] at hs
    (refine xG ?_)
    (repeat (refine wN ?_ ?_; exact xW; refine xG ?_))
    simp only [Nat.zero_add, Int.toNat_natCast, hx]
    refine wC (fun h3 => ?_) (fun h3 => ?_)
    · have h3' : f ≤ a := by simp only [decide_eq_true_eq] at h3; omega
      (refine xG ?_)
      (repeat (refine wN ?_ ?_; exact xW; refine xG ?_))
      simp only [Nat.zero_add, Int.toNat_natCast, hx, hu]
      (repeat (refine wN ?_ ?_; exact xW; refine xG ?_))
      simp only [shl_one hk16, hadd]
      refine wD <| blockN <| cutG <| Tri.of Tryz.mixed Tryz.T_ok ?_
      (refine xB ?_)
      refine wD <| loopN ⟨⟨j + 1, h1'⟩, by dsimp only; omega, ?_⟩
      rw [hw]
      dsimp only
      rw [hs, show inR f k (a, z) = decide ((a : Int) < ((f + 2 ^ k : Nat) : Int)) by
        rw [inR, decide_eq_true h3', Bool.true_and, Bool.eq_iff_iff, decide_eq_true_eq, decide_eq_true_eq]; dsimp only; omega]
      ((try dsimp only); refine Ent.renC [0, 1, 2, 3, 4, 5] hC ?_ ?_ <;> repeat' (first | exact trivial | exact rfl | exact ⟨_, rfl, rfl, rfl, Nat.le_refl _, fun _ _ => rfl⟩ | exact ⟨_, rfl, rfl, rfl, fun _ _ => rfl⟩ | exact ⟨_, rfl, rfl, rfl⟩ | exact ⟨_, rfl, rfl⟩ | refine ⟨_, rfl, rfl, rfl, by omega, fun k hk => ?_⟩ | refine ⟨?_, ?_⟩ | fail))
    · have h3' : ¬ f ≤ a := by simp only [decide_eq_false_iff_not] at h3; omega
      (refine xG ?_)
      refine wD <| blockN <| cutG <| Tri.of Tryz.mixed Tryz.T_ok ?_
      (refine xB ?_)
      refine wD <| loopN ⟨⟨j + 1, h1'⟩, by dsimp only; omega, ?_⟩
      rw [hw]
      dsimp only
      rw [hs, show inR f k (a, z) = false by rw [inR, decide_eq_false h3', Bool.false_and]]
      ((try dsimp only); refine Ent.renC [0, 1, 2, 3, 4, 5] hC ?_ ?_ <;> repeat' (first | exact trivial | exact rfl | exact ⟨_, rfl, rfl, rfl, Nat.le_refl _, fun _ _ => rfl⟩ | exact ⟨_, rfl, rfl, rfl, fun _ _ => rfl⟩ | exact ⟨_, rfl, rfl, rfl⟩ | exact ⟨_, rfl, rfl⟩ | refine ⟨_, rfl, rfl, rfl, by omega, fun k hk => ?_⟩ | refine ⟨?_, ?_⟩ | fail))
  · (refine xG ?_)
    have h1' : j = l.length := xW
    subst h1'
    rw [List.take_length, ← someIn_eq]
    refine wD <| cutE <| loopX <| blockX <| cutG <| Tri.ent (Lv.shuts l 0 (i1 := 3) (i2 := 4) rfl rfl rfl rfl rfl rfl (Nat.le_refl _) (Nat.le_refl _) (fun _ _ => rfl) (fun _ _ => rfl)) (Tri.of Tryz.mixed Tryz.T_ok ?_)
    (refine xB ?_)
    refine wC (fun h2 => ?_) (fun h2 => ?_)
    · (refine xG ?_)
      refine wD ?_
      rw [nodeH_none (by simpa using h2)]
      exact Ends.shutN (.inr rfl) (Ent.refl _) rfl rfl rfl
    have hsome : someIn l f k = true := by simpa using h2
    (refine xG ?_)
    refine wC (fun h3 => ?_) (fun h3 => ?_)
    · obtain rfl : k = 0 := by simp only [beq_iff_eq] at h3; omega
      (refine xG ?_)
      (apply wP; exact (call_op rfl (entersB_of Tryz.func152 (by kernel_rfl)) rfl ((get_can l f hl).at [] rfl rfl rfl ⟨lend_plain rfl, trivial⟩ trivial)); refine xZ ?_)
      refine wD ?_
      rw [nodeH, if_pos hsome]
      exact Ends.shutN (.inr rfl) (Ent.refl _) rfl rfl rfl
    · obtain ⟨m, rfl⟩ : ∃ m, k = m + 1 := ⟨k - 1, by simp only [beq_eq_false_iff_ne] at h3; omega⟩
      have hpm : 2 ^ (m + 1) = 2 ^ m + 2 ^ m := by rw [Nat.pow_succ]; omega
      have hpm0 := Nat.two_pow_pos m
      have hm1 : IntKind.i64.wrap (((m + 1 : Nat) : Int) - 1) = (m : Int) := xW
      have hu : IntKind.u64.wrap (m : Int) = (m : Int) := xW
      have hadd : IntKind.i64.wrap ((f : Int) + ((2 ^ m : Nat) : Int)) = ((f + 2 ^ m : Nat) : Int) := by rw [IntKind.wrap_i64]; omega
      (refine xG ?_)
      simp only [hm1]
      (apply wP; exact (call_op rfl (entersB_of Tryz.func97 (by kernel_rfl)) rfl ((ih m (Nat.lt_succ_self m) (by omega) f (by omega)).at [] rfl rfl rfl ⟨lend_plain rfl, lend_plain rfl, trivial⟩ trivial)); refine xZ ?_)
      simp only [hm1, hu]
      (repeat (refine wN ?_ ?_; exact xW; refine xG ?_))
      simp only [shl_one (show m ≤ 16 by omega), hadd, hm1]
      (apply wP; exact (call_op rfl (entersB_of Tryz.func97 (by kernel_rfl)) rfl ((ih m (Nat.lt_succ_self m) (by omega) (f + 2 ^ m) (by omega)).at [] rfl rfl rfl ⟨lend_plain rfl, lend_plain rfl, trivial⟩ trivial)); refine xZ ?_)
      (apply wP; exact (call_op rfl (entersB_of Tryz.func148 (by kernel_rfl)) rfl ((rover_can (nodeH l f m) (nodeH l (f + 2 ^ m) m)).at [] ⟨lend_plain rfl, lend_plain rfl, trivial⟩ trivial)); refine xZ ?_)
      refine wD ?_
      rw [nodeH, if_pos hsome]
      exact Ends.shutN (.inr rfl) (Ent.refl _) rfl rfl rfl
end Go.Proofs.YtnpkdoggfnlapaaGreatDoor
namespace Go.Proofs.YtnpkdoggfnlapaaGreatDoor
set_option maxRecDepth 100000
open Go.Sx
theorem top_can (l : LvM) (hl : l.length ≤ 1000000) (hp : Placed l) : Acts Tryz.prog 48 (.abs (lvP l)) (.abs (lvP l)) [] [] (hashX (nodeH l 0 16)) := by
  refine Acts.of Tryz.T_ok Tryz.func48 rfl _ _ _ _ _ rfl rfl rfl (fun C hC => ?_)
  (replace hC : C.n0 = 1 := hC; change Tri _ _ _ ⟨_, _, 1⟩ _)
  refine Tri.of Tryz.mixed Tryz.T_ok ?_
  (refine xB ?_)
  (apply wP; exact (call_op rfl (entersB_of Tryz.func97 (by kernel_rfl)) rfl ((node_can l hl hp 16 (by decide) 0 (by decide)).at [] rfl rfl rfl ⟨lend_plain rfl, lend_plain rfl, trivial⟩ trivial)); refine xZ ?_)
  exact wD (Ends.shutN (.inr rfl) (Ent.refl _) rfl rfl rfl)
theorem nxor1 (y : Nat) : y ^^^ 1 = sibN y := by
  have h := @Nat.xor_mod_two_pow y 1 1
  simp only [Nat.pow_one] at h
  have h2 : (y ^^^ 1) % 2 = 1 - y % 2 := by
    rw [h]
    rcases Nat.mod_two_eq_zero_or_one y with h | h <;> rw [h] <;> rfl
  have h1 := @Nat.xor_div_two y 1
  have h3 : y / 2 ^^^ 1 / 2 = y / 2 := by simp
  rw [h3] at h1
  unfold sibN
  split <;> omega
theorem sibN_le (y : Nat) : sibN y ≤ y + 1 := by unfold sibN; split <;> omega
theorem xor1_i64 (y : Nat) (hy : y < 9223372036854775000) : bitI .xor .i64 (y : Int) 1 = ((sibN y : Nat) : Int) := by
  have e1 : BitVec.ofInt 64 (y : Int) = BitVec.ofNat 64 y := ofInt_nat 64 y
  have e2 : (BitVec.ofNat 64 y ^^^ BitVec.ofInt 64 1).toNat = sibN y := by
    rw [BitVec.toNat_xor, BitVec.toNat_ofNat, show (BitVec.ofInt 64 1).toNat = 1 from rfl, Nat.mod_eq_of_lt (by omega), nxor1]
  show IntKind.i64.wrap (((BitVec.ofInt 64 (y : Int) ^^^ BitVec.ofInt 64 1).toNat : Nat) : Int) = _
  rw [e1, e2, IntKind.wrap_i64]
  have : sibN y ≤ y + 1 := by unfold sibN; split <;> omega
  omega
def prvSt (l : LvM) (i k : Nat) : St :=
  ⟨[some (XV.sv (.ptr 0 0 0 0)), some (XV.int .i64 i), none, none, some (XV.sv (.ptr 2 0 0 0)), some (XV.bool false), some (XV.sv (.ptr 3 0 0 0)), some (XV.int .i64 k)] ++ List.replicate 27 none,
   [(0, .abs (lvP l)), (2, .cells 44 ((List.replicate 128 (u8 0)).map .raw)), (3, .vec 44 8 16 (hashF (uptoH (provS l i) k)))], 4⟩
set_option maxHeartbeats 4000000 in
theorem prv_can (l : LvM) (hl : l.length ≤ 1000000) (hp : Placed l) (i : Nat) (hi : i < 65536) : Acts Tryz.prog 47 (.abs (lvP l)) (.abs (lvP l)) [.plain (.one (.raw (.int .i64 i)))] [] (.tup [rowX (provS l i) 16, .one (.raw (.bool true))]) := by
  refine Acts.of Tryz.T_ok Tryz.func47 rfl _ _ _ _ _ rfl rfl (by simp only [XV.ok, List.all_cons, List.all_nil, Bool.and_true, Bool.and_eq_true]; exact ⟨raws_ok _ _, rfl⟩) (fun C hC => ?_)
  (replace hC : C.n0 = 2 := hC; change Tri _ _ _ ⟨_, _, 2⟩ _)
  (refine Tri.cut 3 Tryz.mixed Tryz.T_ok ?_; refine xZ ?_)
  (refine wFd ?_ ?_; (first | refine decide_eq_false ?_ | rw [beq_eq_false_iff_ne] | rw [bne_eq_false_iff_eq]); exact xW; refine xG ?_)
  (refine wFd ?_ ?_; (first | refine decide_eq_false ?_ | rw [beq_eq_false_iff_ne] | rw [bne_eq_false_iff_eq]); exact xW; refine xG ?_)
  refine wD <| cutG <| Tri.ent (Ent.arr0 (c := 4) 8 16 (u8 0) (f := hashF (uptoH (provS l i) 0)) rfl rfl rfl (by decide) rfl (by rw [hC]; decide) (fun _ _ => rfl)) <| Tri.seq ?_
  (refine Tri.cut 1 Tryz.mixed Tryz.T_ok ?_; refine xZ ?_)
  refine wD <| cutG <| Tri.block ?_
  refine Tri.loop (α := { k : Nat // k ≤ 16 }) (fun k => prvSt l i k.1) (fun k => 16 - k.1) ⟨0, Nat.zero_le _⟩ ?_ ?_
  · unfold prvSt
    ((try dsimp only); refine Ent.renC [0, 1, 2, 4] hC ?_ ?_ <;> repeat' (first | exact trivial | exact rfl | exact ⟨_, rfl, rfl, rfl, Nat.le_refl _, fun _ _ => rfl⟩ | exact ⟨_, rfl, rfl, rfl, fun _ _ => rfl⟩ | exact ⟨_, rfl, rfl, rfl⟩ | exact ⟨_, rfl, rfl⟩ | refine ⟨_, rfl, rfl, rfl, by omega, fun k hk => ?_⟩ | refine ⟨?_, ?_⟩ | fail))
  rintro ⟨k, hk⟩
  unfold prvSt
  dsimp only
  (refine Tri.cut 1 Tryz.mixed Tryz.T_ok ?_; refine xZ ?_)
  refine wC (fun h1 => ?_) (fun h1 => ?_)
  · (refine xG ?_)
    have h1' : k < 16 := xW
    have hw : IntKind.i64.wrap ((k : Int) + 1) = ((k + 1 : Nat) : Int) := xW
    have hu : IntKind.u64.wrap (k : Int) = (k : Int) := xW
    have h2k : 2 ^ k ≤ 2 ^ 15 := Nat.pow_le_pow_right (by decide) (by omega)
    have hdm : i / 2 ^ k * 2 ^ k ≤ i := Nat.div_mul_le_self i (2 ^ k)
    have hdl : i / 2 ^ k ≤ i := Nat.div_le_self i (2 ^ k)
    have hsl : sibN (i / 2 ^ k) ≤ i / 2 ^ k + 1 := sibN_le _
    have hsm : sibN (i / 2 ^ k) * 2 ^ k ≤ i + 2 ^ k := by
      have h3 := Nat.mul_le_mul_right (2 ^ k) hsl
      rw [Nat.add_mul, Nat.one_mul] at h3
      omega
    have hshr : shrI .i64 (i : Int) (k : Int) = ((i / 2 ^ k : Nat) : Int) := shr_nat _ _ _ (Nat.le_of_lt (show k < 64 by omega))
    have hxor : bitI .xor .i64 ((i / 2 ^ k : Nat) : Int) 1 = ((sibN (i / 2 ^ k) : Nat) : Int) := xor1_i64 _ (by omega)
    have hshl : shlI .i64 ((sibN (i / 2 ^ k) : Nat) : Int) (k : Int) = ((sibN (i / 2 ^ k) * 2 ^ k : Nat) : Int) := shl_nat _ k _ (by omega) rfl (by omega)
    refine wD <| cutG <| Tri.seq <| Tri.block <| Tri.of Tryz.mixed Tryz.T_ok ?_
    (refine xB ?_)
    simp only [hu]
    (repeat (refine wN ?_ ?_; exact xW; refine xG ?_))
    simp only [hshr, hxor, hu]
    (repeat (refine wN ?_ ?_; exact xW; refine xG ?_))
    simp only [hshl]
    (apply wP; exact (call_op rfl (entersB_of Tryz.func97 (by kernel_rfl)) rfl ((node_can l hl hp k (by omega) (sibN (i / 2 ^ k) * 2 ^ k) (by omega)).at [] rfl rfl rfl ⟨lend_plain rfl, lend_plain rfl, trivial⟩ trivial)); refine xZ ?_)
    (repeat (refine wN ?_ ?_; exact xW; refine xG ?_))
    refine wD <| blockN <| cutG <| Tri.of Tryz.mixed Tryz.T_ok ?_
    (refine xB ?_)
    refine wD <| loopN ⟨⟨k + 1, h1'⟩, by dsimp only; omega, ?_⟩
    rw [hw]
    ((try dsimp only); refine Ent.renC [0, 1, 2, 3] hC ?_ ?_ <;> repeat' (first | exact trivial | exact rfl | exact ⟨_, rfl, rfl, rfl, Nat.le_refl _, fun _ _ => rfl⟩ | exact ⟨_, rfl, rfl, rfl, fun _ _ => rfl⟩ | exact ⟨_, rfl, rfl, rfl⟩ | exact ⟨_, rfl, rfl⟩ | refine ⟨_, rfl, rfl, rfl, by omega, fun k hk => ?_⟩ | refine ⟨?_, ?_⟩ | fail))
    rename_i j hj
    simp only [Int.toNat_natCast, Nat.zero_add]
    refine (updH (uptoH (provS l i) j) j k (nodeH l (sibN (i / 2 ^ j) * 2 ^ j) j)).trans ?_
    exact congrFun (congrArg hashF (funext fun k => uptoH_step (provS l i) j k)) k
  · (refine xG ?_)
    have h1' : k = 16 := xW
    subst h1'
    have hf : ∀ k, k < 16 → hashF (uptoH (provS l i) 16) k = hashF (provS l i) k := fun k hk => by simp [hashF, uptoH, hk]
    refine wD <| cutE <| loopX <| blockX <| cutG <| Tri.ent (Ent.chg0 (c := 3) (g := hashF (provS l i)) rfl hf) <| Tri.of Tryz.mixed Tryz.T_ok ?_
    (refine xB ?_)
    (repeat (refine wN ?_ ?_; exact xW; refine xG ?_))
    exact wD (Ends.shutN (.inr rfl) (Ent.refl _) rfl rfl rfl)
theorem lend_acs {M : Mem} {rd : List Nat} {a : AcsM} {x y : SV} (h1 : Lends M rd (.one x) (.row 1 a.pl.length (rowW a.pl))) (h2 : Lends M rd (.one y) (.row 1 a.am.length (rowW a.am))) : Lends M rd (.agg [x, y]) (.box a.ac) := lend_box ⟨h1, h2, trivial⟩
theorem state_can (a : AcsM) (i : Nat) (hi : i < a.am.length) (h12 : i < 12) : Reads Tryz.prog 15 [.box a.ac, .plain (.one (.raw (.int .i64 i)))] [] (.cv (accA a i).x) := by
  have e1 : IntKind.i64.wrap ((i : Int) + 1) = (i : Int) + 1 := xW
  have hw := (a.am.getD i 0).toNat_lt
  have e2 : IntKind.i64.wrap (((a.am.getD i 0).toNat : Nat) : Int) = (((a.am.getD i 0).toNat : Nat) : Int) := xW
  have e3 : IntKind.i64.wrap (1 + (((a.am.getD i 0).toNat : Nat) : Int)) = 1 + (((a.am.getD i 0).toNat : Nat) : Int) := xW
  have e4 : bitI .and .i64 (i : Int) 7 = ((i % 8 : Nat) : Int) := by
    have : ∀ j, j < 12 → bitI .and .i64 ((j : Nat) : Int) 7 = ((j % 8 : Nat) : Int) := by decide
    exact this i h12
  refine Reads.of Tryz.T_ok Tryz.func15 rfl _ _ _ rfl rfl (fun C hC => ?_)
  (replace hC : C.n0 = 3 := hC; change Tri _ _ _ ⟨_, _, 3⟩ _)
  refine Tri.of Tryz.mixed Tryz.T_ok ?_
  (refine xB ?_)
  (repeat (refine wN ?_ ?_; exact xW; refine xG ?_))
  simp only [Nat.zero_add, Int.toNat_natCast, e1, e2, e3, e4]
  refine wD (Ends.plain (.inr rfl) rfl ?_)
  show _ = XV.cv (.agg [.raw (u8 119), .raw (u8 (byteI (IntKind.u8.wrap ((i : Int) + 1)))), .raw (u8 0), .raw (u8 0), .raw (u8 0), .raw (u8 0), .raw (u8 0), .raw (u8 0), .raw (.int .i64 (1 + (((a.am.getD i 0).toNat : Nat) : Int))), .raw (.int .i64 ((i % 8 : Nat) : Int))])
  rw [u8_byteI]; rfl
theorem leafA_ok (a : AcsM) (i : Nat) (h12 : i < 12) : LeafOK (plA a i : Int) (accA a i) := by
  have h1 := plA_lt a i
  have h2 := accA_amt a i
  refine ⟨⟨Int.natCast_nonneg _, by omega⟩, accA_owner a i, ⟨by omega, by omega⟩, ?_⟩
  show 0 ≤ ((i % 8 : Nat) : Int) ∧ ((i % 8 : Nat) : Int) ≤ 255
  omega
theorem putGo_placed {i : Nat} (hi : i < 65536) {h : H8} : ∀ (l : LvM) (d : Bool), Placed l → Placed (putGo i h l d)
  | [], d, _ => by cases d <;> intro x hx <;> simp [putGo] at hx; subst hx; exact hi
  | (a, z) :: r, d, hp => by
    have ih := putGo_placed hi (h := h) r (d || decide (i ≤ a)) (fun x hx => hp x (List.mem_cons_of_mem _ hx))
    intro x hx
    rw [putGo, List.mem_append, List.mem_append] at hx
    rcases hx with hx | hx | hx
    · split at hx
      · simp only [List.mem_singleton] at hx; subst hx; exact hi
      · simp at hx
    · split at hx
      · simp at hx
      · simp only [List.mem_singleton] at hx; subst hx; exact hp _ (List.mem_cons_self ..)
    · exact ih x hx
theorem treeN_placed (a : AcsM) : ∀ n, Placed (treeN a n)
  | 0 => fun x hx => by simp [treeN] at hx
  | n + 1 => putGo_placed (plA_lt a n) _ _ (treeN_placed a n)
def acsM (a : AcsM) : Mem := [(0, .ro 1 a.pl.length (rowW a.pl)), (1, .ro 1 a.am.length (rowW a.am))]
def treeSt (a : AcsM) (i : Nat) : St :=
  ⟨[none, some (XV.sv (.ptr 2 0 0 0)), none, some (XV.sv (.ptr 3 0 0 0)), some (XV.int .i64 i)] ++ List.replicate 28 none, acsM a ++ [(2, .cells 24 [.slc 0 1 0 a.pl.length, .slc 1 1 0 a.am.length]), (3, .abs (lvP (treeN a i)))], 4⟩
set_option maxHeartbeats 4000000 in
theorem tree16_can (a : AcsM) (hf : Fair a) : Makes Tryz.prog 46 [.box a.ac] [] (XV.sv (.ptr 0 0 0 0)) (.abs (lvP (treeN a a.pl.length))) := by
  have f1 := hf.few
  have f2 := hf.le
  refine Makes.of Tryz.T_ok Tryz.func46 rfl _ _ _ _ rfl rfl rfl rfl 3 (fun C hC => ?_)
  (replace hC : C.n0 = 2 := hC; change Tri _ _ _ ⟨_, _, 2⟩ _)
  (refine Tri.cut 2 Tryz.mixed Tryz.T_ok ?_; refine xZ ?_)
  refine wD <| cutG <| Tri.ent (Ent.nilc (c := 5) (e := lvT) (cs := [.raw (.slice none 0 0), .raw (.slice none 0 0)]) (j := 0) rfl rfl 3 1) <| Tri.ent (Ent.nilc (c := 5) (e := lvT) (cs := [.slc 7 1 0 0, .raw (.slice none 0 0)]) (j := 1) rfl rfl 29 8) <|
    Tri.ent (Lv.shuts [] 5 (i1 := 7) (i2 := 8) rfl rfl rfl rfl rfl rfl (Nat.le_refl _) (Nat.le_refl _) (fun i hi => absurd hi (Nat.not_lt_zero _)) (fun i hi => absurd hi (Nat.not_lt_zero _))) <| Tri.seq ?_
  (refine Tri.cut 1 Tryz.mixed Tryz.T_ok ?_; refine xZ ?_)
  refine wD <| cutG <| Tri.block ?_
  refine Tri.loop (α := { i : Nat // i ≤ a.pl.length }) (fun i => treeSt a i.1) (fun i => a.pl.length - i.1) ⟨0, Nat.zero_le _⟩ ?_ ?_
  · unfold treeSt acsM
    ((try dsimp only); refine Ent.renC [0, 1, 2, 5] hC ?_ ?_ <;> repeat' (first | exact trivial | exact rfl | exact ⟨_, rfl, rfl, rfl, Nat.le_refl _, fun _ _ => rfl⟩ | exact ⟨_, rfl, rfl, rfl, fun _ _ => rfl⟩ | exact ⟨_, rfl, rfl, rfl⟩ | exact ⟨_, rfl, rfl⟩ | refine ⟨_, rfl, rfl, rfl, by omega, fun k hk => ?_⟩ | refine ⟨?_, ?_⟩ | fail))
  rintro ⟨i, hi⟩
  unfold treeSt acsM
  dsimp only
  (refine Tri.cut 1 Tryz.mixed Tryz.T_ok ?_; refine xZ ?_)
  refine wC (fun h1 => ?_) (fun h1 => ?_)
  · (refine xG ?_)
    have h1' : i < a.pl.length := xW
    have hw : IntKind.i64.wrap ((i : Int) + 1) = ((i + 1 : Nat) : Int) := xW
    have hpl := (a.pl.getD i 0).toNat_lt
    have e2 : IntKind.i64.wrap (((a.pl.getD i 0).toNat : Nat) : Int) = ((plA a i : Nat) : Int) := by
      show IntKind.i64.wrap (((a.pl.getD i 0).toNat : Nat) : Int) = (((a.pl.getD i 0).toNat : Nat) : Int)
      exact xW
    have htl := treeN_len a i
    refine wD <| cutG <| Tri.seq <| Tri.block <| Tri.of Tryz.mixed Tryz.T_ok ?_
    (refine xB ?_)
    (repeat (refine wN ?_ ?_; exact xW; refine xG ?_))
    simp only [Nat.zero_add, Int.toNat_natCast, e2]
    (apply wP; exact (call_op rfl (entersB_of Tryz.func15 (by kernel_rfl)) rfl ((state_can a i (by omega) (by omega)).at [0, 1] ⟨lend_acs (lend_ro0 rfl rfl) (lend_ro0 rfl rfl), lend_plain rfl, trivial⟩ trivial)); refine xZ ?_)
    (apply wP; exact (call_op rfl (entersB_of Tryz.func88 (by kernel_rfl)) rfl ((leafR_can (plA a i : Int) (accA a i) (leafA_ok a i (by omega))).at [] ⟨lend_plain rfl, lend_plain rfl, trivial⟩ trivial)); refine xZ ?_)
    (apply wP; exact (call_op rfl (entersB_of Tryz.func96 (by kernel_rfl)) rfl ((put_can2 (treeN a i) (plA a i) (plA_lt a i) (leafN a i) (by omega)).at [] rfl rfl rfl ⟨lend_plain rfl, lend_plain rfl, trivial⟩ trivial)); refine xZ ?_)
    refine wD <| blockN <| cutG <| Tri.of Tryz.mixed Tryz.T_ok ?_
    (refine xB ?_)
    refine wD <| loopN ⟨⟨i + 1, h1'⟩, by dsimp only; omega, ?_⟩
    rw [hw]
    ((try dsimp only); refine Ent.renC [0, 1, 2, 3] hC ?_ ?_ <;> repeat' (first | exact trivial | exact rfl | exact ⟨_, rfl, rfl, rfl, Nat.le_refl _, fun _ _ => rfl⟩ | exact ⟨_, rfl, rfl, rfl, fun _ _ => rfl⟩ | exact ⟨_, rfl, rfl, rfl⟩ | exact ⟨_, rfl, rfl⟩ | refine ⟨_, rfl, rfl, rfl, by omega, fun k hk => ?_⟩ | refine ⟨?_, ?_⟩ | fail))
  · (refine xG ?_)
    have h1' : i = a.pl.length := xW
    subst h1'
    refine wD <| cutE <| loopX <| blockX <| cutG <| Tri.of Tryz.mixed Tryz.T_ok ?_
    (refine xB ?_)
    exact wD (Ends.made (.inr rfl) (Ent.refl _) rfl (Nat.le_of_ble_eq_true rfl) rfl)
end Go.Proofs.YtnpkdoggfnlapaaGreatDoor
namespace Go.Proofs.YtnpkdoggfnlapaaGreatDoor
set_option maxRecDepth 100000
open Go.Sx
theorem u8_is {b c : UInt8} {n : Int} (h : n = (c.toNat : Int)) : (((b.toNat : Nat) : Int) == n) = decide (b = c) := by
  rw [Bool.eq_iff_iff, beq_iff_eq, decide_eq_true_eq, h, ← UInt8.toNat_inj]
  omega
def claimTx (c : ClaimM) : TxM := ⟨5, 0, [], [], [], par0, cert0, c⟩
def claimTxC (c : ClaimM) : List SV := txCells (claimTx c) nilV nilV nilV nilV nilV nilV
theorem raws_all (vs : List Value) (p : Nat → Bool) : (vs.map SV.raw).all (SV.ok p) = true := by
  rw [List.all_map, List.all_eq_true]; intro x _; rfl
theorem claimTxC_ok (c : ClaimM) : (claimTxC c).all (SV.ok fun _ => false) = true := by
  unfold claimTxC txCells parCells certCells
  simp only [List.all_cons, List.all_append, List.all_nil, raws_all, SV.ok, Bool.and_true]
theorem claimTxX_ok (c : ClaimM) : XV.ok (fun _ => false) (.cv (.agg (claimTxC c))) = true := claimTxC_ok c
def clSt (b : UInt8) (c : ClaimM) : St :=
  ⟨[none, none, some (XV.val (u8 b)), none, none, none, some (XV.sv (.ptr 4 0 0 0)), some (XV.sv (.ptr 5 0 0 0))] ++ List.replicate 71 none, [(4, .cells 48 (txCells ⟨0, 0, [], [], [], par0, cert0, claim0⟩ nilV nilV nilV nilV nilV nilV)), (5, .cells 46 (c.cells.map .raw))], 6⟩
def txC5 (vs : List Value) : List SV := .raw (.int .i64 5) :: .raw (.int .i64 0) :: nilV :: nilV :: nilV :: (parCells par0 nilV ++ (certCells cert0 nilV nilV ++ vs.map .raw))
theorem bend3 (c : ClaimM) : (bendC 3 c).cells = c.cells.set 36 (.int .u8 (bitI .xor .u8 ((c.proof 3).b0.toNat : Int) 1)) := by
  have e : u8 (byteI (bitI .xor .u8 ((c.proof 3).b0.toNat : Int) 1)) = .int .u8 (bitI .xor .u8 ((c.proof 3).b0.toNat : Int) 1) := u8_byteI _
  rw [← e]; rfl
theorem bend4 (c : ClaimM) : (bendC 4 c).cells = c.cells.set 4 (.int .u8 (bitI .xor .u8 (c.st.owner.b2.toNat : Int) 1)) := by
  have e : u8 (byteI (bitI .xor .u8 (c.st.owner.b2.toNat : Int) 1)) = .int .u8 (bitI .xor .u8 (c.st.owner.b2.toNat : Int) 1) := u8_byteI _
  rw [← e]; rfl
set_option maxHeartbeats 8000000 in
theorem claim16_can (a : AcsM) (hf : Fair a) (i : Nat) (hi : i < 1000) (b : UInt8) : Reads Tryz.prog 17 [.box a.ac, .plain (.one (.raw (.int .i64 i))), .plain (.one (.raw (u8 b)))] [] (.cv (.agg (claimTxC (bendC b (claimN a i))))) := by
  have f1 := hf.few
  have f2 := hf.le
  refine Reads.of Tryz.T_ok Tryz.func17 rfl _ _ _ rfl (claimTxX_ok (bendC b (claimN a i))) (fun C hC => ?_)
  (replace hC : C.n0 = 4 := hC; change Tri _ _ _ ⟨_, _, 4⟩ _)
  (refine Tri.cut 2 Tryz.mixed Tryz.T_ok ?_; refine xZ ?_)
  refine wD <| cutG <| Tri.merge (clSt b (claimN a i)) (Tri.of Tryz.mixed Tryz.T_ok ?_) ?_
  · (refine xB ?_)
    refine wC (fun h1 => ?_) (fun h1 => ?_)
    · have h1' : i < a.pl.length := xW
      have hpl := (a.pl.getD i 0).toNat_lt
      have e2 : IntKind.i64.wrap (((a.pl.getD i 0).toNat : Nat) : Int) = ((plA a i : Nat) : Int) := by
        show IntKind.i64.wrap (((a.pl.getD i 0).toNat : Nat) : Int) = (((a.pl.getD i 0).toNat : Nat) : Int)
        exact xW
      have htl := treeN_len a a.pl.length
      (refine xG ?_)
      (repeat (refine wN ?_ ?_; exact xW; refine xG ?_))
      simp only [Nat.zero_add, Int.toNat_natCast, e2]
      (apply wP; exact (call_op rfl (entersB_of Tryz.func15 (by kernel_rfl)) rfl ((state_can a i (by omega) (by omega)).at [0, 1] ⟨lend_acs (lend_ro0 rfl rfl) (lend_ro0 rfl rfl), lend_plain rfl, trivial⟩ trivial)); refine xZ ?_)
      (apply wP; exact (call_op rfl (entersB_of Tryz.func46 (by kernel_rfl)) rfl ((tree16_can a hf).at [0, 1] ⟨lend_acs (lend_ro0 rfl rfl) (lend_ro0 rfl rfl), trivial⟩ trivial)); refine xZ ?_)
      (apply wP; exact (call_op rfl (entersB_of Tryz.func47 (by kernel_rfl)) rfl ((prv_can (treeN a a.pl.length) (by omega) (treeN_placed a _) (plA a i) (plA_lt a i)).at [] rfl rfl rfl ⟨lend_plain rfl, trivial⟩ trivial)); refine xZ ?_)
      refine wD ⟨rfl, ?_⟩
      rw [claimN, if_pos h1']
      unfold clSt
      ((try dsimp only); refine Ent.renC [0, 1, 2, 3, 5, 7] hC ?_ ?_ <;> repeat' (first | exact trivial | exact rfl | exact ⟨_, rfl, rfl, rfl, Nat.le_refl _, fun _ _ => rfl⟩ | exact ⟨_, rfl, rfl, rfl, fun _ _ => rfl⟩ | exact ⟨_, rfl, rfl, rfl⟩ | exact ⟨_, rfl, rfl⟩ | refine ⟨_, rfl, rfl, rfl, by omega, fun k hk => ?_⟩ | refine ⟨?_, ?_⟩ | fail))
    · have h1' : ¬ i < a.pl.length := xW
      (refine xG ?_)
      refine wD ⟨rfl, ?_⟩
      rw [claimN, if_neg h1']
      unfold clSt
      ((try dsimp only); refine Ent.renC [0, 1, 2, 3, 5, 7] hC ?_ ?_ <;> repeat' (first | exact trivial | exact rfl | exact ⟨_, rfl, rfl, rfl, Nat.le_refl _, fun _ _ => rfl⟩ | exact ⟨_, rfl, rfl, rfl, fun _ _ => rfl⟩ | exact ⟨_, rfl, rfl, rfl⟩ | exact ⟨_, rfl, rfl⟩ | refine ⟨_, rfl, rfl, rfl, by omega, fun k hk => ?_⟩ | refine ⟨?_, ?_⟩ | fail))
  · generalize claimN a i = c
    unfold clSt
    refine Tri.of Tryz.mixed Tryz.T_ok ?_
    (refine xB ?_)
    simp only [u8_is (show (1 : Int) = (((1 : UInt8).toNat : Nat) : Int) from rfl)]
    refine wC (fun h1 => ?_) (fun h1 => ?_)
    · obtain rfl := of_decide_eq_true h1
      (refine xG ?_)
      exact wD (Ends.plain (.inr rfl) rfl rfl)
    (refine xG ?_)
    simp only [u8_is (show (2 : Int) = (((2 : UInt8).toNat : Nat) : Int) from rfl)]
    refine wC (fun h2 => ?_) (fun h2 => ?_)
    · obtain rfl := of_decide_eq_true h2
      (refine xG ?_)
      exact wD (Ends.plain (.inr rfl) rfl rfl)
    (refine xG ?_)
    simp only [u8_is (show (3 : Int) = (((3 : UInt8).toNat : Nat) : Int) from rfl)]
    refine wC (fun h3 => ?_) (fun h3 => ?_)
    · obtain rfl := of_decide_eq_true h3
      (refine xG ?_)
      (repeat (refine wN ?_ ?_; exact xW; refine xG ?_))
      exact wD (Ends.plain (.inr rfl) rfl (congrArg (fun vs => XV.cv (.agg (txC5 vs))) (bend3 c).symm))
    (refine xG ?_)
    simp only [u8_is (show (4 : Int) = (((4 : UInt8).toNat : Nat) : Int) from rfl)]
    refine wC (fun h4 => ?_) (fun h4 => ?_)
    · obtain rfl := of_decide_eq_true h4
      (refine xG ?_)
      (repeat (refine wN ?_ ?_; exact xW; refine xG ?_))
      exact wD (Ends.plain (.inr rfl) rfl (congrArg (fun vs => XV.cv (.agg (txC5 vs))) (bend4 c).symm))
    (refine xG ?_)
    simp only [u8_is (show (5 : Int) = (((5 : UInt8).toNat : Nat) : Int) from rfl)]
    refine wC (fun h5 => ?_) (fun h5 => ?_)
    · obtain rfl := of_decide_eq_true h5
      (refine xG ?_)
      exact wD (Ends.plain (.inr rfl) rfl rfl)
    · have hb : bendC b c = c := by
        rw [bendC, if_neg (of_decide_eq_false h1), if_neg (of_decide_eq_false h2), if_neg (of_decide_eq_false h3), if_neg (of_decide_eq_false h4), if_neg (of_decide_eq_false h5)]
      rw [hb]
      (refine xG ?_)
      exact wD (Ends.plain (.inr rfl) rfl rfl)
def fairN (a : AcsM) : Bool := decide (a.pl.length ≤ 12) && (decide (a.pl.length ≤ a.am.length) && decide (a.am.length ≤ 50))
theorem fairB_eq (a : AcsM) : fairB a = (fairN a && (List.range a.pl.length).all (apartB a)) := by
  rw [fairB, fairN, Bool.and_assoc, Bool.and_assoc]
theorem u16_eq (a : AcsM) (i k : Nat) : (((a.pl.getD k 0).toNat : Int) == ((a.pl.getD i 0).toNat : Int)) = decide (plA a k = plA a i) := by
  rw [Bool.eq_iff_iff, beq_iff_eq, decide_eq_true_eq]
  show ((plA a k : Nat) : Int) = ((plA a i : Nat) : Int) ↔ _
  omega
def fairM (a : AcsM) : Mem := acsM a ++ [(2, .cells 24 [.slc 0 1 0 a.pl.length, .slc 1 1 0 a.am.length])]
set_option maxHeartbeats 4000000 in
theorem fair_can (a : AcsM) (hl1 : a.pl.length ≤ maxLen) (hl2 : a.am.length ≤ maxLen) : Reads Tryz.prog 14 [.box a.ac] [] (XV.bool (fairB a)) := by
  refine Reads.of Tryz.T_ok Tryz.func14 rfl _ _ _ rfl rfl (fun C hC => ?_)
  (replace hC : C.n0 = 2 := hC; change Tri _ _ _ ⟨_, _, 2⟩ _)
  rw [fairB_eq]
  have no : fairN a = false → XV.bool false = XV.bool (fairN a && (List.range a.pl.length).all (apartB a)) := fun h => by rw [h, Bool.false_and]
  simp only [maxLen] at hl1 hl2
  (refine Tri.cut 2 Tryz.mixed Tryz.T_ok ?_; refine xZ ?_)
  refine wC (fun h1 => ?_) (fun h1 => ?_)
  · (refine xG ?_)
    exact wD <| cutR <| Ends.plain (.inr rfl) rfl (no (by rw [fairN, decide_eq_false (show ¬ a.pl.length ≤ 12 by simp only [decide_eq_true_eq] at h1; omega), Bool.false_and]))
  (refine xG ?_)
  refine wC (fun h2 => ?_) (fun h2 => ?_)
  · (refine xG ?_)
    exact wD <| cutR <| Ends.plain (.inr rfl) rfl (no (by rw [fairN, decide_eq_false (show ¬ a.pl.length ≤ a.am.length by simp only [decide_eq_true_eq] at h2; omega), Bool.false_and, Bool.and_false]))
  (refine xG ?_)
  refine wC (fun h3 => ?_) (fun h3 => ?_)
  · (refine xG ?_)
    exact wD <| cutR <| Ends.plain (.inr rfl) rfl (no (by rw [fairN, decide_eq_false (show ¬ a.am.length ≤ 50 by simp only [decide_eq_true_eq] at h3; omega), Bool.and_false, Bool.and_false]))
  have hN : fairN a = true := by
    simp only [decide_eq_false_iff_not] at h1 h2 h3
    rw [fairN, decide_eq_true (show a.pl.length ≤ 12 by omega), decide_eq_true (show a.pl.length ≤ a.am.length by omega), decide_eq_true (show a.am.length ≤ 50 by omega)]; rfl
  have hpl : a.pl.length ≤ 12 := by simp only [decide_eq_false_iff_not] at h1; omega
  rw [hN, Bool.true_and]
  (refine xG ?_)
  refine wD <| cutG <| Tri.seq ?_
  (refine Tri.cut 1 Tryz.mixed Tryz.T_ok ?_; refine xZ ?_)
  refine wD <| cutG <| Tri.block ?_
  refine Tri.loop (α := { i : Nat // i ≤ a.pl.length ∧ (List.range i).all (apartB a) = true }) (fun i => ⟨[none, some (XV.sv (.ptr 2 0 0 0)), none, some (XV.int .i64 i.1)] ++ List.replicate 43 none, fairM a, 3⟩) (fun i => a.pl.length - i.1) ⟨0, Nat.zero_le _, rfl⟩ ?_ ?_
  · unfold fairM acsM
    ((try dsimp only); refine Ent.renC [0, 1, 2] hC ?_ ?_ <;> repeat' (first | exact trivial | exact rfl | exact ⟨_, rfl, rfl, rfl, Nat.le_refl _, fun _ _ => rfl⟩ | exact ⟨_, rfl, rfl, rfl, fun _ _ => rfl⟩ | exact ⟨_, rfl, rfl, rfl⟩ | exact ⟨_, rfl, rfl⟩ | refine ⟨_, rfl, rfl, rfl, by omega, fun k hk => ?_⟩ | refine ⟨?_, ?_⟩ | fail))
  rintro ⟨i, hi, ha⟩
  dsimp only
  unfold fairM acsM
  (refine Tri.cut 1 Tryz.mixed Tryz.T_ok ?_; refine xZ ?_)
  refine wC (fun k1 => ?_) (fun k1 => ?_)
  · (refine xG ?_)
    have h1' : i < a.pl.length := xW
    have hs := range_all_succ (apartB a) i
    have hw : IntKind.i64.wrap ((i : Int) + 1) = ((i + 1 : Nat) : Int) := xW
    have bad : apartB a i = false → XV.bool false = XV.bool ((List.range a.pl.length).all (apartB a)) := fun h => by rw [range_all_false h1' h]
    refine wD <| cutG <| Tri.seq <| Tri.block ?_
    refine Tri.seq (Tri.of Tryz.mixed Tryz.T_ok ?_)
    (refine xB ?_)
    refine wD <| cutG <| Tri.block ?_
    refine Tri.loop (α := { k : Nat // k ≤ i ∧ (List.range k).all (fun k => !decide (plA a k = plA a i)) = true }) (fun k => ⟨[none, some (XV.sv (.ptr 2 0 0 0)), none, some (XV.int .i64 i), some (XV.int .i64 k.1)] ++ List.replicate 42 none, fairM a, 3⟩) (fun k => i - k.1) ⟨0, Nat.zero_le _, rfl⟩ ?_ ?_
    · unfold fairM acsM
      ((try dsimp only); refine Ent.renC [0, 1, 2] hC ?_ ?_ <;> repeat' (first | exact trivial | exact rfl | exact ⟨_, rfl, rfl, rfl, Nat.le_refl _, fun _ _ => rfl⟩ | exact ⟨_, rfl, rfl, rfl, fun _ _ => rfl⟩ | exact ⟨_, rfl, rfl, rfl⟩ | exact ⟨_, rfl, rfl⟩ | refine ⟨_, rfl, rfl, rfl, by omega, fun k hk => ?_⟩ | refine ⟨?_, ?_⟩ | fail))
    rintro ⟨k, hk, hka⟩
    dsimp only
    unfold fairM acsM
    (refine Tri.cut 1 Tryz.mixed Tryz.T_ok ?_; refine xZ ?_)
    refine wC (fun k2 => ?_) (fun k2 => ?_)
    · (refine xG ?_)
      have h2' : k < i := xW
      have hw2 : IntKind.i64.wrap ((k : Int) + 1) = ((k + 1 : Nat) : Int) := xW
      have hsk := range_all_succ (fun k => !decide (plA a k = plA a i)) k
      refine wD <| cutG <| Tri.seq <| Tri.block <| Tri.of Tryz.mixed Tryz.T_ok ?_
      (refine xB ?_)
      (repeat (refine wN ?_ ?_; exact xW; refine xG ?_))
      simp only [Nat.zero_add, Int.toNat_natCast, u16_eq]
      refine wC (fun k3 => ?_) (fun k3 => ?_)
      · (refine xG ?_)
        exact wD <| blockR <| cutR <| loopR <| blockR <| blockR <| cutR <| loopR <| blockR <| cutR <| Ends.plain (.inr rfl) rfl (bad (by rw [apartB, range_all_false h2' (by rw [k3]; rfl)]))
      · (refine xG ?_)
        refine wD <| blockN <| cutG <| Tri.of Tryz.mixed Tryz.T_ok ?_
        (refine xB ?_)
        refine wD <| loopN ⟨⟨k + 1, h2', by rw [hsk, hka, k3]; rfl⟩, by dsimp only; omega, ?_⟩
        rw [hw2]
        ((try dsimp only); refine Ent.renC [0, 1, 2] hC ?_ ?_ <;> repeat' (first | exact trivial | exact rfl | exact ⟨_, rfl, rfl, rfl, Nat.le_refl _, fun _ _ => rfl⟩ | exact ⟨_, rfl, rfl, rfl, fun _ _ => rfl⟩ | exact ⟨_, rfl, rfl, rfl⟩ | exact ⟨_, rfl, rfl⟩ | refine ⟨_, rfl, rfl, rfl, by omega, fun k hk => ?_⟩ | refine ⟨?_, ?_⟩ | fail))
    · (refine xG ?_)
      have h2' : k = i := xW
      subst h2'
      refine wD <| cutE <| loopX <| blockX <| blockN <| cutG <| Tri.of Tryz.mixed Tryz.T_ok ?_
      (refine xB ?_)
      refine wD <| loopN ⟨⟨k + 1, h1', by rw [hs, ha, apartB, hka]; rfl⟩, by dsimp only; omega, ?_⟩
      rw [hw]
      ((try dsimp only); refine Ent.renC [0, 1, 2] hC ?_ ?_ <;> repeat' (first | exact trivial | exact rfl | exact ⟨_, rfl, rfl, rfl, Nat.le_refl _, fun _ _ => rfl⟩ | exact ⟨_, rfl, rfl, rfl, fun _ _ => rfl⟩ | exact ⟨_, rfl, rfl, rfl⟩ | exact ⟨_, rfl, rfl⟩ | refine ⟨_, rfl, rfl, rfl, by omega, fun k hk => ?_⟩ | refine ⟨?_, ?_⟩ | fail))
  · (refine xG ?_)
    have h1' : i = a.pl.length := xW
    subst h1'
    refine wD <| cutE <| loopX <| blockX <| cutG <| Tri.of Tryz.mixed Tryz.T_ok ?_
    (refine xB ?_)
    exact wD (Ends.plain (.inr rfl) rfl (by rw [ha]))
end Go.Proofs.YtnpkdoggfnlapaaGreatDoor

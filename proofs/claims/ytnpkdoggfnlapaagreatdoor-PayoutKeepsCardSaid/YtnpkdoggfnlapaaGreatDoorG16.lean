/- Parts Hk Hl Hm Hn. -/
import Derived.Test.YtnpkdoggfnlapaaGreatDoorG15
set_option linter.unusedSimpArgs false
set_option linter.unusedVariables false
namespace Go.Proofs.YtnpkdoggfnlapaaGreatDoor
set_option maxRecDepth 100000
open Go.Sx
def pairF (mk : Nat → Nat → H8) : Nat → List Value := fun i => (mk i 0).cells ++ (mk i 1).cells
def twoF (mk : Nat → Nat → H8) (i : Nat) : Nat → List Value := fun b => (mk i b).cells
def pairsX (mk : Nat → Nat → H8) : CV := .agg ((tabF (pairF mk) 0 16).map .raw)
def preB (mk : Nat → Nat → H8) (i : Nat) : Nat → List UInt8
  | 0 => []
  | b + 1 => preB mk i b ++ (mk i b).l
theorem preB_length (mk : Nat → Nat → H8) (i : Nat) : ∀ b, (preB mk i b).length = 8 * b
  | 0 => rfl
  | b + 1 => by simp only [preB, List.length_append, preB_length mk i b, H8.l_len]; omega
def pubSt (mk : Nat → Nat → H8) (i : Nat) : St :=
  ⟨[none, none, some (XV.sv (.ptr 2 0 0 0)), some (XV.sv (.slc 3 1 0 (16 * i))), none, none, none, none, some (.cv (pairsX mk)), some (XV.int .i64 i)] ++ List.replicate 14 none,
   [(1, .ext stepsP), (2, .cells 29 ((List.replicate 8 (u8 0)).map .raw)), (3, .vec 5 1 (16 * i) (rowB (allB mk i)))], 4⟩
def pubSt2 (mk : Nat → Nat → H8) (i b : Nat) : St :=
  ⟨[none, none, some (XV.sv (.ptr 2 0 0 0)), some (XV.sv (.slc 3 1 0 (16 * i + 8 * b))), none, none, none, none, some (.cv (pairsX mk)), some (XV.int .i64 i), none, none, some (.cv (.agg ((tabF (twoF mk i) 0 2).map .raw))), some (XV.int .i64 b)] ++ List.replicate 10 none,
   [(1, .ext stepsP), (2, .cells 29 ((List.replicate 8 (u8 0)).map .raw)), (3, .vec 5 1 (16 * i + 8 * b) (rowB (allB mk i ++ preB mk i b)))], 4⟩
set_option maxHeartbeats 4000000 in
theorem public_can (mk : Nat → Nat → H8) : Reads Tryz.prog 238 [.plain (pairsX mk)] [stepsP] (hashX (pubH mk)) := by
  refine Reads.of Tryz.T_ok Tryz.func238 rfl _ _ _ (by simp only [canX, AD.plain, pairsX, List.all_cons, List.all_nil, Bool.and_true]; exact raws_ok _ _) rfl (fun C hC => ?_)
  (replace hC : C.n0 = 2 := hC; change Tri _ _ _ ⟨_, _, 2⟩ _)
  (refine Tri.cut 2 Tryz.mixed Tryz.T_ok ?_; refine xZ ?_)
  refine wD <| cutG <| Tri.ent (Ent.nils (t := 3) rfl 5 1) <| Tri.seq ?_
  (refine Tri.cut 1 Tryz.mixed Tryz.T_ok ?_; refine xZ ?_)
  refine wD <| cutG <| Tri.block ?_
  refine Tri.loop (α := { i : Nat // i ≤ 16 }) (fun i => pubSt mk i.1) (fun i => 16 - i.1) ⟨0, Nat.zero_le _⟩ ?_ ?_
  · ((try dsimp only); refine Ent.renC [0, 1, 3, 5] hC ?_ ?_ <;> repeat' (first | exact trivial | exact rfl | exact ⟨_, rfl, rfl, rfl, Nat.le_refl _, fun _ _ => rfl⟩ | exact ⟨_, rfl, rfl, rfl, fun _ _ => rfl⟩ | exact ⟨_, rfl, rfl, rfl⟩ | exact ⟨_, rfl, rfl⟩ | refine ⟨_, rfl, rfl, rfl, by omega, fun k hk => ?_⟩ | refine ⟨?_, ?_⟩ | fail))
    exact absurd hk (Nat.not_lt_zero _)
  rintro ⟨i, hi⟩
  dsimp only
  (refine Tri.cut 2 Tryz.mixed Tryz.T_ok ?_; refine xZ ?_)
  refine wC (fun h1 => ?_) (fun h1 => ?_)
  · (refine xG ?_)
    have h1' : i < 16 := xW
    have hw : IntKind.i64.wrap ((i : Int) + 1) = ((i + 1 : Nat) : Int) := xW
    refine wD <| cutG <| Tri.seq <| Tri.block ?_
    (refine Tri.cut 2 Tryz.mixed Tryz.T_ok ?_; refine xZ ?_)
    (refine wP _ _ (index_op Tryz.T_ok (pairF mk) rfl rfl rfl rfl rfl rfl (fun _ _ => rfl) rfl (by omega) (by omega) rfl) ?_; refine xZ ?_)
    refine wD <| cutG <| Tri.block ?_
    refine Tri.loop (α := { b : Nat // b ≤ 2 }) (fun b => pubSt2 mk i b.1) (fun b => 2 - b.1) ⟨0, Nat.zero_le _⟩ ?_ ?_
    · ((try dsimp only); refine Ent.renC [0, 1, 2, 3] hC ?_ ?_ <;> repeat' (first | exact trivial | exact rfl | exact ⟨_, rfl, rfl, rfl, Nat.le_refl _, fun _ _ => rfl⟩ | exact ⟨_, rfl, rfl, rfl, fun _ _ => rfl⟩ | exact ⟨_, rfl, rfl, rfl⟩ | exact ⟨_, rfl, rfl⟩ | refine ⟨_, rfl, rfl, rfl, by omega, fun k hk => ?_⟩ | refine ⟨?_, ?_⟩ | fail))
      simp [preB]
    rintro ⟨b, hb⟩
    dsimp only
    (refine Tri.cut 2 Tryz.mixed Tryz.T_ok ?_; refine xZ ?_)
    refine wC (fun h2 => ?_) (fun h2 => ?_)
    · (refine xG ?_)
      have h2' : b < 2 := xW
      have hw2 : IntKind.i64.wrap ((b : Int) + 1) = ((b + 1 : Nat) : Int) := xW
      refine wD <| cutG <| Tri.seq <| Tri.block <| Tri.of Tryz.mixed Tryz.T_ok ?_
      (refine xB ?_)
      (refine wP _ _ (index_op Tryz.T_ok (twoF mk i) rfl rfl rfl rfl rfl rfl (fun _ _ => rfl) rfl (by omega) (by omega) rfl) ?_; refine xZ ?_)
      (refine wP _ _ (append_op Tryz.T_ok rfl rfl rfl rfl rfl [3, 6] (old_vec rfl rfl (Nat.le_refl _) rfl) (new_sla (g := rowB (mk i b).l) rfl rfl rfl (fun _ _ => rfl) rfl) rfl (fun _ _ => rfl) (by simp only [maxLen]; omega) (by dsimp only; omega)) ?_; refine xZ ?_)
      refine wD <| blockN <| cutG <| Tri.of Tryz.mixed Tryz.T_ok ?_
      (refine xB ?_)
      refine wD <| loopN ⟨⟨b + 1, h2'⟩, by dsimp only; omega, ?_⟩
      rw [hw2]
      have e1 : 16 * i + 8 * b + (((8 : Nat) : Int).toNat - (0 : Int).toNat) = 16 * i + 8 * (b + 1) := by omega
      rw [e1]
      ((try dsimp only); refine Ent.renC [0, 1, 2, 10] hC ?_ ?_ <;> repeat' (first | exact trivial | exact rfl | exact ⟨_, rfl, rfl, rfl, Nat.le_refl _, fun _ _ => rfl⟩ | exact ⟨_, rfl, rfl, rfl, fun _ _ => rfl⟩ | exact ⟨_, rfl, rfl, rfl⟩ | exact ⟨_, rfl, rfl⟩ | refine ⟨_, rfl, rfl, rfl, by omega, fun k hk => ?_⟩ | refine ⟨?_, ?_⟩ | fail))
      rw [preB, ← List.append_assoc]
      exact rowB_join (by rw [List.length_append, allB_length, preB_length]) (fun _ _ => rfl) (fun _ _ => rfl) (by rw [List.length_append, allB_length, preB_length, H8.l_len]; omega)
    · (refine xG ?_)
      have h2' : b = 2 := xW
      subst h2'
      refine wD <| cutE <| loopX <| blockX <| blockN <| cutG <| Tri.of Tryz.mixed Tryz.T_ok ?_
      (refine xB ?_)
      refine wD <| loopN ⟨⟨i + 1, h1'⟩, by dsimp only; omega, ?_⟩
      rw [hw, show 16 * i + 8 * 2 = 16 * (i + 1) by omega]
      ((try dsimp only); refine Ent.renC [0, 1, 2, 3] hC ?_ ?_ <;> repeat' (first | exact trivial | exact rfl | exact ⟨_, rfl, rfl, rfl, Nat.le_refl _, fun _ _ => rfl⟩ | exact ⟨_, rfl, rfl, rfl, fun _ _ => rfl⟩ | exact ⟨_, rfl, rfl, rfl⟩ | exact ⟨_, rfl, rfl⟩ | refine ⟨_, rfl, rfl, rfl, by omega, fun k hk => ?_⟩ | refine ⟨?_, ?_⟩ | fail))
      simp [preB, allB]
  · (refine xG ?_)
    have h1' : i = 16 := xW
    subst h1'
    obtain ⟨L, hL, hlen⟩ : ∃ L, allB mk 16 = L ∧ L.length = 16 * 16 := ⟨_, rfl, allB_length _ _⟩
    refine wD <| cutE <| loopX <| blockX <| cutG <| Tri.of Tryz.mixed Tryz.T_ok ?_
    rw [hL]
    (refine xB ?_)
    (refine wP _ _ (cellsNew_op Tryz.T_ok rfl rfl rfl) ?_; refine xZ ?_)
    (apply wP; exact (call_op rfl (entersB_of Tryz.func146 (by kernel_rfl)) rfl ((of_can 107 [L] (short1 _ _ (by rw [hlen]; decide))).at [6, 3, 1] ⟨lend_plain rfl, lend_parts [L] rfl rfl rfl ⟨lend_vecN (lo := 0) hlen.symm rfl rfl (by show 0 + L.length ≤ 16 * 16; omega) (fun i _ => by rw [Nat.zero_add]), trivial⟩, trivial⟩ ⟨lend_ext (c := 1) rfl rfl, trivial⟩)); refine xZ ?_)
    exact wD (Ends.plain (v := hashX (dig 107 [L])) (.inr rfl) rfl (by rw [pubH, hL]))
theorem H8.cells_length (h : H8) : h.cells.length = 8 := rfl
theorem updPair {f : Nat → List Value} {i : Nat} (hf : (f i).length = 16) (a b : H8) (k : Nat) : updF (updF f i 0 a.cells) i 8 b.cells k = if k = i then a.cells ++ b.cells else f k := by
  by_cases hk : k = i
  · subst hk
    rw [if_pos rfl, updF_eq, updF_eq]
    have h1 : (List.take 0 (f k) ++ a.cells ++ List.drop (0 + a.cells.length) (f k)).take 8 = a.cells := by
      rw [List.take_zero, List.nil_append, List.take_append_of_le_length (Nat.le_of_eq (H8.cells_length a).symm), List.take_of_length_le (Nat.le_of_eq (H8.cells_length a))]
    have h2 : (List.take 0 (f k) ++ a.cells ++ List.drop (0 + a.cells.length) (f k)).drop (8 + b.cells.length) = [] := by
      apply List.drop_eq_nil_of_le
      simp [H8.cells_length, hf]
    rw [h1, h2, List.append_nil]
  · rw [if_neg hk, updF_ne hk, updF_ne hk]
theorem updPair' {f : Nat → List Value} {i : Nat} (hf : (f i).length = 16) (a b : H8) (k : Nat) : updF (updF f i 8 b.cells) i 0 a.cells k = if k = i then a.cells ++ b.cells else f k := by
  by_cases hk : k = i
  · subst hk
    rw [if_pos rfl, updF_eq, updF_eq]
    have h2 : ((f k).take 8 ++ b.cells ++ (f k).drop (8 + b.cells.length)).drop (0 + a.cells.length) = b.cells := by
      have e1 : (f k).drop (8 + b.cells.length) = [] := List.drop_eq_nil_of_le (by rw [H8.cells_length]; omega)
      have e2 : ((f k).take 8).length = 8 := by rw [List.length_take]; omega
      rw [e1, List.append_nil, List.drop_append_of_le_length (by rw [e2, H8.cells_length]; decide), List.drop_eq_nil_of_le (by rw [e2, H8.cells_length]; decide), List.nil_append]
    rw [h2, List.take_zero, List.nil_append]
  · rw [if_neg hk, updF_ne hk, updF_ne hk]
def markF (mk : Nat → Nat → H8) (i : Nat) : Nat → List Value := fun k => if k < i then pairF mk k else List.replicate 16 (u8 0)
theorem markF_step (mk : Nat → Nat → H8) (i k : Nat) : (if k = i then (mk i 0).cells ++ (mk i 1).cells else markF mk i k) = markF mk (i + 1) k := by
  unfold markF
  by_cases hk : k = i
  · subst hk; rw [if_pos rfl, if_pos (Nat.lt_succ_self k)]; rfl
  · rw [if_neg hk]
    by_cases hk3 : k < i
    · rw [if_pos hk3, if_pos (by omega)]
    · rw [if_neg hk3, if_neg (by omega)]
theorem markF_length (mk : Nat → Nat → H8) (i k : Nat) : (markF mk i k).length = 16 := by
  unfold markF
  split
  · rfl
  · simp
def lpubSt (m : H8) (o s : Nat → H8) (i : Nat) : St :=
  ⟨[none, none, none, some (XV.sv (.ptr 4 0 0 0)), none, some (XV.sv (.ptr 5 0 0 0)), some (XV.sv (.ptr 6 0 0 0)), some (XV.sv (.ptr 7 0 0 0)), none, none, none, some (.cv (rowX o 16)), some (XV.int .i64 i)] ++ List.replicate 23 none,
   [(3, .ext stepsP), (4, .cells 29 (m.cells.map .raw)), (5, .vec 44 8 16 (hashF s)), (6, .cells 29 ((List.replicate 8 (u8 0)).map .raw)), (7, .vec 307 16 16 (markF (markOf m o s) i))], 8⟩
theorem bit_is {m : H8} {i b : Nat} (hi : i < 64) (hb : bitN m i = b) : Reads Tryz.prog 236 [.plain m.x, .plain (.one (.raw (.int .i64 i)))] [] (XV.int .i64 b) := hb ▸ bit_can m i hi
set_option maxHeartbeats 4000000 in
theorem lpublic_can (m : H8) (o s : Nat → H8) : Reads Tryz.prog 218 [.plain m.x, .plain (rowX o 16), .plain (rowX s 16)] [stepsP] (hashX (pubH (markOf m o s))) := by
  refine Reads.of Tryz.T_ok Tryz.func218 rfl _ _ _ (by simp only [canX, AD.plain, List.all_cons, List.all_nil, Bool.and_true, Bool.and_eq_true]; exact ⟨raws_ok _ _, raws_ok _ _, raws_ok _ _⟩) rfl (fun C hC => ?_)
  (replace hC : C.n0 = 4 := hC; change Tri _ _ _ ⟨_, _, 4⟩ _)
  (refine Tri.cut 2 Tryz.mixed Tryz.T_ok ?_; refine xZ ?_)
  refine wD <| cutG <| Tri.ent (Ent.arrT (c := 6) 8 16 (hashF s) rfl rfl rfl (fun _ _ => rfl) (by decide) rfl (by rw [hC]; decide)) <| Tri.ent (Ent.arr0 (c := 8) 16 16 (u8 0) (f := markF (markOf m o s) 0) rfl rfl rfl (by decide) rfl (by rw [hC]; decide) (fun _ _ => rfl)) <| Tri.seq ?_
  (refine Tri.cut 1 Tryz.mixed Tryz.T_ok ?_; refine xZ ?_)
  refine wD <| cutG <| Tri.block ?_
  refine Tri.loop (α := { i : Nat // i ≤ 16 }) (fun i => lpubSt m o s i.1) (fun i => 16 - i.1) ⟨0, Nat.zero_le _⟩ ?_ ?_
  · exact Ent.ren [0, 1, 2, 3, 4, 6, 7, 8] (by decide) rfl (fun i hi => by replace hi := Nat.lt_of_lt_of_eq hi hC; revert i; decide) (Nat.le_trans (Nat.le_of_eq hC) (by decide)) rfl (by repeat' (first | exact trivial | exact rfl | refine ⟨?_, ?_⟩ | fail)) (by repeat' (first | exact trivial | exact ⟨_, rfl, rfl, rfl, Nat.le_refl _, fun _ _ => rfl⟩ | exact ⟨_, rfl, rfl, rfl, fun _ _ => rfl⟩ | exact ⟨_, rfl, rfl, rfl⟩ | exact ⟨_, rfl, rfl⟩ | refine ⟨?_, ?_⟩ | fail))
  rintro ⟨i, hi⟩
  dsimp only
  (refine Tri.cut 2 Tryz.mixed Tryz.T_ok ?_; refine xZ ?_)
  refine wC (fun h1 => ?_) (fun h1 => ?_)
  · (refine xG ?_)
    have h1' : i < 16 := xW
    have hw : IntKind.i64.wrap ((i : Int) + 1) = ((i + 1 : Nat) : Int) := xW
    refine wD <| cutG <| Tri.seq <| Tri.block ?_
    (refine Tri.cut 1 Tryz.mixed Tryz.T_ok ?_; refine xZ ?_)
    (refine wP _ _ (index_op Tryz.T_ok (hashF o) rfl rfl rfl rfl rfl rfl (fun _ _ => rfl) rfl (by omega) (by omega) rfl) ?_; refine xZ ?_)
    rcases bitN_cases m i with hb | hb
    · refine wD <| cutG <| Tri.of Tryz.mixed Tryz.T_ok ?_
      (refine xB ?_)
      (apply wP; exact (call_op rfl (entersB_of Tryz.func236 (by kernel_rfl)) rfl ((bit_is (b := 0) (by omega) hb).at [] ⟨lend_plain rfl, lend_plain rfl, trivial⟩ trivial)); refine xZ ?_)
      (apply wP; exact (call_op rfl (entersB_of Tryz.func237 (by kernel_rfl)) rfl ((mark_can (o i)).at [3] ⟨lend_plain rfl, trivial⟩ ⟨lend_ext (c := 3) rfl rfl, trivial⟩)); refine xZ ?_)
      (repeat (refine wN ?_ ?_; exact xW; refine xG ?_))
      refine wD <| blockN <| cutG <| Tri.of Tryz.mixed Tryz.T_ok ?_
      (refine xB ?_)
      refine wD <| loopN ⟨⟨i + 1, h1'⟩, by dsimp only; omega, ?_⟩
      rw [hw]
      ((try dsimp only); refine Ent.renC [0, 1, 2, 3, 4, 5, 6, 7] hC ?_ ?_ <;> repeat' (first | exact trivial | exact rfl | exact ⟨_, rfl, rfl, rfl, Nat.le_refl _, fun _ _ => rfl⟩ | exact ⟨_, rfl, rfl, rfl, fun _ _ => rfl⟩ | exact ⟨_, rfl, rfl, rfl⟩ | exact ⟨_, rfl, rfl⟩ | refine ⟨_, rfl, rfl, rfl, by omega, fun k hk => ?_⟩ | refine ⟨?_, ?_⟩ | fail))
      have hm0 : (markOf m o s i 0) = markH (o i) := by unfold markOf; rw [if_pos hb.symm]
      have hm1 : (markOf m o s i 1) = s i := by unfold markOf; rw [if_neg (by omega)]
      rw [← markF_step, hm0, hm1]
      exact updPair (markF_length _ _ _) _ _ _
    · refine wD <| cutG <| Tri.of Tryz.mixed Tryz.T_ok ?_
      (refine xB ?_)
      (apply wP; exact (call_op rfl (entersB_of Tryz.func236 (by kernel_rfl)) rfl ((bit_is (b := 1) (by omega) hb).at [] ⟨lend_plain rfl, lend_plain rfl, trivial⟩ trivial)); refine xZ ?_)
      (apply wP; exact (call_op rfl (entersB_of Tryz.func237 (by kernel_rfl)) rfl ((mark_can (o i)).at [3] ⟨lend_plain rfl, trivial⟩ ⟨lend_ext (c := 3) rfl rfl, trivial⟩)); refine xZ ?_)
      (repeat (refine wN ?_ ?_; exact xW; refine xG ?_))
      refine wD <| blockN <| cutG <| Tri.of Tryz.mixed Tryz.T_ok ?_
      (refine xB ?_)
      refine wD <| loopN ⟨⟨i + 1, h1'⟩, by dsimp only; omega, ?_⟩
      rw [hw]
      ((try dsimp only); refine Ent.renC [0, 1, 2, 3, 4, 5, 6, 7] hC ?_ ?_ <;> repeat' (first | exact trivial | exact rfl | exact ⟨_, rfl, rfl, rfl, Nat.le_refl _, fun _ _ => rfl⟩ | exact ⟨_, rfl, rfl, rfl, fun _ _ => rfl⟩ | exact ⟨_, rfl, rfl, rfl⟩ | exact ⟨_, rfl, rfl⟩ | refine ⟨_, rfl, rfl, rfl, by omega, fun k hk => ?_⟩ | refine ⟨?_, ?_⟩ | fail))
      have hm0 : (markOf m o s i 0) = s i := by unfold markOf; rw [if_neg (by omega)]
      have hm1 : (markOf m o s i 1) = markH (o i) := by unfold markOf; rw [if_pos hb.symm]
      rw [← markF_step, hm0, hm1]
      exact updPair' (markF_length _ _ _) _ _ _
  · (refine xG ?_)
    have h1' : i = 16 := xW
    subst h1'
    have hf : ∀ k, k < 16 → markF (markOf m o s) 16 k = pairF (markOf m o s) k := fun k hk => by unfold markF; rw [if_pos hk]
    refine wD <| cutE <| loopX <| blockX <| cutG <| Tri.ent (Ent.chg0 (c := 7) (g := pairF (markOf m o s)) rfl hf) <| Tri.of Tryz.mixed Tryz.T_ok ?_
    (refine xB ?_)
    (repeat (refine wN ?_ ?_; exact xW; refine xG ?_))
    (apply wP; exact (call_op rfl (entersB_of Tryz.func238 (by kernel_rfl)) rfl ((public_can (markOf m o s)).at [3] ⟨lend_plain rfl, trivial⟩ ⟨lend_ext (c := 3) rfl rfl, trivial⟩)); refine xZ ?_)
    exact wD (Ends.plain (.inr rfl) rfl rfl)
end Go.Proofs.YtnpkdoggfnlapaaGreatDoor
namespace Go.Proofs.YtnpkdoggfnlapaaGreatDoor
set_option maxRecDepth 100000
open Go.Sx
def halfN (n : Nat) : Nat := 2 ^ Nat.log2 (n - 1)
theorem half_pos (n : Nat) : 0 < halfN n := Nat.two_pow_pos _
theorem half_lt {n : Nat} (h : 2 ≤ n) : halfN n < n := by
  have := Nat.log2_self_le (n := n - 1) (by omega)
  unfold halfN; omega
theorem half_eq {n k : Nat} (h : 2 ≤ n) (h1 : 2 ^ k < n) (h2 : n ≤ 2 * 2 ^ k) : halfN n = 2 ^ k := by
  unfold halfN
  congr 1
  refine (Nat.log2_eq_iff (by omega)).2 ⟨by omega, ?_⟩
  rw [Nat.pow_succ]; omega
def rootF : Nat → (Nat → H8) → Nat → H8
  | 0, _, _ => zeroH
  | f + 1, h, n => if n = 0 then zeroH else if n = 1 then leafH (h 0) else joinH (rootF f h (halfN n)) (rootF f (fun i => h (halfN n + i)) (n - halfN n))
def rootN (h : Nat → H8) (n : Nat) : H8 := rootF n h n
theorem rootF_fuel : ∀ (f g n : Nat) (h : Nat → H8), n ≤ f → n ≤ g → rootF f h n = rootF g h n
  | 0, g, n, h, h1, _ => by
    obtain rfl : n = 0 := by omega
    cases g with
    | zero => rfl
    | succ g => simp [rootF]
  | f + 1, 0, n, h, _, h2 => by
    obtain rfl : n = 0 := by omega
    simp [rootF]
  | f + 1, g + 1, n, h, h1, h2 => by
    simp only [rootF]
    by_cases h0 : n = 0
    · rw [if_pos h0, if_pos h0]
    · by_cases h3 : n = 1
      · rw [if_neg h0, if_neg h0, if_pos h3, if_pos h3]
      · have a1 := half_pos n
        have a2 := half_lt (n := n) (by omega)
        rw [if_neg h0, if_neg h0, if_neg h3, if_neg h3, rootF_fuel f g _ _ (by omega) (by omega), rootF_fuel f g _ _ (by omega) (by omega)]
theorem rootN_step {n : Nat} (hn : 2 ≤ n) (h : Nat → H8) : rootN h n = joinH (rootN h (halfN n)) (rootN (fun i => h (halfN n + i)) (n - halfN n)) := by
  have a1 := half_pos n
  have a2 := half_lt hn
  obtain ⟨m, rfl⟩ : ∃ m, n = m + 1 := ⟨n - 1, by omega⟩
  unfold rootN
  rw [rootF, if_neg (by omega), if_neg (by omega)]
  congr 1
  · exact rootF_fuel _ _ _ _ (by omega) (by omega)
  · exact rootF_fuel _ _ _ _ (by omega) (by omega)
def turnsF : Nat → Nat → Nat → List Bool
  | 0, _, _ => []
  | f + 1, i, n => if n ≤ 1 then [] else if i < halfN n then turnsF f i (halfN n) ++ [false] else turnsF f (i - halfN n) (n - halfN n) ++ [true]
def turnsN (i n : Nat) : List Bool := turnsF n i n
theorem turnsF_fuel : ∀ (f g i n : Nat), n ≤ f → n ≤ g → turnsF f i n = turnsF g i n
  | 0, g, i, n, h1, _ => by
    obtain rfl : n = 0 := by omega
    cases g with
    | zero => rfl
    | succ g => simp [turnsF]
  | f + 1, 0, i, n, _, h2 => by
    obtain rfl : n = 0 := by omega
    simp [turnsF]
  | f + 1, g + 1, i, n, h1, h2 => by
    simp only [turnsF]
    by_cases h0 : n ≤ 1
    · rw [if_pos h0, if_pos h0]
    · have a1 := half_pos n
      have a2 := half_lt (n := n) (by omega)
      rw [if_neg h0, if_neg h0, turnsF_fuel f g _ _ (by omega) (by omega), turnsF_fuel f g _ _ (by omega) (by omega)]
theorem turnsN_one {i n : Nat} (h : n ≤ 1) : turnsN i n = [] := by
  unfold turnsN
  cases n with
  | zero => rfl
  | succ n => rw [turnsF, if_pos h]
theorem turnsN_step {i n : Nat} (hn : 2 ≤ n) : turnsN i n = if i < halfN n then turnsN i (halfN n) ++ [false] else turnsN (i - halfN n) (n - halfN n) ++ [true] := by
  have a1 := half_pos n
  have a2 := half_lt hn
  obtain ⟨m, rfl⟩ : ∃ m, n = m + 1 := ⟨n - 1, by omega⟩
  unfold turnsN
  rw [turnsF, if_neg (by omega), turnsF_fuel m _ i _ (by omega) (Nat.le_refl _), turnsF_fuel m _ (i - halfN (m + 1)) _ (by omega) (Nat.le_refl _)]
theorem turnsN_length : ∀ (n i : Nat), (turnsN i n).length ≤ n
  | n, i => by
    by_cases h : n ≤ 1
    · rw [turnsN_one h]; simp
    · have a1 := half_pos n
      have a2 := half_lt (n := n) (by omega)
      rw [turnsN_step (by omega)]
      split
      · have := turnsN_length (halfN n) i
        simp; omega
      · have := turnsN_length (n - halfN n) (i - halfN n)
        simp; omega
  termination_by n => n
def proveF : Nat → (Nat → H8) → Nat → Nat → List H8
  | 0, _, _, _ => []
  | f + 1, h, n, i => if n ≤ 1 then [] else if i < halfN n then proveF f h (halfN n) i ++ [rootN (fun j => h (halfN n + j)) (n - halfN n)] else proveF f (fun j => h (halfN n + j)) (n - halfN n) (i - halfN n) ++ [rootN h (halfN n)]
def proveN (h : Nat → H8) (n i : Nat) : List H8 := proveF n h n i
theorem proveF_fuel : ∀ (f g n i : Nat) (h : Nat → H8), n ≤ f → n ≤ g → proveF f h n i = proveF g h n i
  | 0, g, n, i, h, h1, _ => by
    obtain rfl : n = 0 := by omega
    cases g with
    | zero => rfl
    | succ g => simp [proveF]
  | f + 1, 0, n, i, h, _, h2 => by
    obtain rfl : n = 0 := by omega
    simp [proveF]
  | f + 1, g + 1, n, i, h, h1, h2 => by
    simp only [proveF]
    by_cases h0 : n ≤ 1
    · rw [if_pos h0, if_pos h0]
    · have a1 := half_pos n
      have a2 := half_lt (n := n) (by omega)
      rw [if_neg h0, if_neg h0, proveF_fuel f g _ _ _ (by omega) (by omega), proveF_fuel f g _ _ _ (by omega) (by omega)]
theorem proveN_one {h : Nat → H8} {i n : Nat} (hn : n ≤ 1) : proveN h n i = [] := by
  unfold proveN
  cases n with
  | zero => rfl
  | succ n => rw [proveF, if_pos hn]
theorem proveN_step {h : Nat → H8} {i n : Nat} (hn : 2 ≤ n) : proveN h n i = if i < halfN n then proveN h (halfN n) i ++ [rootN (fun j => h (halfN n + j)) (n - halfN n)] else proveN (fun j => h (halfN n + j)) (n - halfN n) (i - halfN n) ++ [rootN h (halfN n)] := by
  have a1 := half_pos n
  have a2 := half_lt hn
  obtain ⟨m, rfl⟩ : ∃ m, n = m + 1 := ⟨n - 1, by omega⟩
  unfold proveN
  rw [proveF, if_neg (by omega), proveF_fuel m _ _ i _ (by omega) (Nat.le_refl _), proveF_fuel m _ _ (i - halfN (m + 1)) _ (by omega) (Nat.le_refl _)]
theorem proveN_length : ∀ (n i : Nat) (h : Nat → H8), (proveN h n i).length = (turnsN i n).length
  | n, i, h => by
    by_cases h0 : n ≤ 1
    · rw [turnsN_one h0, proveN_one h0]; rfl
    · have a1 := half_pos n
      have a2 := half_lt (n := n) (by omega)
      rw [turnsN_step (by omega), proveN_step (by omega)]
      split
      · simp [proveN_length (halfN n) i h]
      · simp [proveN_length (n - halfN n) (i - halfN n)]
  termination_by n => n
def stepU (x : H8) (b : Bool) (p : H8) : H8 := if b = true then joinH p x else joinH x p
def upL : H8 → List Bool → List H8 → H8
  | x, b :: bs, p :: ps => upL (stepU x b p) bs ps
  | x, _, _ => x
theorem upL_snoc (b : Bool) (p : H8) : ∀ (bs : List Bool) (ps : List H8) (x : H8), bs.length = ps.length → upL x (bs ++ [b]) (ps ++ [p]) = stepU (upL x bs ps) b p
  | [], [], _, _ => rfl
  | _ :: bs, _ :: ps, x, h => upL_snoc b p bs ps _ (by simpa using h)
  | [], _ :: _, _, h => by simp at h
  | _ :: _, [], _, h => by simp at h
theorem prove_leads : ∀ (n i : Nat) (h : Nat → H8), i < n → upL (leafH (h i)) (turnsN i n) (proveN h n i) = rootN h n
  | n, i, h, hi => by
    by_cases h0 : n ≤ 1
    · obtain rfl : n = 1 := by omega
      obtain rfl : i = 0 := by omega
      rfl
    · have a1 := half_pos n
      have a2 := half_lt (n := n) (by omega)
      rw [turnsN_step (by omega), proveN_step (by omega), rootN_step (n := n) (by omega) h]
      by_cases hk : i < halfN n
      · rw [if_pos hk, if_pos hk, upL_snoc _ _ _ _ _ (proveN_length _ _ _).symm, prove_leads (halfN n) i h hk]
        rfl
      · rw [if_neg hk, if_neg hk, upL_snoc _ _ _ _ _ (proveN_length _ _ _).symm]
        have := prove_leads (n - halfN n) (i - halfN n) (fun j => h (halfN n + j)) (by omega)
        rw [show halfN n + (i - halfN n) = i by omega] at this
        rw [this]
        rfl
  termination_by n => n
def listH (p : Nat → H8) (L : Nat) : List H8 := (List.range L).map p
theorem listH_succ (p : Nat → H8) (L : Nat) : listH p (L + 1) = listH p L ++ [p L] := by simp [listH, List.range_succ]
theorem listH_length (p : Nat → H8) (L : Nat) : (listH p L).length = L := by simp [listH]
theorem listH_getD (l : List H8) : listH (fun i => l.getD i zeroH) l.length = l := by
  apply List.ext_getElem?
  intro i
  by_cases h : i < l.length
  · simp [listH, h]
  · rw [List.getElem?_eq_none (by simp [listH]; omega), List.getElem?_eq_none (by omega)]
def leads (root x : H8) (i n : Nat) (p : Nat → H8) (L : Nat) : Bool := decide (L = (turnsN i n).length) && decide (upL (leafH x) (turnsN i n) (listH p L) = root)
theorem leads_true {root x : H8} {i n L : Nat} {p : Nat → H8} (h : Nat → H8) (hi : i < n) (hx : x = h i) (hr : root = rootN h n) (hL : L = (proveN h n i).length) (hp : ∀ k, k < L → p k = (proveN h n i).getD k zeroH) : leads root x i n p L = true := by
  have e : listH p L = proveN h n i := by
    rw [← listH_getD (proveN h n i), ← hL]
    exact List.map_congr_left fun k hk => hp k (List.mem_range.1 hk)
  simp only [leads, Bool.and_eq_true, decide_eq_true_eq]
  exact ⟨by rw [hL, proveN_length], by rw [e, hx, hr]; exact prove_leads n i h hi⟩
end Go.Proofs.YtnpkdoggfnlapaaGreatDoor
namespace Go.Proofs.YtnpkdoggfnlapaaGreatDoor
set_option maxRecDepth 100000
open Go.Sx
theorem strIndex_op {P : Program} {T : TyTab} {S : St} {d : Nat} {o : Oper} (hT : TabOK P T) {t : TypeId} {x i : Operand} {td : TyD} {s : ByteArray} {k : IntKind} {n : Int} (b : UInt8) (ho : o.op = .index t x i) (ht : T t = some td) (hd : td.desc = .str)
    (hx : S.ev x = some (XV.val (.string s))) (hi : S.ev i = some (XV.int k n)) (h0 : 0 ≤ n) (hb : s[n.toNat]? = some b) : OpSound P S d o { v := XV.int .u8 (b.toNat : Int) } [] := by
  refine pure_op fun β w a hops => ?_
  have e2 := hops x (by rw [ho]; simp [Op.operands]) _ hx
  have e3 := hops i (by rw [ho]; simp [Op.operands]) _ hi
  simp only [XV.rel, CV.rel, SV.rel] at e2 e3
  have hu := under_str hT ht hd
  exact ⟨.int .u8 (b.toNat : Int), by simp [execOp, ho, e2, e3, Instr.index, asIntOf, run_underlying hu, h0, hb], rfl⟩
def len8 (y : Nat) : UInt8 := if y = 0 then 0 else UInt8.ofNat (Nat.log2 y + 1)
theorem strTab {s : ByteArray} {g : Nat → UInt8} {m : Nat} (h : ((List.range m).all fun y => s[y]? == some (g y)) = true) {y : Nat} (hy : y < m) : s[y]? = some (g y) := by
  have := List.all_eq_true.1 h y (List.mem_range.2 hy)
  exact eq_of_beq this
theorem log2_256 {x : Nat} (h : 256 ≤ x) : Nat.log2 x = 8 + Nat.log2 (x / 256) := by
  have h1 := Nat.log2_self_le (n := x / 256) (by omega)
  have h2 := Nat.lt_log2_self (n := x / 256)
  refine (Nat.log2_eq_iff (by omega)).2 ⟨?_, ?_⟩
  · rw [Nat.pow_add]
    have := Nat.mul_le_mul_left (2 ^ 8) h1
    omega
  · rw [show 8 + (x / 256).log2 + 1 = 8 + ((x / 256).log2 + 1) by omega, Nat.pow_add]
    have := Nat.mul_le_mul_left (2 ^ 8) (Nat.succ_le_of_lt h2)
    omega
theorem len8_toNat {y : Nat} (h0 : y ≠ 0) (h : y < 256) : (len8 y).toNat = Nat.log2 y + 1 := by
  have h1 : Nat.log2 y < 8 := (Nat.log2_lt h0).2 h
  unfold len8
  rw [if_neg h0, UInt8.toNat_ofNat']
  omega
set_option maxHeartbeats 1000000 in
theorem len64_can (x : Nat) (h1 : 1 ≤ x) (h2 : x < 65536) : Reads Tryz.prog 229 [.plain (.one (.raw (.int .u64 x)))] [] (XV.int .i64 ((Nat.log2 x + 1 : Nat) : Int)) := by
  have hl : Nat.log2 x < 16 := (Nat.log2_lt (by omega)).2 h2
  refine Reads.of Tryz.T_ok Tryz.func229 rfl _ _ _ rfl rfl (fun C hC => ?_)
  (replace hC : C.n0 = 1 := hC; change Tri _ _ _ ⟨_, _, 1⟩ _)
  refine Tri.of Tryz.mixed Tryz.T_ok ?_
  (refine xB ?_)
  refine wC (fun h => ?_) (fun _ => ?_)
  · have : False := xW
    exact this.elim
  (refine xG ?_)
  refine wC (fun h => ?_) (fun _ => ?_)
  · have : False := xW
    exact this.elim
  (refine xG ?_)
  refine wC (fun h => ?_) (fun h => ?_)
  · have hx : 256 ≤ x := xW
    have e : IntKind.u8.wrap (shrI .u64 (x : Int) 8) = ((x / 256 : Nat) : Int) := by
      rw [show (8 : Int) = ((8 : Nat) : Int) from rfl, shr_nat _ _ _ (by decide), IntKind.wrap_u8]
      omega
    (refine xG ?_)
    simp only [e]
    (refine wP _ _ (strIndex_op Tryz.T_ok (len8 (x / 256)) rfl rfl rfl rfl rfl (Int.natCast_nonneg _) (strTab (m := 256) (by kernel_rfl) (y := x / 256) (by omega))) ?_; refine xZ ?_)
    refine wD (Ends.plain (.inr rfl) rfl ?_)
    rw [len8_toNat (by omega) (by omega), log2_256 hx]
    exact congrArg (fun n : Int => XV.int .i64 n) (by simp only [IntKind.wrap_i64]; have := log2_256 hx; omega)
  · have hx : x < 256 := xW
    have e : IntKind.u8.wrap (x : Int) = ((x : Nat) : Int) := by rw [IntKind.wrap_u8]; omega
    (refine xG ?_)
    simp only [e]
    (refine wP _ _ (strIndex_op Tryz.T_ok (len8 x) rfl rfl rfl rfl rfl (Int.natCast_nonneg _) (strTab (m := 256) (by kernel_rfl) (y := x) (by omega))) ?_; refine xZ ?_)
    refine wD (Ends.plain (.inr rfl) rfl ?_)
    rw [len8_toNat (by omega) (by omega)]
    exact congrArg (fun n : Int => XV.int .i64 n) (by simp only [IntKind.wrap_i64]; omega)
theorem len_can (x : Nat) (h1 : 1 ≤ x) (h2 : x < 65536) : Reads Tryz.prog 205 [.plain (.one (.raw (.int .u64 x)))] [] (XV.int .i64 ((Nat.log2 x + 1 : Nat) : Int)) := by
  have e : IntKind.u64.wrap (x : Int) = x := by rw [IntKind.wrap_u64]; omega
  refine Reads.of Tryz.T_ok Tryz.func205 rfl _ _ _ rfl rfl (fun C hC => ?_)
  (replace hC : C.n0 = 1 := hC; change Tri _ _ _ ⟨_, _, 1⟩ _)
  refine Tri.of Tryz.mixed Tryz.T_ok ?_
  (refine xB ?_)
  (apply wP; exact (call_op rfl (entersB_of Tryz.func229 (by kernel_rfl)) rfl ((len64_can x h1 h2).at [] ⟨lend_plain rfl, trivial⟩ trivial)); refine xZ ?_)
  exact wD (Ends.plain (.inr rfl) rfl rfl)
theorem half_can (n : Nat) (h1 : 2 ≤ n) (h2 : n ≤ 65536) : Reads Tryz.prog 246 [.plain (.one (.raw (.int .i64 n)))] [] (XV.int .i64 (halfN n)) := by
  have e1 : IntKind.u64.wrap (IntKind.i64.wrap ((n : Int) - 1)) = ((n - 1 : Nat) : Int) := by simp only [IntKind.wrap_u64, IntKind.wrap_i64]; omega
  have hl : Nat.log2 (n - 1) < 16 := (Nat.log2_lt (by omega)).2 (by omega)
  have e2 : IntKind.i64.wrap (((Nat.log2 (n - 1) + 1 : Nat) : Int) - 1) = ((Nat.log2 (n - 1) : Nat) : Int) := by simp only [IntKind.wrap_i64]; omega
  refine Reads.of Tryz.T_ok Tryz.func246 rfl _ _ _ rfl rfl (fun C hC => ?_)
  (replace hC : C.n0 = 1 := hC; change Tri _ _ _ ⟨_, _, 1⟩ _)
  refine Tri.of Tryz.mixed Tryz.T_ok ?_
  (refine xB ?_)
  simp only [e1]
  (apply wP; exact (call_op rfl (entersB_of Tryz.func205 (by kernel_rfl)) rfl ((len_can (n - 1) (by omega) (by omega)).at [] ⟨lend_plain rfl, trivial⟩ trivial)); refine xZ ?_)
  simp only [e2]
  (repeat (refine wN ?_ ?_; exact xW; refine xG ?_))
  refine wD (Ends.plain (.inr rfl) rfl ?_)
  refine congrArg (fun n : Int => XV.int .i64 n) ?_
  have e3 : min (((Nat.log2 (n - 1) : Nat) : Int).toNat) IntKind.i64.bits = Nat.log2 (n - 1) := by
    rw [Int.toNat_natCast]
    exact Nat.min_eq_left (Nat.le_trans (Nat.le_of_lt hl) (by decide))
  have hp : 2 ^ Nat.log2 (n - 1) < 2 ^ 16 := Nat.pow_lt_pow_right (by decide) hl
  rw [shlI, e3, Int.one_mul, show ((2 : Int) ^ Nat.log2 (n - 1)) = ((2 ^ Nat.log2 (n - 1) : Nat) : Int) by rw [Int.natCast_pow]; rfl, IntKind.wrap_i64]
  unfold halfN
  obtain ⟨p, hp'⟩ : ∃ p, 2 ^ Nat.log2 (n - 1) = p := ⟨_, rfl⟩
  rw [hp'] at hp ⊢
  omega
def boolsF (l : List Bool) : Nat → List Value := fun i => [.bool (l.getD i false)]
theorem boolsF_cons {b : Bool} {l : List Bool} {f g : Nat → List Value} {k : Nat} (hf : f 0 = [.bool b]) (hg : ∀ i, i < l.length → g i = boolsF l i) (hk : k < l.length + 1) : joinF f 1 g k = boolsF (b :: l) k := by
  cases k with
  | zero =>
    have : Nat.blt 0 1 = true := rfl
    simp [joinF, hf, boolsF, this]
  | succ k =>
    have : Nat.blt (k + 1) 1 = false := by rw [nblt]; simp
    rw [joinF, this, cond_false, Nat.add_sub_cancel]
    rw [hg k (by omega)]
    simp [boolsF]
def turnSt (i n : Nat) (l : List Bool) : St :=
  ⟨[some (XV.int .i64 i), some (XV.int .i64 n), none, none, none, some (XV.sv (.slc 2 1 0 l.length))] ++ List.replicate 22 none, [(2, .vec 4 1 l.length (boolsF l))], 3⟩
set_option maxHeartbeats 1000000 in
theorem turns_can (i0 n0 : Nat) (h1 : i0 < n0) (h2 : n0 ≤ 65536) : Makes Tryz.prog 233 [.plain (.one (.raw (.int .i64 i0))), .plain (.one (.raw (.int .i64 n0)))] [] (XV.sv (.slc 0 1 0 (turnsN i0 n0).length)) (.vec 4 1 (turnsN i0 n0).length (boolsF (turnsN i0 n0))) := by
  refine Makes.of Tryz.T_ok Tryz.func233 rfl _ _ _ _ rfl rfl rfl rfl 2 (fun C hC => ?_)
  (replace hC : C.n0 = 2 := hC; change Tri _ _ _ ⟨_, _, 2⟩ _)
  (refine Tri.cut 2 Tryz.mixed Tryz.T_ok ?_; refine xZ ?_)
  refine wD <| cutG <| Tri.ent (Ent.nils (t := 5) rfl 4 1) <| Tri.seq <| Tri.block ?_
  refine Tri.loop (α := { x : Nat × Nat × List Bool // x.1 < x.2.1 ∧ x.2.1 ≤ 65536 ∧ x.2.2.length + x.2.1 ≤ 65536 ∧ turnsN x.1 x.2.1 ++ x.2.2 = turnsN i0 n0 }) (fun x => turnSt x.1.1 x.1.2.1 x.1.2.2) (fun x => x.1.2.1) ⟨(i0, n0, []), h1, h2, by simpa using h2, List.append_nil _⟩ ?_ ?_
  · ((try dsimp only); refine Ent.renC [0, 1, 4] hC ?_ ?_ <;> repeat' (first | exact trivial | exact rfl | exact ⟨_, rfl, rfl, rfl, Nat.le_refl _, fun _ _ => rfl⟩ | exact ⟨_, rfl, rfl, rfl, fun _ _ => rfl⟩ | exact ⟨_, rfl, rfl, rfl⟩ | exact ⟨_, rfl, rfl⟩ | refine ⟨_, rfl, rfl, rfl, by omega, fun k hk => ?_⟩ | refine ⟨?_, ?_⟩ | fail))
    · exact Nat.le_refl _
    · exact fun k hk => absurd hk (Nat.not_lt_zero _)
  rintro ⟨⟨i, n, l⟩, hi, hn, hl, ht⟩
  dsimp only at hi hn hl ht ⊢
  (refine Tri.cut 1 Tryz.mixed Tryz.T_ok ?_; refine xZ ?_)
  refine wC (fun h3 => ?_) (fun h3 => ?_)
  · have h3' : 1 < n := xW
    have a1 := half_pos n
    have a2 := half_lt (n := n) (by omega)
    have e1 : IntKind.i64.wrap ((i : Int) - (halfN n : Int)) = ((i : Int) - (halfN n : Int)) := xW
    (refine xG ?_)
    refine wD <| cutG <| Tri.block <| Tri.of Tryz.mixed Tryz.T_ok ?_
    (refine xB ?_)
    (apply wP; exact (call_op rfl (entersB_of Tryz.func246 (by kernel_rfl)) rfl ((half_can n (by omega) hn).at [] ⟨lend_plain rfl, trivial⟩ trivial)); refine xZ ?_)
    (refine wP _ _ (append_op Tryz.T_ok rfl rfl rfl rfl rfl [13, 2] (old_vec rfl rfl (Nat.le_refl _) rfl) (new_vec (lo := 0) rfl rfl (by omega) rfl) rfl (fun _ _ => rfl) (by simp only [maxLen]; omega) (by dsimp only; omega)) ?_; refine xZ ?_)
    refine wC (fun h4 => ?_) (fun h4 => ?_)
    · have h4' : halfN n ≤ i := xW
      have w1 : IntKind.i64.wrap ((i : Int) - (halfN n : Int)) = ((i - halfN n : Nat) : Int) := xW
      have w2 : IntKind.i64.wrap ((n : Int) - (halfN n : Int)) = ((n - halfN n : Nat) : Int) := xW
      (refine xG ?_)
      refine wD <| blockN <| loopN ⟨⟨(i - halfN n, n - halfN n, true :: l), by dsimp only; omega, by dsimp only; omega, by simp only [List.length_cons]; omega, ?_⟩, by dsimp only; omega, ?_⟩
      · dsimp only
        rw [← ht, turnsN_step (n := n) (by omega), if_neg (by omega), List.append_assoc]; rfl
      rw [w1, w2, h4, Nat.add_comm 1]
      ((try dsimp only); refine Ent.renC [0, 1, 15] hC ?_ ?_ <;> repeat' (first | exact trivial | exact rfl | exact ⟨_, rfl, rfl, rfl, Nat.le_refl _, fun _ _ => rfl⟩ | exact ⟨_, rfl, rfl, rfl, fun _ _ => rfl⟩ | exact ⟨_, rfl, rfl, rfl⟩ | exact ⟨_, rfl, rfl⟩ | refine ⟨_, rfl, rfl, rfl, by omega, fun k hk => ?_⟩ | refine ⟨?_, ?_⟩ | fail))
      · exact Nat.le_refl _
      · exact fun k hk => boolsF_cons rfl (fun _ _ => by rw [Nat.zero_add]) hk
    · have h4' : i < halfN n := xW
      (refine xG ?_)
      refine wD <| blockN <| loopN ⟨⟨(i, halfN n, false :: l), h4', by dsimp only; omega, by simp only [List.length_cons]; omega, ?_⟩, by dsimp only; omega, ?_⟩
      · dsimp only
        rw [← ht, turnsN_step (n := n) (by omega), if_pos h4', List.append_assoc]; rfl
      rw [h4, Nat.add_comm 1]
      ((try dsimp only); refine Ent.renC [0, 1, 15] hC ?_ ?_ <;> repeat' (first | exact trivial | exact rfl | exact ⟨_, rfl, rfl, rfl, Nat.le_refl _, fun _ _ => rfl⟩ | exact ⟨_, rfl, rfl, rfl, fun _ _ => rfl⟩ | exact ⟨_, rfl, rfl, rfl⟩ | exact ⟨_, rfl, rfl⟩ | refine ⟨_, rfl, rfl, rfl, by omega, fun k hk => ?_⟩ | refine ⟨?_, ?_⟩ | fail))
      · exact Nat.le_refl _
      · exact fun k hk => boolsF_cons rfl (fun _ _ => by rw [Nat.zero_add]) hk
  · have h3' : n ≤ 1 := xW
    rw [turnsN_one h3', List.nil_append] at ht
    (refine xG ?_)
    refine wD <| cutE <| loopX <| blockX <| cutG <| Tri.of Tryz.mixed Tryz.T_ok ?_
    rw [ht]
    (refine xB ?_)
    exact wD (Ends.made (.inr rfl) (Ent.refl _) rfl (Nat.le_refl _) rfl)
def upTo (x : H8) (i n : Nat) (p : Nat → H8) (k : Nat) : H8 := upL (leafH x) ((turnsN i n).take k) (listH p k)
theorem upTo_step {x : H8} {i n : Nat} {p : Nat → H8} {k : Nat} (hk : k < (turnsN i n).length) : upTo x i n p (k + 1) = stepU (upTo x i n p k) ((turnsN i n).getD k false) (p k) := by
  unfold upTo
  rw [List.take_add_one, listH_succ]
  have : (turnsN i n)[k]?.toList = [(turnsN i n).getD k false] := by
    rw [List.getElem?_eq_getElem hk, List.getD_eq_getElem?_getD, List.getElem?_eq_getElem hk]; rfl
  rw [this]
  exact upL_snoc _ _ _ _ _ (by rw [listH_length, List.length_take]; omega)
def mchkSt (root h : H8) (i n L : Nat) (p : Nat → H8) (k : Nat) : St :=
  ⟨[none, none, none, none, none, some (XV.sv (.ptr 6 0 0 0)), none, none, none, none, none, some (XV.sv (.slc 7 1 0 L)), some (XV.sv (.ptr 8 0 0 0))] ++ List.replicate 27 none ++ [some (XV.sv (.slc 4 8 0 L)), some (XV.int .i64 L), some (XV.int .i64 k)] ++ List.replicate 18 none,
   [(4, .ro 8 L (hashF p)), (5, .ext stepsP), (6, .cells 29 (root.cells.map .raw)), (7, .vec 4 1 L (boolsF (turnsN i n))), (8, .cells 29 (h.cells.map .raw))], 9⟩
set_option maxHeartbeats 2000000 in
theorem mcheck_can (root x : H8) (i n L : Nat) (p : Nat → H8) (hi : i < n) (hn : n ≤ 65536) (hL : L ≤ 1000000000) : Reads Tryz.prog 217 [.plain root.x, .plain x.x, .plain (.one (.raw (.int .i64 i))), .plain (.one (.raw (.int .i64 n))), .row 8 L (hashF p)] [stepsP] (XV.bool (leads root x i n p L)) := by
  refine Reads.of Tryz.T_ok Tryz.func217 rfl _ _ _ rfl rfl (fun C hC => ?_)
  (replace hC : C.n0 = 6 := hC; change Tri _ _ _ ⟨_, _, 6⟩ _)
  (refine Tri.cut 4 Tryz.mixed Tryz.T_ok ?_; refine xZ ?_)
  (refine wFd ?_ ?_; (first | refine decide_eq_false ?_ | rw [beq_eq_false_iff_ne] | rw [bne_eq_false_iff_eq]); exact xW; refine xG ?_)
  (refine wFd ?_ ?_; (first | refine decide_eq_false ?_ | rw [beq_eq_false_iff_ne] | rw [bne_eq_false_iff_eq]); exact xW; refine xG ?_)
  (refine wFd ?_ ?_; (first | refine decide_eq_false ?_ | rw [beq_eq_false_iff_ne] | rw [bne_eq_false_iff_eq]); exact xW; refine xG ?_)
  (refine wFd ?_ ?_; (first | refine decide_eq_false ?_ | rw [beq_eq_false_iff_ne] | rw [bne_eq_false_iff_eq]); exact xW; refine xG ?_)
  (apply wP; exact (call_op rfl (entersB_of Tryz.func233 (by kernel_rfl)) rfl ((turns_can i n hi hn).at [] ⟨lend_plain rfl, lend_plain rfl, trivial⟩ trivial)); refine xZ ?_)
  refine wC (fun h1 => ?_) (fun h1 => ?_)
  · have h1' : ¬ L = (turnsN i n).length := by
      intro e; rw [← e] at h1; simp at h1
    (refine xG ?_)
    refine wD <| cutR <| Ends.plain (.inr rfl) rfl ?_
    have : leads root x i n p L = false := by unfold leads; rw [decide_eq_false h1']; rfl
    rw [this]
  · have h1' : L = (turnsN i n).length := by
      have : ((turnsN i n).length : Int) = (L : Int) := by simpa using h1
      omega
    (refine xG ?_)
    refine wD <| cutG ?_
    (refine Tri.cut 1 Tryz.mixed Tryz.T_ok ?_; refine xZ ?_)
    (apply wP; exact (call_op rfl (entersB_of Tryz.func234 (by kernel_rfl)) rfl ((leaf_can x).at [5] ⟨lend_plain rfl, trivial⟩ ⟨lend_ext (c := 5) rfl rfl, trivial⟩)); refine xZ ?_)
    refine wD <| cutG <| Tri.seq ?_
    (refine Tri.cut 1 Tryz.mixed Tryz.T_ok ?_; refine xZ ?_)
    rw [← h1']
    refine wD <| cutG <| Tri.block ?_
    refine Tri.loop (α := { k : Nat // k ≤ L }) (fun k => mchkSt root (upTo x i n p k.1) i n L p k.1) (fun k => L - k.1) ⟨0, Nat.zero_le _⟩ ?_ ?_
    · ((try dsimp only); refine Ent.renC [0, 1, 2, 3, 4, 5, 6, 26, 35] hC ?_ ?_ <;> repeat' (first | exact trivial | exact rfl | exact ⟨_, rfl, rfl, rfl, Nat.le_refl _, fun _ _ => rfl⟩ | exact ⟨_, rfl, rfl, rfl, fun _ _ => rfl⟩ | exact ⟨_, rfl, rfl, rfl⟩ | exact ⟨_, rfl, rfl⟩ | refine ⟨_, rfl, rfl, rfl, by omega, fun k hk => ?_⟩ | refine ⟨?_, ?_⟩ | fail))
    rintro ⟨k, hk⟩
    dsimp only
    (refine Tri.cut 2 Tryz.mixed Tryz.T_ok ?_; refine xZ ?_)
    refine wC (fun h2 => ?_) (fun h2 => ?_)
    · (refine xG ?_)
      have h2' : k < L := xW
      have hw : IntKind.i64.wrap ((k : Int) + 1) = ((k + 1 : Nat) : Int) := xW
      refine wD <| cutG <| Tri.seq <| Tri.block <| Tri.of Tryz.mixed Tryz.T_ok ?_
      (refine xB ?_)
      (repeat (refine wN ?_ ?_; exact xW; refine xG ?_))
      simp only [Nat.zero_add, Int.toNat_natCast]
      refine wC (fun h3 => ?_) (fun h3 => ?_)
      · have h3' : (turnsN i n).getD k false = true := h3
        have hs := upTo_step (x := x) (p := p) (k := k) (i := i) (n := n) (by omega)
        rw [h3'] at hs
        (refine xG ?_)
        (apply wP; exact (call_op rfl (entersB_of Tryz.func235 (by kernel_rfl)) rfl ((join_can (p k) (upTo x i n p k)).at [5] ⟨lend_plain rfl, lend_plain rfl, trivial⟩ ⟨lend_ext (c := 5) rfl rfl, trivial⟩)); refine xZ ?_)
        refine wD <| blockN <| cutG <| Tri.of Tryz.mixed Tryz.T_ok ?_
        (refine xB ?_)
        refine wD <| loopN ⟨⟨k + 1, h2'⟩, by dsimp only; omega, ?_⟩
        rw [hw]
        dsimp only
        rw [hs]
        ((try dsimp only); refine Ent.renC [0, 1, 2, 3, 4, 5, 6, 7, 8] hC ?_ ?_ <;> repeat' (first | exact trivial | exact rfl | exact ⟨_, rfl, rfl, rfl, Nat.le_refl _, fun _ _ => rfl⟩ | exact ⟨_, rfl, rfl, rfl, fun _ _ => rfl⟩ | exact ⟨_, rfl, rfl, rfl⟩ | exact ⟨_, rfl, rfl⟩ | refine ⟨_, rfl, rfl, rfl, by omega, fun k hk => ?_⟩ | refine ⟨?_, ?_⟩ | fail))
      · have h3' : (turnsN i n).getD k false = false := h3
        have hs := upTo_step (x := x) (p := p) (k := k) (i := i) (n := n) (by omega)
        rw [h3'] at hs
        (refine xG ?_)
        (apply wP; exact (call_op rfl (entersB_of Tryz.func235 (by kernel_rfl)) rfl ((join_can (upTo x i n p k) (p k)).at [5] ⟨lend_plain rfl, lend_plain rfl, trivial⟩ ⟨lend_ext (c := 5) rfl rfl, trivial⟩)); refine xZ ?_)
        refine wD <| blockN <| cutG <| Tri.of Tryz.mixed Tryz.T_ok ?_
        (refine xB ?_)
        refine wD <| loopN ⟨⟨k + 1, h2'⟩, by dsimp only; omega, ?_⟩
        rw [hw]
        dsimp only
        rw [hs]
        ((try dsimp only); refine Ent.renC [0, 1, 2, 3, 4, 5, 6, 7, 8] hC ?_ ?_ <;> repeat' (first | exact trivial | exact rfl | exact ⟨_, rfl, rfl, rfl, Nat.le_refl _, fun _ _ => rfl⟩ | exact ⟨_, rfl, rfl, rfl, fun _ _ => rfl⟩ | exact ⟨_, rfl, rfl, rfl⟩ | exact ⟨_, rfl, rfl⟩ | refine ⟨_, rfl, rfl, rfl, by omega, fun k hk => ?_⟩ | refine ⟨?_, ?_⟩ | fail))
    · (refine xG ?_)
      have h2' : k = L := xW
      subst h2'
      refine wD <| cutE <| loopX <| blockX <| cutG <| Tri.of Tryz.mixed Tryz.T_ok ?_
      (refine xB ?_)
      (refine wP _ _ (eq_op hashE rfl (upTo x i n p k) root rfl rfl) ?_; refine xZ ?_)
      refine wD (Ends.plain (.inr rfl) rfl ?_)
      have : leads root x i n p k = decide (upTo x i n p k = root) := by
        unfold leads upTo
        rw [decide_eq_true h1', Bool.true_and, h1', List.take_length]
      rw [this]
end Go.Proofs.YtnpkdoggfnlapaaGreatDoor
namespace Go.Proofs.YtnpkdoggfnlapaaGreatDoor
set_option maxRecDepth 100000
open Go.Sx
theorem lend_elem {M : Mem} {rd : List Nat} {c off sz sz1 i k cap n : Nat} {f g : Nat → List Value} (hm : M.get c = some (.ro sz n f)) (hrd : nmem c rd = true) (hoff : off = i * sz) (hi : i < n) (hl : ∀ j, j < k → (g j).length = sz1) (hf : f i = tabF g 0 k) : Lends M rd (.one (.sla c off sz1 k cap)) (.row sz1 k g) := by
  refine Lends.row ?_
  intro β ow w v _ h hr
  have hh := hr c ((nmem_iff c rd).1 hrd) _ hm
  simp only [CV.rel, SV.rel] at h
  obtain ⟨a, h1, h2, h3⟩ := h
  simp only [Holds] at hh
  by_cases hn : (β c).nil = true
  · rw [if_pos hn] at hh; omega
  rw [if_neg hn] at hh
  refine ⟨(β c).part off cap, ?_, ?_⟩
  · have hn' : ¬ ((β c).part off cap).nil = true := hn
    simp only [SV.rel]
    rw [if_neg hn']
    refine ⟨a, by rw [h1]; simp [Loc.part], by simpa [Loc.part] using h2, fun hl => ?_⟩
    rw [Loc.part_addr, h3 (by simpa [Loc.part] using hl)]
    simp
  · unfold RoAt
    rw [if_neg (show ¬ ((β c).part off cap).nil = true from hn)]
    refine ⟨⟨hh.2.1, .inl hh.1⟩, fun j hj => ⟨hl j hj, fun q u hu => ?_⟩⟩
    obtain ⟨_, e2⟩ := hh.2.2 i hi
    have hq : q < sz1 := by rw [← hl j hj]; exact (List.getElem?_eq_some_iff.1 hu).1
    rw [Loc.part_addr, hoff]
    refine e2 (j * sz1 + q) u ?_
    rw [hf, tabF_eq, flat_get hl hj hq]
    exact hu
theorem cut_can (n : Nat) (h1 : 2 ≤ n) (h2 : n ≤ 65536) : Reads Tryz.prog 195 [.plain (.one (.raw (.int .i64 n)))] [] (XV.int .i64 (halfN n)) := by
  refine Reads.of Tryz.T_ok Tryz.func195 rfl _ _ _ rfl rfl (fun C hC => ?_)
  (replace hC : C.n0 = 1 := hC; change Tri _ _ _ ⟨_, _, 1⟩ _)
  (refine Tri.cut 2 Tryz.mixed Tryz.T_ok ?_; refine xZ ?_)
  refine wD <| cutG <| Tri.seq <| Tri.block ?_
  refine Tri.loop (α := { x : Nat × Nat // x.2 = 2 ^ x.1 ∧ x.2 < n }) (fun x => ⟨[some (XV.int .i64 n), none, none, some (XV.int .i64 x.1.2)] ++ List.replicate 7 none, [], 1⟩) (fun x => n - x.1.2) ⟨(0, 1), rfl, by dsimp only; omega⟩ ?_ ?_
  · exact Ent.ren [0] (by decide) rfl (fun i hi => by replace hi := Nat.lt_of_lt_of_eq hi hC; revert i; decide) (Nat.le_trans (Nat.le_of_eq hC) (by decide)) rfl (by repeat' (first | exact trivial | exact rfl | refine ⟨?_, ?_⟩ | fail)) (by repeat' (first | exact trivial | exact ⟨_, rfl, rfl, rfl, Nat.le_refl _, fun _ _ => rfl⟩ | exact ⟨_, rfl, rfl, rfl, fun _ _ => rfl⟩ | exact ⟨_, rfl, rfl, rfl⟩ | exact ⟨_, rfl, rfl⟩ | refine ⟨?_, ?_⟩ | fail))
  rintro ⟨⟨j, p⟩, hp, hn⟩
  dsimp only at hp hn ⊢
  have hp0 : 0 < p := by rw [hp]; exact Nat.two_pow_pos _
  have e1 : IntKind.i64.wrap (2 * (p : Int)) = ((2 * p : Nat) : Int) := xW
  (refine Tri.cut 1 Tryz.mixed Tryz.T_ok ?_; refine xZ ?_)
  simp only [e1]
  refine wC (fun h3 => ?_) (fun h3 => ?_)
  · have h3' : 2 * p < n := xW
    (refine xG ?_)
    refine wD <| cutG <| Tri.block <| Tri.of Tryz.mixed Tryz.T_ok ?_
    (refine xB ?_)
    simp only [e1]
    refine wD <| blockN <| loopN ⟨⟨(j + 1, 2 * p), by dsimp only; rw [hp, Nat.pow_succ]; omega, h3'⟩, by dsimp only; omega, ?_⟩
    exact Ent.ren [0] (by decide) rfl (fun i hi => by replace hi := Nat.lt_of_lt_of_eq hi hC; revert i; decide) (Nat.le_trans (Nat.le_of_eq hC) (by decide)) rfl (by repeat' (first | exact trivial | exact rfl | refine ⟨?_, ?_⟩ | fail)) (by repeat' (first | exact trivial | exact ⟨_, rfl, rfl, rfl, Nat.le_refl _, fun _ _ => rfl⟩ | exact ⟨_, rfl, rfl, rfl, fun _ _ => rfl⟩ | exact ⟨_, rfl, rfl, rfl⟩ | exact ⟨_, rfl, rfl⟩ | refine ⟨?_, ?_⟩ | fail))
  · have h3' : n ≤ 2 * p := xW
    (refine xG ?_)
    refine wD <| cutE <| loopX <| blockX <| cutG <| Tri.of Tryz.mixed Tryz.T_ok ?_
    (refine xB ?_)
    refine wD (Ends.plain (.inr rfl) rfl ?_)
    rw [half_eq (k := j) h1 (by omega) (by omega), hp]
set_option maxHeartbeats 1000000 in
theorem root_can : ∀ (n : Nat), 1 ≤ n → n ≤ 65536 → ∀ h : Nat → H8, Reads Tryz.prog 161 [.row 8 n (hashF h)] [] (hashX (rootN h n))
  | n, h1, h2, h => by
    refine Reads.of Tryz.T_ok Tryz.func161 rfl _ _ _ rfl rfl (fun C hC => ?_)
    (replace hC : C.n0 = 1 := hC; change Tri _ _ _ ⟨_, _, 1⟩ _)
    refine Tri.of Tryz.mixed Tryz.T_ok ?_
    (refine xB ?_)
    (refine wFd ?_ ?_; (first | refine decide_eq_false ?_ | rw [beq_eq_false_iff_ne] | rw [bne_eq_false_iff_eq]); exact xW; refine xG ?_)
    (refine wFd ?_ ?_; (first | refine decide_eq_false ?_ | rw [beq_eq_false_iff_ne] | rw [bne_eq_false_iff_eq]); exact xW; refine xG ?_)
    refine wC (fun h3 => ?_) (fun h3 => ?_)
    · obtain rfl : n = 1 := by
        have : (n : Int) = 1 := by simpa using h3
        omega
      (refine xG ?_)
      (repeat (refine wN ?_ ?_; exact xW; refine xG ?_))
      (refine wP _ _ (cellsNew_op Tryz.T_ok rfl rfl rfl) ?_; refine xZ ?_)
      (apply wP; exact (call_op rfl (entersB_of Tryz.func45 (by kernel_rfl)) rfl ((digest_can 108 [(h 0).l] (short1 _ _ (by simp [H8.l_len]))).at [0, 18] ⟨lend_plain rfl, lend_parts [(h 0).l] rfl rfl rfl ⟨lend_elem (i := 0) rfl rfl rfl (by omega) (fun _ _ => rfl) rfl, trivial⟩, trivial⟩ trivial)); refine xZ ?_)
      exact wD (Ends.plain (.inr rfl) rfl rfl)
    · have h3' : n ≠ 1 := by
        intro e; subst e; simp at h3
      have a1 := half_pos n
      have a2 := half_lt (n := n) (by omega)
      (refine xG ?_)
      (apply wP; exact (call_op rfl (entersB_of Tryz.func195 (by kernel_rfl)) rfl ((cut_can n (by omega) h2).at [] ⟨lend_plain rfl, trivial⟩ trivial)); refine xZ ?_)
      (repeat (refine wN ?_ ?_; exact xW; refine xG ?_))
      (apply wP; exact (call_op rfl (entersB_of Tryz.func161 (by kernel_rfl)) rfl ((root_can (halfN n) a1 (by omega) h).at [0] ⟨lend_ro rfl rfl (by omega) (fun i _ => by rw [Nat.zero_add]), trivial⟩ trivial)); refine xZ ?_)
      (repeat (refine wN ?_ ?_; exact xW; refine xG ?_))
      simp only [Nat.zero_add, Int.toNat_natCast]
      (apply wP; exact (call_op rfl (entersB_of Tryz.func161 (by kernel_rfl)) rfl ((root_can (n - halfN n) (by omega) (by omega) (fun i => h (halfN n + i))).at [0] ⟨lend_ro (lo := halfN n) rfl rfl (by omega) (fun i _ => rfl), trivial⟩ trivial)); refine xZ ?_)
      (apply wP; exact (call_op rfl (entersB_of Tryz.func182 (by kernel_rfl)) rfl ((rtwo_can 109 (rootN h (halfN n)) (rootN (fun i => h (halfN n + i)) (n - halfN n))).at [] ⟨lend_plain rfl, lend_plain rfl, lend_plain rfl, trivial⟩ trivial)); refine xZ ?_)
      refine wD (Ends.plain (.inr rfl) rfl ?_)
      rw [rootN_step (n := n) (by omega) h]
      rfl
  termination_by n => n
def provH (h : Nat → H8) (n i : Nat) : Nat → H8 := fun k => (proveN h n i).getD k zeroH
def provSt (L : Nat) (p : Nat → H8) : St :=
  ⟨[none, none, none, none, some (XV.sv (.slc 2 8 0 L)), some (XV.bool true)] ++ List.replicate 59 none, [(2, .vec 29 8 L (hashF p))], 3⟩
theorem hash_snoc {l : List H8} {x : H8} {L k : Nat} {f : Nat → List Value} (hL : L = l.length) (hf : f 0 = x.cells) (hk : k < L + 1) : joinF (hashF fun k => l.getD k zeroH) L f k = hashF (fun k => (l ++ [x]).getD k zeroH) k := by
  subst hL
  simp only [joinF, nblt]
  by_cases h : k < l.length
  · simp [h, hashF, List.getD_eq_getElem?_getD, List.getElem?_append_left h]
  · obtain rfl : k = l.length := by omega
    simp [hashF, hf]
set_option maxHeartbeats 1000000 in
theorem prove_can : ∀ (n : Nat), n ≤ 65536 → ∀ (h : Nat → H8) (i : Nat), i < n → Makes Tryz.prog 166 [.row 8 n (hashF h), .plain (.one (.raw (.int .i64 i)))] [] (.tup [.one (.slc 0 8 0 (turnsN i n).length), .one (.raw (.bool true))]) (.vec 29 8 (turnsN i n).length (hashF (provH h n i)))
  | n, h2, h, i, hi => by
    refine Makes.of Tryz.T_ok Tryz.func166 rfl _ _ _ _ rfl rfl rfl rfl 2 (fun C hC => ?_)
    (replace hC : C.n0 = 2 := hC; change Tri _ _ _ ⟨_, _, 2⟩ _)
    refine Tri.of Tryz.mixed Tryz.T_ok ?_
    (refine xB ?_)
    (refine wFd ?_ ?_; (first | refine decide_eq_false ?_ | rw [beq_eq_false_iff_ne] | rw [bne_eq_false_iff_eq]); exact xW; refine xG ?_)
    (refine wFd ?_ ?_; (first | refine decide_eq_false ?_ | rw [beq_eq_false_iff_ne] | rw [bne_eq_false_iff_eq]); exact xW; refine xG ?_)
    (refine wFd ?_ ?_; (first | refine decide_eq_false ?_ | rw [beq_eq_false_iff_ne] | rw [bne_eq_false_iff_eq]); exact xW; refine xG ?_)
    refine wC (fun h3 => ?_) (fun h3 => ?_)
    · obtain rfl : n = 1 := by
        have : (n : Int) = 1 := by simpa using h3
        omega
      (refine xG ?_)
      refine wD (Ends.made (S' := provSt 0 (provH h 1 i)) (.inr rfl) ((Ent.nils (t := 4) rfl 29 8).trans ?_) rfl (Nat.le_refl _) (by rw [turnsN_one (Nat.le_refl _)]; rfl))
      ((try dsimp only); refine Ent.renC [0, 1, 22] hC ?_ ?_ <;> repeat' (first | exact trivial | exact rfl | exact ⟨_, rfl, rfl, rfl, Nat.le_refl _, fun _ _ => rfl⟩ | exact ⟨_, rfl, rfl, rfl, fun _ _ => rfl⟩ | exact ⟨_, rfl, rfl, rfl⟩ | exact ⟨_, rfl, rfl⟩ | refine ⟨_, rfl, rfl, rfl, by omega, fun k hk => ?_⟩ | refine ⟨?_, ?_⟩ | fail))
      exact absurd hk (Nat.not_lt_zero _)
    · have h3' : n ≠ 1 := by
        intro e; subst e; simp at h3
      have a1 := half_pos n
      have a2 := half_lt (n := n) (by omega)
      have b1 := turnsN_length n i
      (refine xG ?_)
      (apply wP; exact (call_op rfl (entersB_of Tryz.func195 (by kernel_rfl)) rfl ((cut_can n (by omega) h2).at [] ⟨lend_plain rfl, trivial⟩ trivial)); refine xZ ?_)
      refine wC (fun h4 => ?_) (fun h4 => ?_)
      · have h4' : i < halfN n := xW
        have ht := turnsN_step (i := i) (n := n) (by omega)
        have hp := proveN_step (h := h) (i := i) (n := n) (by omega)
        rw [if_pos h4'] at ht hp
        have ht' : (turnsN i n).length = (turnsN i (halfN n)).length + 1 := by rw [ht]; simp
        (refine xG ?_)
        (repeat (refine wN ?_ ?_; exact xW; refine xG ?_))
        (apply wP; exact (call_op rfl (entersB_of Tryz.func166 (by kernel_rfl)) rfl ((prove_can (halfN n) (by omega) h i h4').at [0] ⟨lend_ro rfl rfl (by omega) (fun i _ => by rw [Nat.zero_add]), lend_plain rfl, trivial⟩ trivial)); refine xZ ?_)
        (repeat (refine wN ?_ ?_; exact xW; refine xG ?_))
        simp only [Nat.zero_add, Int.toNat_natCast]
        (apply wP; exact (call_op rfl (entersB_of Tryz.func161 (by kernel_rfl)) rfl ((root_can (n - halfN n) (by omega) (by omega) (fun i => h (halfN n + i))).at [0] ⟨lend_ro (lo := halfN n) rfl rfl (by omega) (fun i _ => rfl), trivial⟩ trivial)); refine xZ ?_)
        (refine wP _ _ (append_op Tryz.T_ok rfl rfl rfl rfl rfl [31, 42] (old_vec rfl rfl (Nat.le_refl _) rfl) (new_vec (lo := 0) rfl rfl (Nat.le_refl _) rfl) rfl (lt1 rfl) (by simp only [maxLen]; omega) (by dsimp only; omega)) ?_; refine xZ ?_)
        refine wD (Ends.made (S' := provSt (turnsN i n).length (provH h n i)) (.inr rfl) ?_ rfl (Nat.le_refl _) rfl)
        rw [ht']
        ((try dsimp only); refine Ent.renC [0, 1, 43] hC ?_ ?_ <;> repeat' (first | exact trivial | exact rfl | exact ⟨_, rfl, rfl, rfl, Nat.le_refl _, fun _ _ => rfl⟩ | exact ⟨_, rfl, rfl, rfl, fun _ _ => rfl⟩ | exact ⟨_, rfl, rfl, rfl⟩ | exact ⟨_, rfl, rfl⟩ | refine ⟨_, rfl, rfl, rfl, by omega, fun k hk => ?_⟩ | refine ⟨?_, ?_⟩ | fail))
        unfold provH
        rw [hp]
        exact hash_snoc (proveN_length _ _ _).symm rfl hk
      · have h4' : halfN n ≤ i := xW
        have ht := turnsN_step (i := i) (n := n) (by omega)
        have hp := proveN_step (h := h) (i := i) (n := n) (by omega)
        rw [if_neg (by omega)] at ht hp
        have ht' : (turnsN i n).length = (turnsN (i - halfN n) (n - halfN n)).length + 1 := by rw [ht]; simp
        have w1 : IntKind.i64.wrap ((i : Int) - (halfN n : Int)) = ((i - halfN n : Nat) : Int) := xW
        (refine xG ?_)
        (repeat (refine wN ?_ ?_; exact xW; refine xG ?_))
        simp only [w1, Nat.zero_add, Int.toNat_natCast]
        (apply wP; exact (call_op rfl (entersB_of Tryz.func166 (by kernel_rfl)) rfl ((prove_can (n - halfN n) (by omega) (fun i => h (halfN n + i)) (i - halfN n) (by omega)).at [0] ⟨lend_ro (lo := halfN n) rfl rfl (by omega) (fun i _ => rfl), lend_plain rfl, trivial⟩ trivial)); refine xZ ?_)
        (repeat (refine wN ?_ ?_; exact xW; refine xG ?_))
        (apply wP; exact (call_op rfl (entersB_of Tryz.func161 (by kernel_rfl)) rfl ((root_can (halfN n) a1 (by omega) h).at [0] ⟨lend_ro rfl rfl (by omega) (fun i _ => by rw [Nat.zero_add]), trivial⟩ trivial)); refine xZ ?_)
        (refine wP _ _ (append_op Tryz.T_ok rfl rfl rfl rfl rfl [33, 44] (old_vec rfl rfl (Nat.le_refl _) rfl) (new_vec (lo := 0) rfl rfl (Nat.le_refl _) rfl) rfl (lt1 rfl) (by simp only [maxLen]; omega) (by dsimp only; omega)) ?_; refine xZ ?_)
        refine wD (Ends.made (S' := provSt (turnsN i n).length (provH h n i)) (.inr rfl) ?_ rfl (Nat.le_refl _) rfl)
        rw [ht']
        ((try dsimp only); refine Ent.renC [0, 1, 45] hC ?_ ?_ <;> repeat' (first | exact trivial | exact rfl | exact ⟨_, rfl, rfl, rfl, Nat.le_refl _, fun _ _ => rfl⟩ | exact ⟨_, rfl, rfl, rfl, fun _ _ => rfl⟩ | exact ⟨_, rfl, rfl, rfl⟩ | exact ⟨_, rfl, rfl⟩ | refine ⟨_, rfl, rfl, rfl, by omega, fun k hk => ?_⟩ | refine ⟨?_, ?_⟩ | fail))
        unfold provH
        rw [hp]
        exact hash_snoc (proveN_length _ _ _).symm rfl hk
  termination_by n => n
end Go.Proofs.YtnpkdoggfnlapaaGreatDoor

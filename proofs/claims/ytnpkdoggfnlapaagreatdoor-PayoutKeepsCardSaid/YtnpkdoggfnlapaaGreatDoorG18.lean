/- Parts Yg Yh Yi Td Te Lb Tf Tg. -/
import Derived.Test.YtnpkdoggfnlapaaGreatDoorG17
set_option linter.unusedSimpArgs false
set_option linter.unusedVariables false
namespace Go.Proofs.YtnpkdoggfnlapaaGreatDoor
set_option maxRecDepth 100000
open Go.Sx
theorem DeepP_congr {e sz n : Nat} {F F' : Nat → List AC} (h : ∀ i, i < n → F i = F' i) : DeepP e sz n F = DeepP e sz n F' := by
  unfold DeepP
  congr 1
  funext w b s O
  refine propext ⟨?_, ?_⟩
  · rintro ⟨h1, h2, h3, h4, arr, h5, h6, h7⟩
    refine ⟨h1, h2, h3, h4, arr, h5, h6, fun i hi => ?_⟩
    rw [← h i hi]; exact h7 i hi
  · rintro ⟨h1, h2, h3, h4, arr, h5, h6, h7⟩
    refine ⟨h1, h2, h3, h4, arr, h5, h6, fun i hi => ?_⟩
    rw [h i hi]; exact h7 i hi
def regF (L : List SideM) : Nat → List AC := fun i => (L.getD i default).ac
def regM (tS tE : TypeId) : List SideM → Mem
  | [] => [(0, .cells tS [.raw (.slice none 0 0)])]
  | x :: r => [(0, .cells tS [.slc 1 42 0 (x :: r).length]), (1, .abs (DeepP tE 42 (x :: r).length (regF (x :: r))))]
def regP (tS tE : TypeId) (L : List SideM) : AbsP := packP (regM tS tE L) True
theorem regM_pos {tS tE : TypeId} {L : List SideM} (h : 0 < L.length) : regM tS tE L = [(0, .cells tS [.slc 1 42 0 L.length]), (1, .abs (DeepP tE 42 L.length (regF L)))] := by
  cases L with
  | nil => cases h
  | cons x r => rfl
section
variable {P : Program} {C : Ctx} {cd : Code} {slots : List (Option XV)} {mem : Mem} {nx : Nat} {Q : Exit → St → Prop}
theorem Reg.opensD (tS tE : TypeId) (L : List SideM) (c : Nat) (h0 : 0 < L.length) (hc : mem.get c = some (.abs (regP tS tE L)))
    (h : Tri P C cd ⟨slots, (c, .cells tS [.slc (nx + 1) 42 0 L.length]) :: (nx + 1, .abs (DeepP tE 42 L.length (regF L))) :: mem.del c, nx + 2⟩ Q) : Tri P C cd ⟨slots, mem, nx⟩ Q := by
  refine Tri.opens (M := [(0, .cells tS [.slc 1 42 0 L.length]), (1, .abs (DeepP tE 42 L.length (regF L)))]) (m := 2) (inv := True) (c := c) ?_ rfl fun _ => h
  rw [← regM_pos h0]; exact hc
theorem Reg.opens0 (tS tE : TypeId) (c : Nat) (hc : mem.get c = some (.abs (regP tS tE [])))
    (h : Tri P C cd ⟨slots, (c, .cells tS [.raw (.slice none 0 0)]) :: mem.del c, nx + 1⟩ Q) : Tri P C cd ⟨slots, mem, nx⟩ Q :=
  Tri.opens (M := [(0, .cells tS [.raw (.slice none 0 0)])]) (m := 1) (inv := True) (c := c) hc rfl fun _ => h
theorem Reg.opens (tS tE : TypeId) (L : List SideM) (c : Nat) (h0 : 0 < L.length) (hc : mem.get c = some (.abs (regP tS tE L))) (hcn : c < nx)
    (h : ∀ ad : Nat → Nat → Option Addr × Nat, Tri P C cd ⟨slots, (nx + 1, .vec tE 42 L.length fun i => fillA 0 (regF L i) (ad i)) :: (nx + 2, .abs (PartsO L.length (regF L) ad)) :: (c, .cells tS [.slc (nx + 1) 42 0 L.length]) :: (mem.del c).del (nx + 1), nx + 3⟩ Q) : Tri P C cd ⟨slots, mem, nx⟩ Q := by
  refine Reg.opensD tS tE L c h0 hc (Tri.openDeep (c := nx + 1) (e := tE) (sz := 42) (n := L.length) (F := regF L) ?_ fun ad => ?_)
  · simp only [Mem.get, nbeq]
    rw [show decide (c = nx + 1) = false from decide_eq_false (by omega)]
    simp
  · have e : Mem.del ((c, .cells tS [.slc (nx + 1) 42 0 L.length]) :: (nx + 1, .abs (DeepP tE 42 L.length (regF L))) :: mem.del c) (nx + 1) = (c, .cells tS [.slc (nx + 1) 42 0 L.length]) :: (mem.del c).del (nx + 1) := by
      simp only [Mem.del, nbeq]
      rw [show decide (c = nx + 1) = false from decide_eq_false (by omega)]
      simp
    rw [e]
    exact h ad
theorem Reg.shuts (tS tE : TypeId) (L : List SideM) (c : Nat) {i1 m n : Nat} {F : Nat → List AC} (h0 : 0 < L.length) (k0 : mem.get c = some (.cells tS [.slc i1 42 0 m])) (k1 : mem.get i1 = some (.abs (DeepP tE 42 n F))) (hids : Nat.beq c i1 = false) (hm : m = L.length) (hn : n = L.length) (hF : ∀ i, i < n → F i = regF L i) :
    Ent C ⟨slots, mem, nx⟩ ⟨slots, (c, .abs (regP tS tE L)) :: mem.dels [c, i1], nx⟩ := by
  subst hm
  subst hn
  rw [DeepP_congr hF] at k1
  unfold regP
  rw [regM_pos h0]
  exact Ent.shut2 (S := ⟨slots, mem, nx⟩) (M := [(0, .cells tS [.slc 1 42 0 L.length]), (1, .abs (DeepP tE 42 L.length (regF L)))]) (inv := True) hids trivial rfl rfl rfl k0 k1 rfl ⟨rfl, rfl⟩ rfl
theorem Reg.shuts0 (tS tE : TypeId) (c : Nat) (k0 : mem.get c = some (.cells tS [.raw (.slice none 0 0)])) : Ent C ⟨slots, mem, nx⟩ ⟨slots, (c, .abs (regP tS tE [])) :: mem.dels [c], nx⟩ :=
  Ent.shut (S := ⟨slots, mem, nx⟩) (c := c) (ids := [c]) (M := [(0, .cells tS [.raw (.slice none 0 0)])]) (inv := True) (by simp) rfl trivial ⟨_, k0, rfl⟩ rfl (fun j i hj => by
    match j with
    | 0 => simp at hj; subst hj; exact ⟨_, _, rfl, k0, rfl, rfl⟩
    | j + 1 => simp at hj)
theorem Reg.shutsO (tS tE : TypeId) (L L' : List SideM) (c : Nat) {i1 q m n : Nat} {G : Nat → List Value} {ad : Nat → Nat → Option Addr × Nat} (h0 : 0 < L'.length) (k0 : mem.get c = some (.cells tS [.slc i1 42 0 m])) (k1 : mem.get i1 = some (.vec tE 42 n G)) (k2 : mem.get q = some (.abs (PartsO n (regF L) ad)))
    (hids : (Nat.beq c i1 || Nat.beq c q || Nat.beq i1 q) = false) (hm : m = L'.length) (hn : n = L'.length) (hG : ∀ i, i < n → G i = fillA 0 (regF L' i) (ad i)) (hF : ∀ i, i < n → ∀ (j : Nat) (x : AC), (regF L' i)[j]? = some x → (∃ u, x = AC.raw u) ∨ (regF L i)[j]? = some x) :
    Ent C ⟨slots, mem, nx⟩ ⟨slots, (c, .abs (regP tS tE L')) :: Mem.dels ((i1, .abs (DeepP tE 42 n (regF L'))) :: mem.dels [i1, q]) [c, i1], nx⟩ := by
  simp only [Bool.or_eq_false_iff, nbeq, decide_eq_false_iff_not] at hids
  obtain ⟨⟨d1, d2⟩, d3⟩ := hids
  refine (Ent.shutDeep (S := ⟨slots, mem, nx⟩) (F := regF L') (ad := ad) [q] k1 (by omega) (Nat.le_refl _) (by simpa using d3) hG (fun i hi j x hx => ?_)).trans ?_
  · rcases hF i hi j x hx with h | h
    · exact .inl h
    · exact Backed.old (by simp) k2 hi h
  · refine Reg.shuts tS tE L' c h0 ?_ ?_ (by simpa [nbeq] using d1) hm hn fun _ _ => rfl
    · simp only [Mem.get, nbeq, Mem.get_dels]
      rw [show decide (i1 = c) = false from decide_eq_false (fun e => d1 e.symm)]
      simp only [cond_false]
      rw [if_neg (by simp only [List.mem_cons, List.not_mem_nil, or_false, not_or]; exact ⟨d1, d2⟩)]
      exact k0
    · simp [Mem.get, nbeq]
end
theorem lend_rec {M : Mem} {rd : List Nat} {q n i : Nat} {L : List SideM} {ad : Nat → Nat → Option Addr × Nat} (hm : M.get q = some (.abs (PartsO n (regF L) ad))) (hrd : nmem q rd = true) (hi : i < n) : Lends M rd (.agg ((fillA 0 (regF L i) (ad i)).map .raw)) (.box (L.getD i default).ac) :=
  lend_side (x := L.getD i default) (k := .raw (.slice (ad i 3).1 _ (ad i 3).2)) (o := .raw (.slice (ad i 39).1 _ (ad i 39).2)) (s := .raw (.slice (ad i 40).1 _ (ad i 40).2)) (u := .raw (.slice (ad i 41).1 _ (ad i 41).2))
    (lend_partO (F := regF L) (j := 3) hm hrd hi rfl) (lend_partO (F := regF L) (j := 39) hm hrd hi rfl) (lend_partO (F := regF L) (j := 40) hm hrd hi rfl) (lend_partO (F := regF L) (j := 41) hm hrd hi rfl)
theorem regF_set {L : List SideM} {i : Nat} (hi : i < L.length) (x : SideM) : (fun k => if k = i then x.ac else regF L k) = regF (L.set i x) := by
  funext k
  unfold regF
  by_cases h : k = i
  · subst h
    rw [if_pos rfl, List.getD_eq_getElem?_getD, List.getElem?_set_self hi]; rfl
  · rw [if_neg h, List.getD_eq_getElem?_getD, List.getD_eq_getElem?_getD, List.getElem?_set_ne (fun e => h e.symm)]
theorem regF_snoc {L : List SideM} {x : SideM} {k : Nat} (hk : k < L.length + 1) : (if k < L.length then regF L k else x.ac) = regF (L ++ [x]) k := by
  unfold regF
  by_cases h : k < L.length
  · rw [if_pos h, List.getD_eq_getElem?_getD, List.getD_eq_getElem?_getD, List.getElem?_append_left h]
  · obtain rfl : k = L.length := by omega
    rw [if_neg h]; simp
end Go.Proofs.YtnpkdoggfnlapaaGreatDoor
namespace Go.Proofs.YtnpkdoggfnlapaaGreatDoor
set_option maxRecDepth 100000
open Go.Sx
theorem cloneH_can (l : List H8) (hl : l.length ≤ 1000000) : Makes Tryz.prog 104 [.row 8 l.length (keysF l)] [] (XV.sv (.slc 0 8 0 l.length)) (.vec 29 8 l.length (keysF l)) := by
  refine Makes.of Tryz.T_ok Tryz.func104 rfl _ _ _ _ rfl rfl rfl rfl 1 (fun C hC => ?_)
  (replace hC : C.n0 = 1 := hC; change Tri _ _ _ ⟨_, _, 1⟩ _)
  (refine Tri.cut 1 Tryz.mixed Tryz.T_ok ?_; refine xZ ?_)
  refine wD <| cutG <| Tri.nilCases 0 rfl (fun h0 => ?_) (fun cap hcap => ?_)
  · obtain rfl : l = [] := List.length_eq_zero_iff.1 h0
    refine Tri.of Tryz.mixed Tryz.T_ok ?_
    (refine xB ?_)
    refine wD (Ends.made (S' := ⟨[none, none, some (XV.sv (.slc 1 8 0 0)), none, none, none, none, none], [(0, .ro 8 0 (keysF [])), (1, .vec 29 8 0 (keysF []))], 2⟩) (.inr rfl) ((Ent.nils (t := 2) rfl 29 8).trans ?_) rfl (Nat.le_refl _) rfl)
    ((try dsimp only); refine Ent.renC [0, 5] hC ?_ ?_ <;> repeat' (first | exact trivial | exact rfl | exact ⟨_, rfl, rfl, rfl, Nat.le_refl _, fun _ _ => rfl⟩ | exact ⟨_, rfl, rfl, rfl, fun _ _ => rfl⟩ | exact ⟨_, rfl, rfl, rfl⟩ | exact ⟨_, rfl, rfl⟩ | refine ⟨_, rfl, rfl, rfl, by omega, fun k hk => ?_⟩ | refine ⟨?_, ?_⟩ | fail))
    exact absurd hk (Nat.not_lt_zero _)
  · refine Tri.of Tryz.mixed Tryz.T_ok ?_
    (refine xB ?_)
    (refine wP _ _ (append_op Tryz.T_ok rfl rfl rfl rfl rfl [0, 4] (old_vec rfl rfl (Nat.le_refl _) rfl) (new_slar (lo := 0) rfl rfl rfl (Nat.zero_mul _).symm (by omega)) rfl (fun _ _ => rfl) (by simp only [maxLen]; omega) (by dsimp only; omega)) ?_; refine xZ ?_)
    simp only [Nat.zero_add]
    refine wD (Ends.made (S' := ⟨[none, none, some (XV.sv (.slc 1 8 0 l.length)), none, none, none, none, none], [(0, .ro 8 l.length (keysF l)), (1, .vec 29 8 l.length (keysF l))], 2⟩) (.inr rfl) ?_ rfl (Nat.le_refl _) rfl)
    ((try dsimp only); refine Ent.renC [0, 6] hC ?_ ?_ <;> repeat' (first | exact trivial | exact rfl | exact ⟨_, rfl, rfl, rfl, Nat.le_refl _, fun _ _ => rfl⟩ | exact ⟨_, rfl, rfl, rfl, fun _ _ => rfl⟩ | exact ⟨_, rfl, rfl, rfl⟩ | exact ⟨_, rfl, rfl⟩ | refine ⟨_, rfl, rfl, rfl, by omega, fun k hk => ?_⟩ | refine ⟨?_, ?_⟩ | fail))
theorem cloneO_can (l : List OutM) (hl : l.length ≤ 1000000) : Makes Tryz.prog 105 [.row 9 l.length (outsF l)] [] (XV.sv (.slc 0 9 0 l.length)) (.vec 59 9 l.length (outsF l)) := by
  refine Makes.of Tryz.T_ok Tryz.func105 rfl _ _ _ _ rfl rfl rfl rfl 1 (fun C hC => ?_)
  (replace hC : C.n0 = 1 := hC; change Tri _ _ _ ⟨_, _, 1⟩ _)
  (refine Tri.cut 1 Tryz.mixed Tryz.T_ok ?_; refine xZ ?_)
  refine wD <| cutG <| Tri.nilCases 0 rfl (fun h0 => ?_) (fun cap hcap => ?_)
  · obtain rfl : l = [] := List.length_eq_zero_iff.1 h0
    refine Tri.of Tryz.mixed Tryz.T_ok ?_
    (refine xB ?_)
    refine wD (Ends.made (S' := ⟨[none, none, some (XV.sv (.slc 1 9 0 0)), none, none, none, none, none], [(0, .ro 9 0 (outsF [])), (1, .vec 59 9 0 (outsF []))], 2⟩) (.inr rfl) ((Ent.nils (t := 2) rfl 59 9).trans ?_) rfl (Nat.le_refl _) rfl)
    ((try dsimp only); refine Ent.renC [0, 5] hC ?_ ?_ <;> repeat' (first | exact trivial | exact rfl | exact ⟨_, rfl, rfl, rfl, Nat.le_refl _, fun _ _ => rfl⟩ | exact ⟨_, rfl, rfl, rfl, fun _ _ => rfl⟩ | exact ⟨_, rfl, rfl, rfl⟩ | exact ⟨_, rfl, rfl⟩ | refine ⟨_, rfl, rfl, rfl, by omega, fun k hk => ?_⟩ | refine ⟨?_, ?_⟩ | fail))
    exact absurd hk (Nat.not_lt_zero _)
  · refine Tri.of Tryz.mixed Tryz.T_ok ?_
    (refine xB ?_)
    (refine wP _ _ (append_op Tryz.T_ok rfl rfl rfl rfl rfl [0, 4] (old_vec rfl rfl (Nat.le_refl _) rfl) (new_slar (lo := 0) rfl rfl rfl (Nat.zero_mul _).symm (by omega)) rfl (fun _ _ => rfl) (by simp only [maxLen]; omega) (by dsimp only; omega)) ?_; refine xZ ?_)
    simp only [Nat.zero_add]
    refine wD (Ends.made (S' := ⟨[none, none, some (XV.sv (.slc 1 9 0 l.length)), none, none, none, none, none], [(0, .ro 9 l.length (outsF l)), (1, .vec 59 9 l.length (outsF l))], 2⟩) (.inr rfl) ?_ rfl (Nat.le_refl _) rfl)
    ((try dsimp only); refine Ent.renC [0, 6] hC ?_ ?_ <;> repeat' (first | exact trivial | exact rfl | exact ⟨_, rfl, rfl, rfl, Nat.le_refl _, fun _ _ => rfl⟩ | exact ⟨_, rfl, rfl, rfl, fun _ _ => rfl⟩ | exact ⟨_, rfl, rfl, rfl⟩ | exact ⟨_, rfl, rfl⟩ | refine ⟨_, rfl, rfl, rfl, by omega, fun k hk => ?_⟩ | refine ⟨?_, ?_⟩ | fail))
theorem cloneS_can (l : List SgdM) (hl : l.length ≤ 1000000) : Makes Tryz.prog 106 [.row 282 l.length (sgdsF l)] [] (XV.sv (.slc 0 282 0 l.length)) (.vec 192 282 l.length (sgdsF l)) := by
  refine Makes.of Tryz.T_ok Tryz.func106 rfl _ _ _ _ rfl rfl rfl rfl 1 (fun C hC => ?_)
  (replace hC : C.n0 = 1 := hC; change Tri _ _ _ ⟨_, _, 1⟩ _)
  (refine Tri.cut 1 Tryz.mixed Tryz.T_ok ?_; refine xZ ?_)
  refine wD <| cutG <| Tri.nilCases 0 rfl (fun h0 => ?_) (fun cap hcap => ?_)
  · obtain rfl : l = [] := List.length_eq_zero_iff.1 h0
    refine Tri.of Tryz.mixed Tryz.T_ok ?_
    (refine xB ?_)
    refine wD (Ends.made (S' := ⟨[none, none, some (XV.sv (.slc 1 282 0 0)), none, none, none, none, none], [(0, .ro 282 0 (sgdsF [])), (1, .vec 192 282 0 (sgdsF []))], 2⟩) (.inr rfl) ((Ent.nils (t := 2) rfl 192 282).trans ?_) rfl (Nat.le_refl _) rfl)
    ((try dsimp only); refine Ent.renC [0, 5] hC ?_ ?_ <;> repeat' (first | exact trivial | exact rfl | exact ⟨_, rfl, rfl, rfl, Nat.le_refl _, fun _ _ => rfl⟩ | exact ⟨_, rfl, rfl, rfl, fun _ _ => rfl⟩ | exact ⟨_, rfl, rfl, rfl⟩ | exact ⟨_, rfl, rfl⟩ | refine ⟨_, rfl, rfl, rfl, by omega, fun k hk => ?_⟩ | refine ⟨?_, ?_⟩ | fail))
    exact absurd hk (Nat.not_lt_zero _)
  · refine Tri.of Tryz.mixed Tryz.T_ok ?_
    (refine xB ?_)
    (refine wP _ _ (append_op Tryz.T_ok rfl rfl rfl rfl rfl [0, 4] (old_vec rfl rfl (Nat.le_refl _) rfl) (new_slar (lo := 0) rfl rfl rfl (Nat.zero_mul _).symm (by omega)) rfl (fun _ _ => rfl) (by simp only [maxLen]; omega) (by dsimp only; omega)) ?_; refine xZ ?_)
    simp only [Nat.zero_add]
    refine wD (Ends.made (S' := ⟨[none, none, some (XV.sv (.slc 1 282 0 l.length)), none, none, none, none, none], [(0, .ro 282 l.length (sgdsF l)), (1, .vec 192 282 l.length (sgdsF l))], 2⟩) (.inr rfl) ?_ rfl (Nat.le_refl _) rfl)
    ((try dsimp only); refine Ent.renC [0, 6] hC ?_ ?_ <;> repeat' (first | exact trivial | exact rfl | exact ⟨_, rfl, rfl, rfl, Nat.le_refl _, fun _ _ => rfl⟩ | exact ⟨_, rfl, rfl, rfl, fun _ _ => rfl⟩ | exact ⟨_, rfl, rfl, rfl⟩ | exact ⟨_, rfl, rfl⟩ | refine ⟨_, rfl, rfl, rfl, by omega, fun k hk => ?_⟩ | refine ⟨?_, ?_⟩ | fail))
theorem cloneI_can (l : List Int) (hl : l.length ≤ 1000000) : Makes Tryz.prog 107 [.row 1 l.length (intsF l)] [] (XV.sv (.slc 0 1 0 l.length)) (.vec 3 1 l.length (intsF l)) := by
  refine Makes.of Tryz.T_ok Tryz.func107 rfl _ _ _ _ rfl rfl rfl rfl 1 (fun C hC => ?_)
  (replace hC : C.n0 = 1 := hC; change Tri _ _ _ ⟨_, _, 1⟩ _)
  (refine Tri.cut 1 Tryz.mixed Tryz.T_ok ?_; refine xZ ?_)
  refine wD <| cutG <| Tri.nilCases 0 rfl (fun h0 => ?_) (fun cap hcap => ?_)
  · obtain rfl : l = [] := List.length_eq_zero_iff.1 h0
    refine Tri.of Tryz.mixed Tryz.T_ok ?_
    (refine xB ?_)
    refine wD (Ends.made (S' := ⟨[none, none, some (XV.sv (.slc 1 1 0 0)), none, none, none, none, none], [(0, .ro 1 0 (intsF [])), (1, .vec 3 1 0 (intsF []))], 2⟩) (.inr rfl) ((Ent.nils (t := 2) rfl 3 1).trans ?_) rfl (Nat.le_refl _) rfl)
    ((try dsimp only); refine Ent.renC [0, 5] hC ?_ ?_ <;> repeat' (first | exact trivial | exact rfl | exact ⟨_, rfl, rfl, rfl, Nat.le_refl _, fun _ _ => rfl⟩ | exact ⟨_, rfl, rfl, rfl, fun _ _ => rfl⟩ | exact ⟨_, rfl, rfl, rfl⟩ | exact ⟨_, rfl, rfl⟩ | refine ⟨_, rfl, rfl, rfl, by omega, fun k hk => ?_⟩ | refine ⟨?_, ?_⟩ | fail))
    exact absurd hk (Nat.not_lt_zero _)
  · refine Tri.of Tryz.mixed Tryz.T_ok ?_
    (refine xB ?_)
    (refine wP _ _ (append_op Tryz.T_ok rfl rfl rfl rfl rfl [0, 4] (old_vec rfl rfl (Nat.le_refl _) rfl) (new_slar (lo := 0) rfl rfl rfl (Nat.zero_mul _).symm (by omega)) rfl (fun _ _ => rfl) (by simp only [maxLen]; omega) (by dsimp only; omega)) ?_; refine xZ ?_)
    simp only [Nat.zero_add]
    refine wD (Ends.made (S' := ⟨[none, none, some (XV.sv (.slc 1 1 0 l.length)), none, none, none, none, none], [(0, .ro 1 l.length (intsF l)), (1, .vec 3 1 l.length (intsF l))], 2⟩) (.inr rfl) ?_ rfl (Nat.le_refl _) rfl)
    ((try dsimp only); refine Ent.renC [0, 6] hC ?_ ?_ <;> repeat' (first | exact trivial | exact rfl | exact ⟨_, rfl, rfl, rfl, Nat.le_refl _, fun _ _ => rfl⟩ | exact ⟨_, rfl, rfl, rfl, fun _ _ => rfl⟩ | exact ⟨_, rfl, rfl, rfl⟩ | exact ⟨_, rfl, rfl⟩ | refine ⟨_, rfl, rfl, rfl, by omega, fun k hk => ?_⟩ | refine ⟨?_, ?_⟩ | fail))
def sideRows (x : SideM) : List Chunk := [.vec 29 8 x.par.keys.length (keysF x.par.keys), .vec 59 9 x.cert.outs.length (outsF x.cert.outs), .vec 192 282 x.cert.sigs.length (sgdsF x.cert.sigs), .vec 3 1 x.used.length (intsF x.used)]
def sideIns (x : SideM) (p : Nat) : List SV := sideCells x (.ins p 4 0 x.par.keys.length) (.ins p 4 1 x.cert.outs.length) (.ins p 4 2 x.cert.sigs.length) (.ins p 4 3 x.used.length)
theorem boxed_ins (x : SideM) (p : Nat) : Boxed p (sideRows x) (sideIns x p) x.ac :=
  boxed_side ⟨.inr ⟨0, _, _, rfl, rfl, Nat.le_refl _, rfl⟩, trivial⟩ ⟨.inr ⟨1, _, _, rfl, rfl, Nat.le_refl _, rfl⟩, trivial⟩ ⟨.inr ⟨2, _, _, rfl, rfl, Nat.le_refl _, rfl⟩, trivial⟩ ⟨.inr ⟨3, _, _, rfl, rfl, Nat.le_refl _, rfl⟩, trivial⟩
set_option maxHeartbeats 4000000 in
theorem copied_can (x : SideM) (hx : x.Sized) : Makes Tryz.prog 56 [.box x.ac] [] (.cv (.agg (sideIns x 0))) (.abs (PackP (sideRows x))) := by
  have h1 := hx.keys
  have h2 := hx.outs
  have h3 := hx.sigs
  have h4 := hx.used
  refine Makes.of Tryz.T_ok Tryz.func56 rfl _ _ _ _ rfl rfl rfl rfl 34 (fun C hC => ?_)
  (replace hC : C.n0 = 4 := hC; change Tri _ _ _ ⟨_, _, 4⟩ _)
  refine Tri.of Tryz.mixed Tryz.T_ok ?_
  (refine xB ?_)
  (apply wP; exact (call_op rfl (entersB_of Tryz.func104 (by kernel_rfl)) rfl ((cloneH_can x.par.keys h1).at [0] ⟨lend_ro0 rfl rfl, trivial⟩ trivial)); refine xZ ?_)
  (apply wP; exact (call_op rfl (entersB_of Tryz.func105 (by kernel_rfl)) rfl ((cloneO_can x.cert.outs h2).at [1] ⟨lend_ro0 rfl rfl, trivial⟩ trivial)); refine xZ ?_)
  (apply wP; exact (call_op rfl (entersB_of Tryz.func106 (by kernel_rfl)) rfl ((cloneS_can x.cert.sigs h3).at [2] ⟨lend_ro0 rfl rfl, trivial⟩ trivial)); refine xZ ?_)
  (apply wP; exact (call_op rfl (entersB_of Tryz.func107 (by kernel_rfl)) rfl ((cloneI_can x.used h4).at [3] ⟨lend_ro0 rfl rfl, trivial⟩ trivial)); refine xZ ?_)
  refine wD (Ends.made (.inr rfl) (Ent.pack2 [9, 16, 23, 29] (sideRows x) (by decide) rfl rfl (fun j i ch hi hj => ?_)) rfl (Nat.le_of_ble_eq_true rfl) rfl)
  rcases j with _ | _ | _ | _ | j
  · cases hi; cases hj; exact ⟨_, rfl, ChLe.refl _ rfl⟩
  · cases hi; cases hj; exact ⟨_, rfl, ChLe.refl _ rfl⟩
  · cases hi; cases hj; exact ⟨_, rfl, ChLe.refl _ rfl⟩
  · cases hi; cases hj; exact ⟨_, rfl, ChLe.refl _ rfl⟩
  · cases hi
end Go.Proofs.YtnpkdoggfnlapaaGreatDoor
namespace Go.Proofs.YtnpkdoggfnlapaaGreatDoor
set_option maxRecDepth 100000
open Go.Sx
abbrev rgS : TypeId := 139
abbrev rgE : TypeId := 68
abbrev pReg (L : List SideM) : AbsP := regP rgS rgE L
def inB (L : List SideM) (i : Int) : Bool := decide (0 ≤ i) && decide (i < (L.length : Int))
theorem regIn_can (L : List SideM) (i : Int) : Acts Tryz.prog 55 (.abs (pReg L)) (.abs (pReg L)) [.plain (.one (.raw (.int .i64 i)))] [] (XV.bool (inB L i)) := by
  refine Acts.of Tryz.T_ok Tryz.func55 rfl _ _ _ _ _ rfl rfl rfl (fun C hC => ?_)
  (replace hC : C.n0 = 2 := hC; change Tri _ _ _ ⟨_, _, 2⟩ _)
  rcases L with _ | ⟨x, r⟩
  · refine Reg.opens0 rgS rgE 0 rfl (Tri.of Tryz.mixed Tryz.T_ok ?_)
    (refine xB ?_)
    refine wC (fun h1 => ?_) (fun h1 => ?_)
    · (refine xG ?_)
      exact wD (Ends.shutN (.inr rfl) (Reg.shuts0 rgS rgE 0 rfl) rfl rfl (by rw [inB, h1]; rfl))
    · (refine xG ?_)
      exact wD (Ends.shutN (.inr rfl) (Reg.shuts0 rgS rgE 0 rfl) rfl rfl (by rw [inB, h1]; rfl))
  · refine Reg.opensD rgS rgE (x :: r) 0 (Nat.succ_pos _) rfl (Tri.of Tryz.mixed Tryz.T_ok ?_)
    (refine xB ?_)
    refine wC (fun h1 => ?_) (fun h1 => ?_)
    · (refine xG ?_)
      exact wD (Ends.shutN (.inr rfl) (Reg.shuts rgS rgE (x :: r) 0 (Nat.succ_pos _) rfl rfl rfl rfl rfl (fun _ _ => rfl)) rfl rfl (by rw [inB, h1]; rfl))
    · (refine xG ?_)
      exact wD (Ends.shutN (.inr rfl) (Reg.shuts rgS rgE (x :: r) 0 (Nat.succ_pos _) rfl rfl rfl rfl rfl (fun _ _ => rfl)) rfl rfl (by rw [inB, h1]; rfl))
theorem regLen_can (L : List SideM) : Acts Tryz.prog 35 (.abs (pReg L)) (.abs (pReg L)) [] [] (XV.int .i64 L.length) := by
  refine Acts.of Tryz.T_ok Tryz.func35 rfl _ _ _ _ _ rfl rfl rfl (fun C hC => ?_)
  (replace hC : C.n0 = 1 := hC; change Tri _ _ _ ⟨_, _, 1⟩ _)
  rcases L with _ | ⟨x, r⟩
  · refine Reg.opens0 rgS rgE 0 rfl (Tri.of Tryz.mixed Tryz.T_ok ?_)
    (refine xB ?_)
    exact wD (Ends.shutN (.inr rfl) (Reg.shuts0 rgS rgE 0 rfl) rfl rfl rfl)
  · refine Reg.opensD rgS rgE (x :: r) 0 (Nat.succ_pos _) rfl (Tri.of Tryz.mixed Tryz.T_ok ?_)
    (refine xB ?_)
    exact wD (Ends.shutN (.inr rfl) (Reg.shuts rgS rgE (x :: r) 0 (Nat.succ_pos _) rfl rfl rfl rfl rfl (fun _ _ => rfl)) rfl rfl rfl)
theorem regNew_spec {M : Mem} {d : Nat} : CallSpec Tryz.prog 62 [] M d { v := XV.sv (.ptr d 0 0 0), upd := [(d, .abs (pReg []))] } [] := by
  refine spec_new Tryz.T_ok Tryz.func62 rfl [] rfl 2 (fun C hC => ?_)
  refine Tri.of Tryz.mixed Tryz.T_ok ?_
  (refine xB ?_)
  exact wD (Ends.made (.inr rfl) (Reg.shuts0 rgS rgE 2 rfl) rfl (Nat.zero_le _) rfl)
theorem regF_raw {L : List SideM} : ∀ i, i < L.length → ∀ (j : Nat) (x : AC), (regF L i)[j]? = some x → (∃ u, x = AC.raw u) ∨ (regF L i)[j]? = some x := fun _ _ _ _ h => .inr h
set_option maxHeartbeats 4000000 in
theorem side_in (L : List SideM) (i : Nat) (hi : i < L.length) (hx : (L.getD i default).Sized) : Does Tryz.prog 22 [(.abs (pReg L), .abs (pReg L))] [.plain (.one (.raw (.int .i64 i)))] []
    (.tup [.agg (sideIns (L.getD i default) 0), .one (.raw (.bool true))]) (some (.abs (PackP (sideRows (L.getD i default))))) := by
  have h0 : 0 < L.length := by omega
  have hin : inB L (i : Int) = true := by rw [inB, Bool.and_eq_true, decide_eq_true_eq, decide_eq_true_eq]; omega
  have hc := copied_can (L.getD i default) hx
  have hreg := regIn_can L (i : Int)
  rw [hin] at hreg
  refine Does.of Tryz.T_ok Tryz.func22 rfl _ _ _ _ _ rfl rfl rfl 18 (fun C hC => ?_)
  (replace hC : C.n0 = 2 := hC; change Tri _ _ _ ⟨_, _, 2⟩ _)
  (refine Tri.cut 2 Tryz.mixed Tryz.T_ok ?_; refine xZ ?_)
  (apply wP; exact (call_op rfl (entersB_of Tryz.func55 (by kernel_rfl)) rfl (hreg.at [] rfl rfl rfl ⟨lend_plain rfl, trivial⟩ trivial)); refine xZ ?_)
  refine wD <| cutG <| Reg.opens rgS rgE L 0 h0 rfl (Nat.le_of_ble_eq_true rfl) (fun ad => Tri.of Tryz.mixed Tryz.T_ok ?_)
  (refine xB ?_)
  (repeat (refine wN ?_ ?_; exact xW; refine xG ?_))
  simp only [Nat.zero_add, Int.toNat_natCast]
  (apply wP; exact (call_op rfl (entersB_of Tryz.func56 (by kernel_rfl)) rfl (hc.at [10] ⟨lend_rec (q := 10) (L := L) (i := i) (ad := ad) rfl rfl hi, trivial⟩ trivial)); refine xZ ?_)
  exact wD (Ends.does (.inr rfl) (Reg.shutsO rgS rgE L L 0 (i1 := 9) (q := 10) h0 rfl rfl rfl rfl rfl rfl (fun _ _ => rfl) regF_raw) rfl rfl (Nat.le_of_ble_eq_true rfl) rfl)
abbrev nilV : SV := .raw (.slice none 0 0)
def sideZ : XV := .tup [.agg (sideCells side0 nilV nilV nilV nilV), .one (.raw (.bool false))]
theorem side_out (L : List SideM) (i : Int) (hi : inB L i = false) : Does Tryz.prog 22 [(.abs (pReg L), .abs (pReg L))] [.plain (.one (.raw (.int .i64 i)))] [] sideZ none := by
  have hreg := regIn_can L i
  rw [hi] at hreg
  refine Does.of Tryz.T_ok Tryz.func22 rfl _ _ _ _ _ rfl rfl rfl 0 (fun C hC => ?_)
  (replace hC : C.n0 = 2 := hC; change Tri _ _ _ ⟨_, _, 2⟩ _)
  refine Tri.of Tryz.mixed Tryz.T_ok ?_
  (refine xB ?_)
  (apply wP; exact (call_op rfl (entersB_of Tryz.func55 (by kernel_rfl)) rfl (hreg.at [] rfl rfl rfl ⟨lend_plain rfl, trivial⟩ trivial)); refine xZ ?_)
  exact wD (Ends.shutN (.inr rfl) (Ent.refl _) rfl rfl rfl)
set_option maxHeartbeats 4000000 in
theorem regSet_can (L : List SideM) (i : Nat) (hi : i < L.length) (x : SideM) (hx : x.Sized) : Acts Tryz.prog 49 (.abs (pReg L)) (.abs (pReg (L.set i x))) [.plain (.one (.raw (.int .i64 i))), .box x.ac] [] (XV.bool true) := by
  have h0 : 0 < L.length := by omega
  have hin : inB L (i : Int) = true := by rw [inB, Bool.and_eq_true, decide_eq_true_eq, decide_eq_true_eq]; omega
  have hc := copied_can x hx
  have hreg := regIn_can L (i : Int)
  rw [hin] at hreg
  refine Acts.of Tryz.T_ok Tryz.func49 rfl _ _ _ _ _ rfl rfl rfl (fun C hC => ?_)
  (replace hC : C.n0 = 6 := hC; change Tri _ _ _ ⟨_, _, 6⟩ _)
  (refine Tri.cut 2 Tryz.mixed Tryz.T_ok ?_; refine xZ ?_)
  (apply wP; exact (call_op rfl (entersB_of Tryz.func55 (by kernel_rfl)) rfl (hreg.at [] rfl rfl rfl ⟨lend_plain rfl, trivial⟩ trivial)); refine xZ ?_)
  refine wD <| cutG <| Reg.opensD rgS rgE L 0 h0 rfl (Tri.of Tryz.mixed Tryz.T_ok ?_)
  (refine xB ?_)
  (apply wP; exact (call_op rfl (entersB_of Tryz.func56 (by kernel_rfl)) rfl (hc.at [2, 3, 4, 5] ⟨lend_side (lend_ro0 rfl rfl) (lend_ro0 rfl rfl) (lend_ro0 rfl rfl) (lend_ro0 rfl rfl), trivial⟩ trivial)); refine xZ ?_)
  (repeat (refine wN ?_ ?_; exact xW; refine xG ?_))
  simp only [Nat.zero_add, Int.toNat_natCast]
  (refine wP _ _ (storeDeep_op Tryz.T_ok rfl rfl rfl rfl rfl rfl (by decide) rfl rfl rfl hi (boxed_ins x 20)) ?_; refine xZ ?_)
  refine wD (Ends.shutN (.inr rfl) (Reg.shuts rgS rgE (L.set i x) 0 (i1 := 13) (by rw [List.length_set]; exact h0) rfl rfl rfl (by rw [List.length_set]) (by rw [List.length_set]) (fun k _ => ?_)) rfl rfl rfl)
  exact congrFun (regF_set hi x) k
end Go.Proofs.YtnpkdoggfnlapaaGreatDoor
namespace Go.Proofs.YtnpkdoggfnlapaaGreatDoor
set_option maxRecDepth 100000
open Go.Sx
end Go.Proofs.YtnpkdoggfnlapaaGreatDoor
namespace Go.Proofs.YtnpkdoggfnlapaaGreatDoor
set_option maxRecDepth 100000
open Go.Sx
theorem rowB_numL (n : Int) : ∀ {w k : Nat}, k < w → bytesF (numB n) k = rowB (numL n w) k
  | w + 1, k, hk => by
    rw [numL]
    by_cases h : k < w
    · rw [rowB_numL n h]
      simp [rowB, bytesF, List.getD_eq_getElem?_getD, List.getElem?_append_left (show k < (numL n w).length by rw [numL_length]; exact h)]
    · obtain rfl : k = w := by omega
      simp [rowB, bytesF, List.getD_eq_getElem?_getD, numL_length]
def digF (n : Int) (i : Nat) : Nat → UInt8 := fun k => if k < i then numB n k else 0
def digSt (n : Int) (w i : Nat) : St :=
  ⟨[some (XV.int .i64 n), none, none, none, none, some (XV.sv (.slc 2 1 0 w)), none, none, none, some (XV.sv (.slc 2 1 0 w)), some (XV.int .i64 w), some (XV.int .i64 i)] ++ List.replicate 12 none,
   [(2, .vec 5 1 w (bytesF (digF n i)))], 3⟩
theorem digits_can (n : Int) (w : Nat) (hw : w ≤ 7) : Makes Tryz.prog 212 [.plain (.one (.raw (.int .i64 n))), .plain (.one (.raw (.int .i64 w)))] [] (XV.sv (.slc 0 1 0 w)) (.vec 5 1 w (rowB (numL n w))) := by
  refine Makes.of Tryz.T_ok Tryz.func212 rfl _ _ _ _ rfl rfl rfl rfl 2 (fun C hC => ?_)
  (replace hC : C.n0 = 2 := hC; change Tri _ _ _ ⟨_, _, 2⟩ _)
  (refine Tri.cut 2 Tryz.mixed Tryz.T_ok ?_; refine xZ ?_)
  refine wN ⟨rfl, by omega, by omega⟩ ?_
  (refine xG ?_)
  refine wD <| cutG <| Tri.seq ?_
  (refine Tri.cut 1 Tryz.mixed Tryz.T_ok ?_; refine xZ ?_)
  refine wD <| cutG <| Tri.block ?_
  refine Tri.loop (α := { i : Nat // i ≤ w }) (fun i => digSt n w i.1) (fun i => w - i.1) ⟨0, Nat.zero_le _⟩ ?_ ?_
  · simp only [Int.toNat_natCast]
    ((try dsimp only); refine Ent.renC [0, 1, 4] hC ?_ ?_ <;> repeat' (first | exact trivial | exact rfl | exact ⟨_, rfl, rfl, rfl, Nat.le_refl _, fun _ _ => rfl⟩ | exact ⟨_, rfl, rfl, rfl, fun _ _ => rfl⟩ | exact ⟨_, rfl, rfl, rfl⟩ | exact ⟨_, rfl, rfl⟩ | refine ⟨_, rfl, rfl, rfl, by omega, fun k hk => ?_⟩ | refine ⟨?_, ?_⟩ | fail))
  rintro ⟨i, hi⟩
  dsimp only
  (refine Tri.cut 2 Tryz.mixed Tryz.T_ok ?_; refine xZ ?_)
  refine wC (fun h1 => ?_) (fun h1 => ?_)
  · (refine xG ?_)
    have h1' : i < w := xW
    have hw1 : IntKind.i64.wrap ((i : Int) + 1) = ((i + 1 : Nat) : Int) := xW
    have hw8 : IntKind.i64.wrap (8 * (i : Int)) = ((8 * i : Nat) : Int) := xW
    refine wD <| cutG <| Tri.seq <| Tri.block <| Tri.of Tryz.mixed Tryz.T_ok ?_
    (refine xB ?_)
    simp only [hw8]
    (repeat (refine wN ?_ ?_; exact xW; refine xG ?_))
    refine wD <| blockN <| cutG <| Tri.of Tryz.mixed Tryz.T_ok ?_
    (refine xB ?_)
    refine wD <| loopN ⟨⟨i + 1, h1'⟩, by dsimp only; omega, ?_⟩
    rw [hw1]
    ((try dsimp only); refine Ent.renC [0, 1, 2] hC ?_ ?_ <;> repeat' (first | exact trivial | exact rfl | exact ⟨_, rfl, rfl, rfl, Nat.le_refl _, fun _ _ => rfl⟩ | exact ⟨_, rfl, rfl, rfl, fun _ _ => rfl⟩ | exact ⟨_, rfl, rfl, rfl⟩ | exact ⟨_, rfl, rfl⟩ | refine ⟨_, rfl, rfl, rfl, by omega, fun k hk => ?_⟩ | refine ⟨?_, ?_⟩ | fail))
    simp only [Int.toNat_natCast, Nat.zero_add]
    rw [← u8_byteI, updB]
    simp only [bytesF, digF]
    by_cases hk2 : k = i
    · subst hk2
      rw [if_pos rfl, if_pos (Nat.lt_succ_self k)]
      rfl
    · rw [if_neg hk2]
      by_cases hk3 : k < i
      · rw [if_pos hk3, if_pos (by omega)]
      · rw [if_neg hk3, if_neg (by omega)]
  · (refine xG ?_)
    have h1' : i = w := xW
    subst h1'
    have hf : ∀ k, k < i → bytesF (digF n i) k = rowB (numL n i) k := fun k hk => by
      rw [← rowB_numL n hk]; simp [bytesF, digF, hk]
    refine wD <| cutE <| loopX <| blockX <| cutG <| Tri.ent (Ent.chg0 (c := 2) (g := rowB (numL n i)) rfl hf) <| Tri.of Tryz.mixed Tryz.T_ok ?_
    (refine xB ?_)
    exact wD (Ends.made (.inr rfl) (Ent.refl _) rfl (Nat.le_refl _) rfl)
structure WrM where
  b : List UInt8
  e : Int
def wrM (ty : TypeId) (W : WrM) : Mem := [(0, .cells ty [.slc 1 1 0 W.b.length, .raw (.int .i64 W.e)]), (1, .vec 5 1 W.b.length (rowB W.b))]
def wrP (ty : TypeId) (W : WrM) : AbsP := packP (wrM ty W) True
theorem WrM.opens {P : Program} {C : Ctx} {cd : Code} {slots : List (Option XV)} {mem : Mem} {nx : Nat} {Q : Exit → St → Prop} (ty : TypeId) (W : WrM) (c : Nat) (hc : mem.get c = some (.abs (wrP ty W)))
    (h : Tri P C cd ⟨slots, (c, .cells ty [.slc (nx + 1) 1 0 W.b.length, .raw (.int .i64 W.e)]) :: (nx + 1, .vec 5 1 W.b.length (rowB W.b)) :: mem.del c, nx + 2⟩ Q) : Tri P C cd ⟨slots, mem, nx⟩ Q :=
  Tri.opens (M := wrM ty W) (m := 2) (inv := True) (c := c) hc rfl fun _ => h
theorem WrM.shuts {C : Ctx} {slots : List (Option XV)} {mem : Mem} {nx : Nat} (ty : TypeId) (W : WrM) (c : Nat) {i1 m n : Nat} {er : Int} {f : Nat → List Value} (k0 : mem.get c = some (.cells ty [.slc i1 1 0 m, .raw (.int .i64 er)])) (k1 : mem.get i1 = some (.vec 5 1 n f))
    (hids : Nat.beq c i1 = false) (hm : m = W.b.length) (he : er = W.e) (hle : W.b.length ≤ n) (hf : ∀ i, i < W.b.length → f i = rowB W.b i) : Ent C ⟨slots, mem, nx⟩ ⟨slots, (c, .abs (wrP ty W)) :: mem.dels [c, i1], nx⟩ := by
  subst hm he
  exact Ent.shut2 (S := ⟨slots, mem, nx⟩) (M := wrM ty W) (inv := True) hids trivial rfl rfl rfl k0 k1 rfl ⟨rfl, rfl⟩ ⟨rfl, rfl, hle, hf⟩
theorem WrM.ends {C : Ctx} {T : TyTab} {rs : List ResultVar} {X X' : XV} {e : Exit} {n0 : Nat} {slots : List (Option XV)} {mem : Mem} {nx : Nat} {W0 : WrM} (ty : TypeId) (W : WrM) {i1 m n : Nat} {er : Int} {f : Nat → List Value} (he : e = .normal ∨ e = .ret)
    (k0 : mem.get 0 = some (.cells ty [.slc i1 1 0 m, .raw (.int .i64 er)])) (k1 : mem.get i1 = some (.vec 5 1 n f)) (hids : Nat.beq 0 i1 = false) (hr : resX T ⟨slots, (0, .abs (wrP ty W)) :: mem.dels [0, i1], nx⟩ rs = some X') (hX : X' = X) (hW : W = W0)
    (hm : m = W.b.length) (her : er = W.e) (hle : W.b.length ≤ n) (hf : ∀ i, i < W.b.length → f i = rowB W.b i) : Sx.Ends C T rs 1 n0 ⟨X, [(0, .abs (wrP ty W0))], none⟩ e ⟨slots, mem, nx⟩ := by
  subst hX hW
  exact Ends.shutN he (WrM.shuts ty W 0 k0 k1 hids hm her hle hf) rfl hr rfl
def WrM.put (W : WrM) (b : List UInt8) : WrM := if W.e = 0 then (if (131072 : Int) - (W.b.length : Int) < (b.length : Int) then ⟨W.b, 3⟩ else ⟨W.b ++ b, W.e⟩) else W
theorem put_can (ty : TypeId) (W : WrM) (b : List UInt8) (hW : W.b.length ≤ 1000000) (hb : b.length ≤ 1000000) : Acts Tryz.prog 211 (.abs (wrP ty W)) (.abs (wrP ty (W.put b))) [.row 1 b.length (rowB b)] [] (.tup []) := by
  refine Acts.of Tryz.T_ok Tryz.func211 rfl _ _ _ _ _ rfl rfl rfl (fun C hC => ?_)
  (replace hC : C.n0 = 2 := hC; change Tri _ _ _ ⟨_, _, 2⟩ _)
  refine WrM.opens ty W 0 rfl (Tri.of Tryz.mixed Tryz.T_ok ?_)
  (refine xB ?_)
  refine wC (fun h1 => ?_) (fun h1 => ?_)
  · have h1' : ¬ W.e = 0 := by simpa using h1
    (refine xG ?_)
    refine wD (WrM.ends ty W (.inl rfl) rfl rfl rfl rfl rfl ?_ rfl rfl (Nat.le_refl _) (fun _ _ => rfl))
    rw [WrM.put, if_neg h1']
  · have h1' : W.e = 0 := by simpa using h1
    (refine xG ?_)
    have e1 : IntKind.i64.wrap (131072 - (W.b.length : Int)) = 131072 - (W.b.length : Int) := xW
    simp only [e1]
    refine wC (fun h2 => ?_) (fun h2 => ?_)
    · have h2' : (131072 : Int) - (W.b.length : Int) < (b.length : Int) := of_decide_eq_true h2
      (refine xG ?_)
      refine wD (WrM.ends ty ⟨W.b, 3⟩ (.inl rfl) rfl rfl rfl rfl rfl ?_ rfl rfl (Nat.le_refl _) (fun _ _ => rfl))
      rw [WrM.put, if_pos h1', if_pos h2']
    · have h2' : ¬ (131072 : Int) - (W.b.length : Int) < (b.length : Int) := of_decide_eq_false h2
      (refine xG ?_)
      (refine wP _ _ (append_op Tryz.T_ok rfl rfl rfl rfl rfl [3, 1] (old_vec rfl rfl (Nat.le_refl _) rfl) (new_ro (lo := 0) rfl rfl (Nat.le_of_eq (Nat.zero_add _)) rfl) rfl (fun _ _ => rfl) (by simp only [maxLen]; omega) (by dsimp only; omega)) ?_; refine xZ ?_)
      refine wD (WrM.ends ty ⟨W.b ++ b, W.e⟩ (.inl rfl) rfl rfl rfl rfl rfl ?_ (List.length_append).symm rfl (Nat.le_of_eq List.length_append) (fun i hi => ?_))
      · rw [WrM.put, if_pos h1', if_neg h2']
      · exact rowB_join rfl (fun _ _ => rfl) (fun _ _ => by rw [Nat.zero_add]) (by rw [← List.length_append]; exact hi)
def FitsN (n : Int) (w : Nat) : Prop := 1 ≤ w ∧ w ≤ 7 ∧ 0 ≤ n ∧ n < 2 ^ (8 * w)
theorem fits_shr {n : Int} {w : Nat} (h : FitsN n w) : shrI .i64 n ((8 * w : Nat) : Int) = 0 := by
  obtain ⟨h1, h2, h3, h4⟩ := h
  have hb : IntKind.i64.bits = 64 := rfl
  have e : min (((8 * w : Nat) : Int).toNat) IntKind.i64.bits = 8 * w := by rw [hb]; omega
  rw [shrI, e, Int.fdiv_eq_ediv_of_nonneg _ (Int.le_of_lt (Int.pow_pos (by decide)))]
  exact Int.ediv_eq_zero_of_lt h3 h4
theorem wnum_can (ty : TypeId) (W : WrM) (n : Int) (w : Nat) (hn : FitsN n w) (hW : W.b.length ≤ 1000000) : Acts Tryz.prog 183 (.abs (wrP ty W)) (.abs (wrP ty (W.put (numL n w)))) [.plain (.one (.raw (.int .i64 n))), .plain (.one (.raw (.int .i64 w)))] [] (.tup []) := by
  obtain ⟨f1, f2, f3, f4⟩ := id hn
  refine Acts.of Tryz.T_ok Tryz.func183 rfl _ _ _ _ _ rfl rfl rfl (fun C hC => ?_)
  (replace hC : C.n0 = 3 := hC; change Tri _ _ _ ⟨_, _, 3⟩ _)
  refine WrM.opens ty W 0 rfl (Tri.block ?_)
  (refine Tri.cut 1 Tryz.mixed Tryz.T_ok ?_; refine xZ ?_)
  refine wD <| cutG <| Tri.cond (b := (W.e != 0)) rfl (fun h1 => ?_) (fun h1 => ?_)
  · have h1' : ¬ W.e = 0 := by simpa using h1
    refine Tri.skip (blockN (WrM.ends ty W (.inl rfl) rfl rfl rfl rfl rfl ?_ rfl rfl (Nat.le_refl _) (fun _ _ => rfl)))
    rw [WrM.put, if_neg h1']
  · have e8 : IntKind.i64.wrap (8 * (w : Int)) = ((8 * w : Nat) : Int) := xW
    refine Tri.ent (WrM.shuts ty W 0 rfl rfl rfl rfl rfl (Nat.le_refl _) (fun _ _ => rfl)) (Tri.of Tryz.mixed Tryz.T_ok ?_)
    (refine xB ?_)
    (refine wFd ?_ ?_; (first | refine decide_eq_false ?_ | rw [beq_eq_false_iff_ne] | rw [bne_eq_false_iff_eq]); exact xW; refine xG ?_)
    (refine wFd ?_ ?_; (first | refine decide_eq_false ?_ | rw [beq_eq_false_iff_ne] | rw [bne_eq_false_iff_eq]); exact xW; refine xG ?_)
    (refine wFd ?_ ?_; (first | refine decide_eq_false ?_ | rw [beq_eq_false_iff_ne] | rw [bne_eq_false_iff_eq]); exact xW; refine xG ?_)
    simp only [e8]
    (repeat (refine wN ?_ ?_; exact xW; refine xG ?_))
    simp only [fits_shr hn]
    (refine wFd rfl ?_; refine xG ?_)
    (apply wP; exact (call_op rfl (entersB_of Tryz.func212 (by kernel_rfl)) rfl ((digits_can n w f2).at [] ⟨lend_plain rfl, lend_plain rfl, trivial⟩ trivial)); refine xZ ?_)
    (apply wP; exact (call_op rfl (entersB_of Tryz.func211 (by kernel_rfl)) rfl ((put_can ty W (numL n w) hW (by rw [numL_length]; omega)).at [36] rfl rfl rfl ⟨lend_vecN (numL_length n w).symm rfl rfl (by rw [numL_length]; omega) (fun i _ => by rw [Nat.zero_add]), trivial⟩ trivial)); refine xZ ?_)
    exact wD (blockN (Ends.shutN (.inl rfl) (Ent.refl _) rfl rfl rfl))
def WrM.hash (W : WrM) (h : H8) : WrM := W.put h.l
theorem whash_can (ty : TypeId) (W : WrM) (h : H8) (hW : W.b.length ≤ 1000000) : Acts Tryz.prog 213 (.abs (wrP ty W)) (.abs (wrP ty (W.put h.l))) [.plain h.x] [] (.tup []) := by
  refine Acts.of Tryz.T_ok Tryz.func213 rfl _ _ _ _ _ rfl rfl rfl (fun C hC => ?_)
  (replace hC : C.n0 = 2 := hC; change Tri _ _ _ ⟨_, _, 2⟩ _)
  refine Tri.of Tryz.mixed Tryz.T_ok ?_
  (refine xB ?_)
  (apply wP; exact (call_op rfl (entersB_of Tryz.func211 (by kernel_rfl)) rfl ((put_can ty W h.l hW (by simp [H8.l_len])).at [2] rfl rfl rfl ⟨lend_sla rfl rfl (fun _ _ => rfl) rfl, trivial⟩ trivial)); refine xZ ?_)
  exact wD (Ends.shutN (.inl rfl) (Ent.refl _) rfl rfl rfl)
end Go.Proofs.YtnpkdoggfnlapaaGreatDoor
namespace Go.Proofs.YtnpkdoggfnlapaaGreatDoor
set_option maxRecDepth 100000
open Go.Sx
theorem lend_par {M : Mem} {rd : List Nat} {p : ParM} {k : SV} (h : Lends M rd (.one k) (.row 8 p.keys.length (keysF p.keys))) : Lends M rd (.agg (parCells p k)) (.box p.ac) := lend_box ⟨rfl, rfl, rfl, h, trivial⟩
theorem lend_cert {M : Mem} {rd : List Nat} {c : CertM} {o s : SV} (h1 : Lends M rd (.one o) (.row 9 c.outs.length (outsF c.outs))) (h2 : Lends M rd (.one s) (.row 282 c.sigs.length (sgdsF c.sigs))) : Lends M rd (.agg (certCells c o s)) (.box c.ac) := by
  refine lend_box ⟨rfl, rfl, rfl, ?_⟩
  refine LendsC.raws ?_ _
  refine LendsC.raws ?_ _
  exact ⟨h1, h2, trivial⟩
def ClaimM.x (c : ClaimM) : CV := .agg (c.cells.map .raw)
def sgdOK (s : SgdM) : Bool := withinB s.key 0 4 && withinB s.sig.idx 0 255
def certN (c : CertM) : Bool := withinB c.side 0 7 && (withinB c.ep 0 400 && withinB c.qual 0 2147483647)
def certOK (c : CertM) : Bool := c.sigs.all sgdOK && (certN c && (outsOK c.outs && withinB (c.sigs.length : Int) 1 5))
def certM (c : CertM) : Mem := [(0, .ro 9 c.outs.length (outsF c.outs)), (1, .ro 282 c.sigs.length (sgdsF c.sigs)), (2, .cells 43 (boxC 0 c.ac))]
def certSt5 (c : CertM) (n : Bool) : St := ⟨[none, some (XV.sv (.ptr 2 0 0 0)), none, none, none, some (XV.bool n)] ++ List.replicate 44 none, certM c, 3⟩
set_option maxHeartbeats 2000000 in
theorem certOK_can (c : CertM) (ho : c.outs.length ≤ 1000000000) (hl : c.sigs.length ≤ 1000000000) : Reads Tryz.prog 138 [.box c.ac] [] (XV.bool (certOK c)) := by
  refine Reads.of Tryz.T_ok Tryz.func138 rfl _ _ _ rfl rfl (fun C hC => ?_)
  (replace hC : C.n0 = 2 := hC; change Tri _ _ _ ⟨_, _, 2⟩ _)
  (refine Tri.cut 1 Tryz.mixed Tryz.T_ok ?_; refine xZ ?_)
  refine wD <| cutG <| Tri.seq ?_
  (refine Tri.cut 1 Tryz.mixed Tryz.T_ok ?_; refine xZ ?_)
  refine wD <| cutG <| Tri.block ?_
  refine Tri.loop (α := { i : Nat // i ≤ c.sigs.length ∧ (c.sigs.take i).all sgdOK = true }) (fun i => ⟨[none, some (XV.sv (.ptr 2 0 0 0)), none, none, none, none, none, some (XV.sv (.slc 1 282 0 c.sigs.length)), some (XV.int .i64 c.sigs.length), some (XV.int .i64 i.1)] ++ List.replicate 40 none, certM c, 3⟩) (fun i => c.sigs.length - i.1) ⟨0, Nat.zero_le _, rfl⟩ ?_ ?_
  · unfold certM
    ((try dsimp only); refine Ent.renC [0, 1, 2] hC ?_ ?_ <;> repeat' (first | exact trivial | exact rfl | exact ⟨_, rfl, rfl, rfl, Nat.le_refl _, fun _ _ => rfl⟩ | exact ⟨_, rfl, rfl, rfl, fun _ _ => rfl⟩ | exact ⟨_, rfl, rfl, rfl⟩ | exact ⟨_, rfl, rfl⟩ | refine ⟨_, rfl, rfl, rfl, by omega, fun k hk => ?_⟩ | refine ⟨?_, ?_⟩ | fail))
  rintro ⟨i, hi, ha⟩
  dsimp only
  unfold certM
  (refine Tri.cut 2 Tryz.mixed Tryz.T_ok ?_; refine xZ ?_)
  refine wC (fun h1 => ?_) (fun h1 => ?_)
  · (refine xG ?_)
    have h1' : i < c.sigs.length := xW
    have hs := all_take_succ (p := sgdOK) h1'
    have hw : IntKind.i64.wrap ((i : Int) + 1) = ((i + 1 : Nat) : Int) := xW
    have bad : sgdOK (c.sigs.getD i default) = false → certOK c = false := fun h => by rw [certOK, all_false h1' h, Bool.false_and]
    refine wD <| cutG <| Tri.seq <| Tri.block <| Tri.of Tryz.mixed Tryz.T_ok ?_
    (refine xB ?_)
    (repeat (refine wN ?_ ?_; exact xW; refine xG ?_))
    simp only [Nat.zero_add, Int.toNat_natCast]
    (apply wP; exact (call_op rfl (entersB_of Tryz.func134 (by kernel_rfl)) rfl ((within_can (c.sigs.getD i default).key 0 4).at [] ⟨lend_plain rfl, lend_plain rfl, lend_plain rfl, trivial⟩ trivial)); refine xZ ?_)
    refine wC (fun h2 => ?_) (fun h2 => ?_)
    · have h2 : withinB (c.sigs.getD i default).key 0 4 = false := by simpa using h2
      (refine xG ?_)
      refine wD <| blockR <| cutR <| loopR <| blockR <| cutR <| Ends.plain (.inr rfl) rfl ?_
      rw [bad (by rw [sgdOK, h2]; rfl)]
    have h2 : withinB (c.sigs.getD i default).key 0 4 = true := by simpa using h2
    (refine xG ?_)
    (apply wP; exact (call_op rfl (entersB_of Tryz.func134 (by kernel_rfl)) rfl ((within_can (c.sigs.getD i default).sig.idx 0 255).at [] ⟨lend_plain rfl, lend_plain rfl, lend_plain rfl, trivial⟩ trivial)); refine xZ ?_)
    refine wC (fun h3 => ?_) (fun h3 => ?_)
    · have h3 : withinB (c.sigs.getD i default).sig.idx 0 255 = false := by simpa using h3
      (refine xG ?_)
      refine wD <| blockR <| cutR <| loopR <| blockR <| cutR <| Ends.plain (.inr rfl) rfl ?_
      rw [bad (by rw [sgdOK, h2, h3]; rfl)]
    · have h3 : withinB (c.sigs.getD i default).sig.idx 0 255 = true := by simpa using h3
      (refine xG ?_)
      refine wD <| blockN <| cutG <| Tri.of Tryz.mixed Tryz.T_ok ?_
      (refine xB ?_)
      refine wD <| loopN ⟨⟨i + 1, h1', by rw [hs, ha, sgdOK, h2, h3]; rfl⟩, by dsimp only; omega, ?_⟩
      rw [hw]
      ((try dsimp only); refine Ent.renC [0, 1, 2] hC ?_ ?_ <;> repeat' (first | exact trivial | exact rfl | exact ⟨_, rfl, rfl, rfl, Nat.le_refl _, fun _ _ => rfl⟩ | exact ⟨_, rfl, rfl, rfl, fun _ _ => rfl⟩ | exact ⟨_, rfl, rfl, rfl⟩ | exact ⟨_, rfl, rfl⟩ | refine ⟨_, rfl, rfl, rfl, by omega, fun k hk => ?_⟩ | refine ⟨?_, ?_⟩ | fail))
  · (refine xG ?_)
    have h1' : i = c.sigs.length := xW
    subst h1'
    rw [List.take_length] at ha
    refine wD <| cutE <| loopX <| blockX <| cutG <| Tri.merge (certSt5 c (certN c)) (Tri.of Tryz.mixed Tryz.T_ok ?_) (Tri.of Tryz.mixed Tryz.T_ok ?_)
    · have fin : ∀ {S : St} {b : Bool}, b = certN c → Ent C S (certSt5 c b) → Ent C S (certSt5 c (certN c)) := by
        intro S b hb h; subst hb; exact h
      (refine xB ?_)
      (apply wP; exact (call_op rfl (entersB_of Tryz.func134 (by kernel_rfl)) rfl ((within_can c.side 0 7).at [] ⟨lend_plain rfl, lend_plain rfl, lend_plain rfl, trivial⟩ trivial)); refine xZ ?_)
      refine wC (fun k1 => ?_) (fun k1 => ?_)
      · (refine xG ?_)
        (apply wP; exact (call_op rfl (entersB_of Tryz.func134 (by kernel_rfl)) rfl ((within_can c.ep 0 400).at [] ⟨lend_plain rfl, lend_plain rfl, lend_plain rfl, trivial⟩ trivial)); refine xZ ?_)
        refine wC (fun k2 => ?_) (fun k2 => ?_)
        · (refine xG ?_)
          (apply wP; exact (call_op rfl (entersB_of Tryz.func134 (by kernel_rfl)) rfl ((within_can c.qual 0 2147483647).at [] ⟨lend_plain rfl, lend_plain rfl, lend_plain rfl, trivial⟩ trivial)); refine xZ ?_)
          refine wD ⟨rfl, fin (b := withinB c.qual 0 2147483647) (by rw [certN, k1, k2]; rfl) ?_⟩
          unfold certSt5 certM
          ((try dsimp only); refine Ent.renC [0, 1, 2] hC ?_ ?_ <;> repeat' (first | exact trivial | exact rfl | exact ⟨_, rfl, rfl, rfl, Nat.le_refl _, fun _ _ => rfl⟩ | exact ⟨_, rfl, rfl, rfl, fun _ _ => rfl⟩ | exact ⟨_, rfl, rfl, rfl⟩ | exact ⟨_, rfl, rfl⟩ | refine ⟨_, rfl, rfl, rfl, by omega, fun k hk => ?_⟩ | refine ⟨?_, ?_⟩ | fail))
        · (refine xG ?_)
          refine wD ⟨rfl, fin (b := false) (by rw [certN, k1, k2]; rfl) ?_⟩
          unfold certSt5 certM
          ((try dsimp only); refine Ent.renC [0, 1, 2] hC ?_ ?_ <;> repeat' (first | exact trivial | exact rfl | exact ⟨_, rfl, rfl, rfl, Nat.le_refl _, fun _ _ => rfl⟩ | exact ⟨_, rfl, rfl, rfl, fun _ _ => rfl⟩ | exact ⟨_, rfl, rfl, rfl⟩ | exact ⟨_, rfl, rfl⟩ | refine ⟨_, rfl, rfl, rfl, by omega, fun k hk => ?_⟩ | refine ⟨?_, ?_⟩ | fail))
      · (refine xG ?_)
        refine wD ⟨rfl, fin (b := false) (by rw [certN, k1]; rfl) ?_⟩
        unfold certSt5 certM
        ((try dsimp only); refine Ent.renC [0, 1, 2] hC ?_ ?_ <;> repeat' (first | exact trivial | exact rfl | exact ⟨_, rfl, rfl, rfl, Nat.le_refl _, fun _ _ => rfl⟩ | exact ⟨_, rfl, rfl, rfl, fun _ _ => rfl⟩ | exact ⟨_, rfl, rfl, rfl⟩ | exact ⟨_, rfl, rfl⟩ | refine ⟨_, rfl, rfl, rfl, by omega, fun k hk => ?_⟩ | refine ⟨?_, ?_⟩ | fail))
    · unfold certSt5 certM
      have hc0 : certOK c = (certN c && (outsOK c.outs && withinB (c.sigs.length : Int) 1 5)) := by rw [certOK, ha, Bool.true_and]
      rw [hc0]
      generalize certN c = bn
      (refine xB ?_)
      refine wC (fun k1 => ?_) (fun k1 => ?_)
      · subst k1
        (refine xG ?_)
        (apply wP; exact (call_op rfl (entersB_of Tryz.func135 (by kernel_rfl)) rfl ((outsOK_can c.outs ho).at [0] ⟨lend_ro0 rfl rfl, trivial⟩ trivial)); refine xZ ?_)
        refine wC (fun k2 => ?_) (fun k2 => ?_)
        · (refine xG ?_)
          (apply wP; exact (call_op rfl (entersB_of Tryz.func134 (by kernel_rfl)) rfl ((within_can (c.sigs.length : Int) 1 5).at [] ⟨lend_plain rfl, lend_plain rfl, lend_plain rfl, trivial⟩ trivial)); refine xZ ?_)
          exact wD (Ends.plain (.inr rfl) rfl (by rw [k2]; rfl))
        · (refine xG ?_)
          exact wD (Ends.plain (.inr rfl) rfl (by rw [k2]; rfl))
      · subst k1
        (refine xG ?_)
        exact wD (Ends.plain (.inr rfl) rfl rfl)
def claimOK (c : ClaimM) : Bool := acctB c.side c.acct && (!zeroB c.st.owner && (moneyB c.st.amt && withinB c.st.nonce 0 255))
def TxM.bare4 (t : TxM) : TxM := { t with cert := cert0 }
set_option maxHeartbeats 4000000 in
theorem may4_can (t : TxM) (hk : t.kind = 4) (hs : Sized t) (hc : t.claim.Wf) : Reads Tryz.prog 82 [.box t.ac] [] (XV.bool (certOK t.cert && (emptyB t.bare4 && claimZ t.claim hc))) := by
  have ho := hs.couts
  have hg := hs.sigs
  have hs' : Sized t.bare4 := ⟨hs.ins, hs.outs, hs.fwds, hs.keys, Nat.zero_le _, Nat.zero_le _⟩
  obtain ⟨kind, height, ins, outs, fwds, par, cert, claim⟩ := t
  dsimp only at hk ho hg
  subst hk
  refine Reads.of Tryz.T_ok Tryz.func82 rfl _ _ _ rfl rfl (fun C hC => ?_)
  (replace hC : C.n0 = 6 := hC; change Tri _ _ _ ⟨_, _, 6⟩ _)
  refine Tri.of Tryz.mixed Tryz.T_ok ?_
  (refine xB ?_)
  (refine wFd rfl ?_; refine xG ?_)
  (refine wFd rfl ?_; refine xG ?_)
  (refine wFd rfl ?_; refine xG ?_)
  (refine wTd rfl ?_; refine xG ?_)
  (apply wP; exact (call_op rfl (entersB_of Tryz.func138 (by kernel_rfl)) rfl ((certOK_can cert ho hg).at [4, 5] ⟨lend_cert (lend_ro0 rfl rfl) (lend_ro0 rfl rfl), trivial⟩ trivial)); refine xZ ?_)
  refine wC (fun h1 => ?_) (fun h1 => ?_)
  · (refine xG ?_)
    (apply wP; exact (call_op rfl (entersB_of Tryz.func140 (by kernel_rfl)) rfl ((empty_can (TxM.bare4 ⟨4, height, ins, outs, fwds, par, cert, claim⟩) hs' hc).at [0, 1, 2, 3] ⟨lend_tx (t := TxM.bare4 ⟨4, height, ins, outs, fwds, par, cert, claim⟩) (lend_ro0 rfl rfl) (lend_ro0 rfl rfl) (lend_ro0 rfl rfl) (lend_ro0 rfl rfl) (lend_nil _ _) (lend_nil _ _), trivial⟩ trivial)); refine xZ ?_)
    exact wD (Ends.plain (.inr rfl) rfl (by rw [h1]; rfl))
  · (refine xG ?_)
    exact wD (Ends.plain (.inr rfl) rfl (by rw [h1]; rfl))
end Go.Proofs.YtnpkdoggfnlapaaGreatDoor
namespace Go.Proofs.YtnpkdoggfnlapaaGreatDoor
set_option maxRecDepth 100000
open Go.Sx
def WrM.puts (W : WrM) (cs : List (List UInt8)) : WrM := cs.foldl WrM.put W
theorem puts_snoc (W : WrM) (cs : List (List UInt8)) (c : List UInt8) : W.puts (cs ++ [c]) = (W.puts cs).put c := by simp [WrM.puts]
theorem puts_append (W : WrM) (cs ds : List (List UInt8)) : W.puts (cs ++ ds) = (W.puts cs).puts ds := by simp [WrM.puts]
theorem put_len {W : WrM} {b : List UInt8} (h : W.b.length ≤ 131072) : (W.put b).b.length ≤ 131072 := by
  unfold WrM.put
  split
  · split
    · exact h
    · rename_i h2
      simp only [List.length_append]
      omega
  · exact h
theorem puts_len : ∀ {cs : List (List UInt8)} {W : WrM}, W.b.length ≤ 131072 → (W.puts cs).b.length ≤ 131072
  | [], _, h => h
  | c :: cs, W, h => puts_len (cs := cs) (put_len (b := c) h)
theorem puts_ok : ∀ {cs : List (List UInt8)} {W : WrM}, W.e = 0 → W.b.length + cs.flatten.length ≤ 131072 → W.puts cs = ⟨W.b ++ cs.flatten, 0⟩
  | [], W, h, _ => by
    cases W
    simp only at h
    simp [WrM.puts, h]
  | c :: cs, W, h, hl => by
    simp only [List.flatten_cons, List.length_append] at hl
    have e : W.put c = ⟨W.b ++ c, 0⟩ := by
      rw [WrM.put, if_pos h, if_neg (by omega), h]
    show (W.put c).puts cs = _
    rw [e, puts_ok rfl (by simp only [List.length_append]; omega)]
    simp
def hashesL (p : Nat → H8) (n : Nat) : List (List UInt8) := (List.range n).map fun i => (p i).l
theorem hashesL_succ (p : Nat → H8) (n : Nat) : hashesL p (n + 1) = hashesL p n ++ [(p n).l] := by simp [hashesL, List.range_succ]
theorem row_can (ty : TypeId) (W : WrM) (p : Nat → H8) (n : Nat) (hn : n ≤ 1000000000) (hW : W.b.length ≤ 131072) : Acts Tryz.prog 215 (.abs (wrP ty W)) (.abs (wrP ty (W.puts (hashesL p n)))) [.row 8 n (hashF p)] [] (.tup []) := by
  refine Acts.of Tryz.T_ok Tryz.func215 rfl _ _ _ _ _ rfl rfl rfl (fun C hC => ?_)
  (replace hC : C.n0 = 2 := hC; change Tri _ _ _ ⟨_, _, 2⟩ _)
  (refine Tri.cut 1 Tryz.mixed Tryz.T_ok ?_; refine xZ ?_)
  refine wD <| cutG <| Tri.block ?_
  refine Tri.loop (α := { i : Nat // i ≤ n }) (fun i => ⟨[some (XV.sv (.ptr 0 0 0 0)), none, none, none, none, none, some (XV.sv (.slc 1 8 0 n)), some (XV.int .i64 n), some (XV.int .i64 i.1)] ++ List.replicate 9 none, [(0, .abs (wrP ty (W.puts (hashesL p i.1)))), (1, .ro 8 n (hashF p))], 2⟩) (fun i => n - i.1) ⟨0, Nat.zero_le _⟩ ?_ ?_
  · ((try dsimp only); refine Ent.renC [0, 1] hC ?_ ?_ <;> repeat' (first | exact trivial | exact rfl | exact ⟨_, rfl, rfl, rfl, Nat.le_refl _, fun _ _ => rfl⟩ | exact ⟨_, rfl, rfl, rfl, fun _ _ => rfl⟩ | exact ⟨_, rfl, rfl, rfl⟩ | exact ⟨_, rfl, rfl⟩ | refine ⟨_, rfl, rfl, rfl, by omega, fun k hk => ?_⟩ | refine ⟨?_, ?_⟩ | fail))
  rintro ⟨i, hi⟩
  dsimp only
  (refine Tri.cut 2 Tryz.mixed Tryz.T_ok ?_; refine xZ ?_)
  refine wC (fun h1 => ?_) (fun h1 => ?_)
  · (refine xG ?_)
    have h1' : i < n := xW
    have hw : IntKind.i64.wrap ((i : Int) + 1) = ((i + 1 : Nat) : Int) := xW
    have hp := puts_len (cs := hashesL p i) hW
    refine wD <| cutG <| Tri.seq <| Tri.block <| Tri.of Tryz.mixed Tryz.T_ok ?_
    (refine xB ?_)
    (repeat (refine wN ?_ ?_; exact xW; refine xG ?_))
    simp only [Nat.zero_add, Int.toNat_natCast]
    (apply wP; exact (call_op rfl (entersB_of Tryz.func213 (by kernel_rfl)) rfl ((whash_can ty (W.puts (hashesL p i)) (p i) (by omega)).at [] rfl rfl rfl ⟨lend_plain rfl, trivial⟩ trivial)); refine xZ ?_)
    refine wD <| blockN <| cutG <| Tri.of Tryz.mixed Tryz.T_ok ?_
    (refine xB ?_)
    refine wD <| loopN ⟨⟨i + 1, h1'⟩, by dsimp only; omega, ?_⟩
    rw [hw]
    dsimp only
    rw [hashesL_succ, puts_snoc]
    ((try dsimp only); refine Ent.renC [0, 1] hC ?_ ?_ <;> repeat' (first | exact trivial | exact rfl | exact ⟨_, rfl, rfl, rfl, Nat.le_refl _, fun _ _ => rfl⟩ | exact ⟨_, rfl, rfl, rfl, fun _ _ => rfl⟩ | exact ⟨_, rfl, rfl, rfl⟩ | exact ⟨_, rfl, rfl⟩ | refine ⟨_, rfl, rfl, rfl, by omega, fun k hk => ?_⟩ | refine ⟨?_, ?_⟩ | fail))
  · (refine xG ?_)
    have h1' : i = n := xW
    subst h1'
    exact wD <| cutE <| loopX <| blockX (Ends.shutN (.inl rfl) (Ent.refl _) rfl rfl rfl)
def SigM.parts (s : SigM) : List (List UInt8) := numL s.idx 1 :: (hashesL s.opn 16 ++ (hashesL s.shut 16 ++ hashesL s.path 3))
theorem sig_can (ty : TypeId) (W : WrM) (s : SigM) (hs : FitsN s.idx 1) (hW : W.b.length ≤ 131072) : Acts Tryz.prog 214 (.abs (wrP ty W)) (.abs (wrP ty (W.puts s.parts))) [.plain s.x] [] (.tup []) := by
  have h1 := put_len (b := numL s.idx 1) hW
  have h2 := puts_len (cs := hashesL s.opn 16) h1
  have h3 := puts_len (cs := hashesL s.shut 16) h2
  refine Acts.of Tryz.T_ok Tryz.func214 rfl _ _ _ _ _ rfl rfl rfl (fun C hC => ?_)
  (replace hC : C.n0 = 2 := hC; change Tri _ _ _ ⟨_, _, 2⟩ _)
  refine Tri.of Tryz.mixed Tryz.T_ok ?_
  (refine xB ?_)
  (apply wP; exact (call_op rfl (entersB_of Tryz.func183 (by kernel_rfl)) rfl ((wnum_can ty W s.idx 1 hs (by omega)).at [] rfl rfl rfl ⟨lend_plain rfl, lend_plain rfl, trivial⟩ trivial)); refine xZ ?_)
  (apply wP; exact (call_op rfl (entersB_of Tryz.func215 (by kernel_rfl)) rfl ((row_can ty (W.put (numL s.idx 1)) s.opn 16 (by decide) h1).at [2] rfl rfl rfl ⟨lend_sla rfl rfl (fun _ _ => rfl) rfl, trivial⟩ trivial)); refine xZ ?_)
  (apply wP; exact (call_op rfl (entersB_of Tryz.func215 (by kernel_rfl)) rfl ((row_can ty ((W.put (numL s.idx 1)).puts (hashesL s.opn 16)) s.shut 16 (by decide) h2).at [2] rfl rfl rfl ⟨lend_sla rfl rfl (fun _ _ => rfl) rfl, trivial⟩ trivial)); refine xZ ?_)
  (apply wP; exact (call_op rfl (entersB_of Tryz.func215 (by kernel_rfl)) rfl ((row_can ty (((W.put (numL s.idx 1)).puts (hashesL s.opn 16)).puts (hashesL s.shut 16)) s.path 3 (by decide) h3).at [2] rfl rfl rfl ⟨lend_sla rfl rfl (fun _ _ => rfl) rfl, trivial⟩ trivial)); refine xZ ?_)
  have e : W.puts s.parts = (((W.put (numL s.idx 1)).puts (hashesL s.opn 16)).puts (hashesL s.shut 16)).puts (hashesL s.path 3) := by
    show (W.put (numL s.idx 1)).puts _ = _
    rw [puts_append, puts_append]
  rw [e]
  exact wD (Ends.shutN (.inl rfl) (Ent.refl _) rfl rfl rfl)
end Go.Proofs.YtnpkdoggfnlapaaGreatDoor
namespace Go.Proofs.YtnpkdoggfnlapaaGreatDoor
set_option maxRecDepth 100000
open Go.Sx
theorem flatMap_take_succ {E F : Type} [Inhabited E] (f : E → List F) {l : List E} {i : Nat} (hi : i < l.length) : (l.take (i + 1)).flatMap f = (l.take i).flatMap f ++ f (l.getD i default) := by
  rw [List.take_add_one, List.flatMap_append]
  have : l[i]?.toList = [l.getD i default] := by rw [List.getElem?_eq_getElem hi, List.getD_eq_getElem?_getD, List.getElem?_eq_getElem hi]; rfl
  rw [this]; simp
theorem all_at {E : Type} [Inhabited E] {p : E → Bool} {l : List E} (h : l.all p = true) {i : Nat} (hi : i < l.length) : p (l.getD i default) = true := by
  rw [List.getD_eq_getElem?_getD, List.getElem?_eq_getElem hi]
  exact List.all_eq_true.1 h _ (List.getElem_mem hi)
theorem within_iff {n a b : Int} : withinB n a b = true ↔ a ≤ n ∧ n ≤ b := by simp [withinB]
theorem fits_within {n b : Int} {w : Nat} (h : withinB n 0 b = true) (hw : 1 ≤ w ∧ w ≤ 7) (hb : b < 2 ^ (8 * w)) : FitsN n w := by
  rw [within_iff] at h
  exact ⟨hw.1, hw.2, h.1, Int.lt_of_le_of_lt h.2 hb⟩
theorem fits_money {n : Int} (h : moneyB n = true) : FitsN n 7 := by
  rw [moneyB, within_iff] at h
  exact ⟨by decide, by decide, by omega, by omega⟩
theorem fits_len {n : Nat} (h : n ≤ 255) : FitsN (n : Int) 1 := ⟨by decide, by decide, by omega, by omega⟩
def OutM.parts (o : OutM) : List (List UInt8) := [o.to.l, numL o.amt.toInt 7]
def outsParts (l : List OutM) : List (List UInt8) := numL (l.length : Int) 1 :: l.flatMap OutM.parts
theorem wouts_can (ty : TypeId) (W : WrM) (l : List OutM) (hl : outsOK l = true) (hW : W.b.length ≤ 131072) : Acts Tryz.prog 184 (.abs (wrP ty W)) (.abs (wrP ty (W.puts (outsParts l)))) [.row 9 l.length (outsF l)] [] (.tup []) := by
  rw [outsOK, Bool.and_eq_true, decide_eq_true_eq] at hl
  obtain ⟨ha, hn⟩ := hl
  refine Acts.of Tryz.T_ok Tryz.func184 rfl _ _ _ _ _ rfl rfl rfl (fun C hC => ?_)
  (replace hC : C.n0 = 2 := hC; change Tri _ _ _ ⟨_, _, 2⟩ _)
  (refine Tri.cut 2 Tryz.mixed Tryz.T_ok ?_; refine xZ ?_)
  (apply wP; exact (call_op rfl (entersB_of Tryz.func183 (by kernel_rfl)) rfl ((wnum_can ty W (l.length : Int) 1 (fits_len (by omega)) (by omega)).at [] rfl rfl rfl ⟨lend_plain rfl, lend_plain rfl, trivial⟩ trivial)); refine xZ ?_)
  refine wD <| cutG <| Tri.block ?_
  refine Tri.loop (α := { i : Nat // i ≤ l.length }) (fun i => ⟨[some (XV.sv (.ptr 0 0 0 0)), none, none, none, none, none, none, none, none, none, none, none, some (XV.sv (.slc 1 9 0 l.length)), some (XV.int .i64 l.length), some (XV.int .i64 i.1)] ++ List.replicate 16 none, [(0, .abs (wrP ty (W.puts (numL (l.length : Int) 1 :: (l.take i.1).flatMap OutM.parts)))), (1, .ro 9 l.length (outsF l))], 2⟩) (fun i => l.length - i.1) ⟨0, Nat.zero_le _⟩ ?_ ?_
  · ((try dsimp only); refine Ent.renC [0, 1] hC ?_ ?_ <;> repeat' (first | exact trivial | exact rfl | exact ⟨_, rfl, rfl, rfl, Nat.le_refl _, fun _ _ => rfl⟩ | exact ⟨_, rfl, rfl, rfl, fun _ _ => rfl⟩ | exact ⟨_, rfl, rfl, rfl⟩ | exact ⟨_, rfl, rfl⟩ | refine ⟨_, rfl, rfl, rfl, by omega, fun k hk => ?_⟩ | refine ⟨?_, ?_⟩ | fail))
  rintro ⟨i, hi⟩
  dsimp only
  (refine Tri.cut 2 Tryz.mixed Tryz.T_ok ?_; refine xZ ?_)
  refine wC (fun h1 => ?_) (fun h1 => ?_)
  · (refine xG ?_)
    have h1' : i < l.length := xW
    have hw : IntKind.i64.wrap ((i : Int) + 1) = ((i + 1 : Nat) : Int) := xW
    have ho := all_at ha h1'
    rw [outOK, Bool.and_eq_true] at ho
    have hp := puts_len (cs := numL (l.length : Int) 1 :: (l.take i).flatMap OutM.parts) hW
    have hp2 := put_len (b := (l.getD i default).to.l) hp
    refine wD <| cutG <| Tri.seq <| Tri.block <| Tri.of Tryz.mixed Tryz.T_ok ?_
    (refine xB ?_)
    (repeat (refine wN ?_ ?_; exact xW; refine xG ?_))
    simp only [Nat.zero_add, Int.toNat_natCast]
    (apply wP; exact (call_op rfl (entersB_of Tryz.func213 (by kernel_rfl)) rfl ((whash_can ty (W.puts (numL (l.length : Int) 1 :: (l.take i).flatMap OutM.parts)) (l.getD i default).to (by omega)).at [] rfl rfl rfl ⟨lend_plain rfl, trivial⟩ trivial)); refine xZ ?_)
    (apply wP; exact (call_op rfl (entersB_of Tryz.func183 (by kernel_rfl)) rfl ((wnum_can ty ((W.puts (numL (l.length : Int) 1 :: (l.take i).flatMap OutM.parts)).put (l.getD i default).to.l) (l.getD i default).amt.toInt 7 (fits_money ho.2) (by omega)).at [] rfl rfl rfl ⟨lend_plain rfl, lend_plain rfl, trivial⟩ trivial)); refine xZ ?_)
    refine wD <| blockN <| cutG <| Tri.of Tryz.mixed Tryz.T_ok ?_
    (refine xB ?_)
    refine wD <| loopN ⟨⟨i + 1, h1'⟩, by dsimp only; omega, ?_⟩
    rw [hw]
    dsimp only
    rw [flatMap_take_succ _ h1', ← List.cons_append, puts_append]
    ((try dsimp only); refine Ent.renC [0, 1] hC ?_ ?_ <;> repeat' (first | exact trivial | exact rfl | exact ⟨_, rfl, rfl, rfl, Nat.le_refl _, fun _ _ => rfl⟩ | exact ⟨_, rfl, rfl, rfl, fun _ _ => rfl⟩ | exact ⟨_, rfl, rfl, rfl⟩ | exact ⟨_, rfl, rfl⟩ | refine ⟨_, rfl, rfl, rfl, by omega, fun k hk => ?_⟩ | refine ⟨?_, ?_⟩ | fail))
  · (refine xG ?_)
    have h1' : i = l.length := xW
    subst h1'
    rw [List.take_length]
    exact wD <| cutE <| loopX <| blockX (Ends.shutN (.inl rfl) (Ent.refl _) rfl rfl rfl)
def FwdM.parts (f : FwdM) : List (List UInt8) := [numL f.side.toInt 1, numL f.acct.toInt 2, f.owner.l, numL f.amt.toInt 7]
def InM.parts (x : InM) : List (List UInt8) := x.pt.tx.l :: numL x.pt.no.toInt 1 :: x.key.l :: x.sig.parts
end Go.Proofs.YtnpkdoggfnlapaaGreatDoor

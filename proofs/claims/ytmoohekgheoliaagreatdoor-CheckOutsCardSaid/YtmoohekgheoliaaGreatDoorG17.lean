/- Parts Tb Tc Td. -/
import Derived.Test.YtmoohekgheoliaaGreatDoorG16
set_option linter.unusedSimpArgs false
set_option linter.unusedVariables false
namespace Go.Proofs.YtmoohekgheoliaaGreatDoor
set_option maxRecDepth 100000
open Go.Sx
theorem all_take_succ {E : Type} [Inhabited E] {p : E → Bool} {l : List E} {i : Nat} (hi : i < l.length) : (l.take (i + 1)).all p = ((l.take i).all p && p (l.getD i default)) := by
  rw [List.take_add_one, List.all_append]
  have : l[i]?.toList = [l.getD i default] := by rw [List.getElem?_eq_getElem hi, List.getD_eq_getElem?_getD, List.getElem?_eq_getElem hi]; rfl
  rw [this]; simp
theorem all_false {E : Type} [Inhabited E] {p : E → Bool} {l : List E} {i : Nat} (hi : i < l.length) (h : p (l.getD i default) = false) : l.all p = false := by
  rw [List.all_eq_false]
  refine ⟨l.getD i default, ?_, by rw [h]; simp⟩
  rw [List.getD_eq_getElem?_getD, List.getElem?_eq_getElem hi]
  exact List.getElem_mem hi
def outOK (o : OutM) : Bool := !zeroB o.to && moneyB o.amt.toInt
def outsOK (l : List OutM) : Bool := l.all outOK && decide (l.length ≤ 16)
theorem outsOK_can (l : List OutM) (hl : l.length ≤ 1000000000) : Reads Tryz.prog 66 [.row 9 l.length (outsF l)] [] (XV.bool (outsOK l)) := by
  refine Reads.of Tryz.T_ok Tryz.func66 rfl _ _ _ rfl rfl (fun C hC => ?_)
  (replace hC : C.n0 = 1 := hC; change Tri _ _ _ ⟨_, _, 1⟩ _)
  (refine Tri.cut 1 Tryz.mixed Tryz.T_ok ?_; ((conv => arg 5; whnf); repeat (refine xS ?_; conv => arg 5; whnf)))
  refine wD <| cutG <| Tri.seq ?_
  (refine Tri.cut 1 Tryz.mixed Tryz.T_ok ?_; ((conv => arg 5; whnf); repeat (refine xS ?_; conv => arg 5; whnf)))
  refine wD <| cutG <| Tri.block ?_
  refine Tri.loop (α := { i : Nat // i ≤ l.length ∧ (l.take i).all outOK = true }) (fun i => ⟨[some (XV.sv (.slc 0 9 0 l.length)), none, none, none, none, some (XV.sv (.slc 0 9 0 l.length)), some (XV.int .i64 l.length), some (XV.int .i64 i.1)] ++ List.replicate 16 none, [(0, .ro 9 l.length (outsF l))], 1⟩) (fun i => l.length - i.1) ⟨0, Nat.zero_le _, rfl⟩ ?_ ?_
  · ((try dsimp only); refine Ent.renC [0] hC ?_ ?_ <;> repeat' (first | exact trivial | exact rfl | exact ⟨_, rfl, rfl, rfl, Nat.le_refl _, fun _ _ => rfl⟩ | exact ⟨_, rfl, rfl, rfl, fun _ _ => rfl⟩ | exact ⟨_, rfl, rfl, rfl⟩ | exact ⟨_, rfl, rfl⟩ | refine ⟨_, rfl, rfl, rfl, by omega, fun k hk => ?_⟩ | refine ⟨?_, ?_⟩ | fail))
  rintro ⟨i, hi, ha⟩
  dsimp only
  (refine Tri.cut 2 Tryz.mixed Tryz.T_ok ?_; ((conv => arg 5; whnf); repeat (refine xS ?_; conv => arg 5; whnf)))
  refine wC (fun h1 => ?_) (fun h1 => ?_)
  · (refine wGo ?_; ((conv => arg 5; whnf); repeat (refine xS ?_; conv => arg 5; whnf)))
    have h1' : i < l.length := (by (try simp only [ww] at *); omega)
    have hs := all_take_succ (p := outOK) h1'
    have hw : IntKind.i64.wrap ((i : Int) + 1) = ((i + 1 : Nat) : Int) := (by (try simp only [ww] at *); omega)
    refine wD <| cutG <| Tri.seq <| Tri.block <| Tri.of Tryz.mixed Tryz.T_ok ?_
    (refine wBegin ?_; ((conv => arg 5; whnf); repeat (refine xS ?_; conv => arg 5; whnf)))
    (repeat (refine wN ?_ ?_; exact (by (try simp only [ww] at *); omega); refine wGo ?_; ((conv => arg 5; whnf); repeat (refine xS ?_; conv => arg 5; whnf))))
    simp only [Nat.zero_add, Int.toNat_natCast]
    (apply wP; exact (call_op rfl (entersB_of Tryz.func100 (by kernel_rfl)) rfl ((zero_can (l.getD i default).to).at [] ⟨lend_plain rfl, trivial⟩ trivial)); ((conv => arg 5; whnf); repeat (refine xS ?_; conv => arg 5; whnf)))
    refine wC (fun h2 => ?_) (fun h2 => ?_)
    · (refine wGo ?_; ((conv => arg 5; whnf); repeat (refine xS ?_; conv => arg 5; whnf)))
      refine wD <| blockR <| cutR <| loopR <| blockR <| cutR <| Ends.plain (.inr rfl) rfl ?_
      rw [outsOK, all_false h1' (by rw [outOK, h2]; rfl), Bool.false_and]
    · (refine wGo ?_; ((conv => arg 5; whnf); repeat (refine xS ?_; conv => arg 5; whnf)))
      (apply wP; exact (call_op rfl (entersB_of Tryz.func101 (by kernel_rfl)) rfl ((moneyOK_can (l.getD i default).amt.toInt).at [] ⟨lend_plain rfl, trivial⟩ trivial)); ((conv => arg 5; whnf); repeat (refine xS ?_; conv => arg 5; whnf)))
      refine wC (fun h3 => ?_) (fun h3 => ?_)
      · (refine wGo ?_; ((conv => arg 5; whnf); repeat (refine xS ?_; conv => arg 5; whnf)))
        refine wD <| blockR <| cutR <| loopR <| blockR <| cutR <| Ends.plain (.inr rfl) rfl ?_
        rw [outsOK, all_false h1' (by rw [outOK, h2, show moneyB (l.getD i default).amt.toInt = false by simpa using h3]; rfl), Bool.false_and]
      · (refine wGo ?_; ((conv => arg 5; whnf); repeat (refine xS ?_; conv => arg 5; whnf)))
        refine wD <| blockN <| cutG <| Tri.of Tryz.mixed Tryz.T_ok ?_
        (refine wBegin ?_; ((conv => arg 5; whnf); repeat (refine xS ?_; conv => arg 5; whnf)))
        refine wD <| loopN ⟨⟨i + 1, h1', by rw [hs, ha, outOK, h2, show moneyB (l.getD i default).amt.toInt = true by simpa using h3]; rfl⟩, by dsimp only; omega, ?_⟩
        rw [hw]
        ((try dsimp only); refine Ent.renC [0] hC ?_ ?_ <;> repeat' (first | exact trivial | exact rfl | exact ⟨_, rfl, rfl, rfl, Nat.le_refl _, fun _ _ => rfl⟩ | exact ⟨_, rfl, rfl, rfl, fun _ _ => rfl⟩ | exact ⟨_, rfl, rfl, rfl⟩ | exact ⟨_, rfl, rfl⟩ | refine ⟨_, rfl, rfl, rfl, by omega, fun k hk => ?_⟩ | refine ⟨?_, ?_⟩ | fail))
  · (refine wGo ?_; ((conv => arg 5; whnf); repeat (refine xS ?_; conv => arg 5; whnf)))
    have h1' : i = l.length := (by (try simp only [ww] at *); omega)
    subst h1'
    rw [List.take_length] at ha
    refine wD <| cutE <| loopX <| blockX <| cutG <| Tri.of Tryz.mixed Tryz.T_ok ?_
    (refine wBegin ?_; ((conv => arg 5; whnf); repeat (refine xS ?_; conv => arg 5; whnf)))
    refine wD (Ends.plain (.inr rfl) rfl ?_)
    have e : decide ((l.length : Int) ≤ 16) = decide (l.length ≤ 16) := by rw [Bool.eq_iff_iff]; simp; omega
    rw [outsOK, ha, e, Bool.true_and]
def fwdOK (f : FwdM) : Bool := acctB f.side.toInt f.acct.toInt && !zeroB f.owner && moneyB f.amt.toInt
def fwdsOK (l : List FwdM) : Bool := l.all fwdOK && decide (l.length ≤ 16)
theorem fwdsOK_can (l : List FwdM) (hl : l.length ≤ 1000000000) : Reads Tryz.prog 68 [.row 11 l.length (fwdsF l)] [] (XV.bool (fwdsOK l)) := by
  refine Reads.of Tryz.T_ok Tryz.func68 rfl _ _ _ rfl rfl (fun C hC => ?_)
  (replace hC : C.n0 = 1 := hC; change Tri _ _ _ ⟨_, _, 1⟩ _)
  (refine Tri.cut 1 Tryz.mixed Tryz.T_ok ?_; ((conv => arg 5; whnf); repeat (refine xS ?_; conv => arg 5; whnf)))
  refine wD <| cutG <| Tri.seq ?_
  (refine Tri.cut 1 Tryz.mixed Tryz.T_ok ?_; ((conv => arg 5; whnf); repeat (refine xS ?_; conv => arg 5; whnf)))
  refine wD <| cutG <| Tri.block ?_
  refine Tri.loop (α := { i : Nat // i ≤ l.length ∧ (l.take i).all fwdOK = true }) (fun i => ⟨[some (XV.sv (.slc 0 11 0 l.length)), none, none, none, none, some (XV.sv (.slc 0 11 0 l.length)), some (XV.int .i64 l.length), some (XV.int .i64 i.1)] ++ List.replicate 24 none, [(0, .ro 11 l.length (fwdsF l))], 1⟩) (fun i => l.length - i.1) ⟨0, Nat.zero_le _, rfl⟩ ?_ ?_
  · ((try dsimp only); refine Ent.renC [0] hC ?_ ?_ <;> repeat' (first | exact trivial | exact rfl | exact ⟨_, rfl, rfl, rfl, Nat.le_refl _, fun _ _ => rfl⟩ | exact ⟨_, rfl, rfl, rfl, fun _ _ => rfl⟩ | exact ⟨_, rfl, rfl, rfl⟩ | exact ⟨_, rfl, rfl⟩ | refine ⟨_, rfl, rfl, rfl, by omega, fun k hk => ?_⟩ | refine ⟨?_, ?_⟩ | fail))
  rintro ⟨i, hi, ha⟩
  dsimp only
  (refine Tri.cut 2 Tryz.mixed Tryz.T_ok ?_; ((conv => arg 5; whnf); repeat (refine xS ?_; conv => arg 5; whnf)))
  refine wC (fun h1 => ?_) (fun h1 => ?_)
  · (refine wGo ?_; ((conv => arg 5; whnf); repeat (refine xS ?_; conv => arg 5; whnf)))
    have h1' : i < l.length := (by (try simp only [ww] at *); omega)
    have hs := all_take_succ (p := fwdOK) h1'
    have hw : IntKind.i64.wrap ((i : Int) + 1) = ((i + 1 : Nat) : Int) := (by (try simp only [ww] at *); omega)
    refine wD <| cutG <| Tri.seq <| Tri.block <| Tri.of Tryz.mixed Tryz.T_ok ?_
    (refine wBegin ?_; ((conv => arg 5; whnf); repeat (refine xS ?_; conv => arg 5; whnf)))
    (repeat (refine wN ?_ ?_; exact (by (try simp only [ww] at *); omega); refine wGo ?_; ((conv => arg 5; whnf); repeat (refine xS ?_; conv => arg 5; whnf))))
    simp only [Nat.zero_add, Int.toNat_natCast]
    (apply wP; exact (call_op rfl (entersB_of Tryz.func104 (by kernel_rfl)) rfl ((acctOK_can (l.getD i default).side.toInt (l.getD i default).acct.toInt).at [] ⟨lend_plain rfl, lend_plain rfl, trivial⟩ trivial)); ((conv => arg 5; whnf); repeat (refine xS ?_; conv => arg 5; whnf)))
    refine wC (fun h2 => ?_) (fun h2 => ?_)
    · have h2 : acctB (l.getD i default).side.toInt (l.getD i default).acct.toInt = false := by simpa using h2
      (refine wGo ?_; ((conv => arg 5; whnf); repeat (refine xS ?_; conv => arg 5; whnf)))
      refine wD <| blockR <| cutR <| loopR <| blockR <| cutR <| Ends.plain (.inr rfl) rfl ?_
      rw [fwdsOK, all_false h1' (by rw [fwdOK, h2]; rfl), Bool.false_and]
    · have h2 : acctB (l.getD i default).side.toInt (l.getD i default).acct.toInt = true := by simpa using h2
      (refine wGo ?_; ((conv => arg 5; whnf); repeat (refine xS ?_; conv => arg 5; whnf)))
      (apply wP; exact (call_op rfl (entersB_of Tryz.func100 (by kernel_rfl)) rfl ((zero_can (l.getD i default).owner).at [] ⟨lend_plain rfl, trivial⟩ trivial)); ((conv => arg 5; whnf); repeat (refine xS ?_; conv => arg 5; whnf)))
      refine wC (fun h3 => ?_) (fun h3 => ?_)
      · (refine wGo ?_; ((conv => arg 5; whnf); repeat (refine xS ?_; conv => arg 5; whnf)))
        refine wD <| blockR <| cutR <| loopR <| blockR <| cutR <| Ends.plain (.inr rfl) rfl ?_
        rw [fwdsOK, all_false h1' (by rw [fwdOK, h2, h3]; rfl), Bool.false_and]
      · (refine wGo ?_; ((conv => arg 5; whnf); repeat (refine xS ?_; conv => arg 5; whnf)))
        (apply wP; exact (call_op rfl (entersB_of Tryz.func101 (by kernel_rfl)) rfl ((moneyOK_can (l.getD i default).amt.toInt).at [] ⟨lend_plain rfl, trivial⟩ trivial)); ((conv => arg 5; whnf); repeat (refine xS ?_; conv => arg 5; whnf)))
        refine wC (fun h4 => ?_) (fun h4 => ?_)
        · (refine wGo ?_; ((conv => arg 5; whnf); repeat (refine xS ?_; conv => arg 5; whnf)))
          refine wD <| blockR <| cutR <| loopR <| blockR <| cutR <| Ends.plain (.inr rfl) rfl ?_
          rw [fwdsOK, all_false h1' (by rw [fwdOK, h2, h3, show moneyB (l.getD i default).amt.toInt = false by simpa using h4]; rfl), Bool.false_and]
        · (refine wGo ?_; ((conv => arg 5; whnf); repeat (refine xS ?_; conv => arg 5; whnf)))
          refine wD <| blockN <| cutG <| Tri.of Tryz.mixed Tryz.T_ok ?_
          (refine wBegin ?_; ((conv => arg 5; whnf); repeat (refine xS ?_; conv => arg 5; whnf)))
          refine wD <| loopN ⟨⟨i + 1, h1', by rw [hs, ha, fwdOK, h2, h3, show moneyB (l.getD i default).amt.toInt = true by simpa using h4]; rfl⟩, by dsimp only; omega, ?_⟩
          rw [hw]
          ((try dsimp only); refine Ent.renC [0] hC ?_ ?_ <;> repeat' (first | exact trivial | exact rfl | exact ⟨_, rfl, rfl, rfl, Nat.le_refl _, fun _ _ => rfl⟩ | exact ⟨_, rfl, rfl, rfl, fun _ _ => rfl⟩ | exact ⟨_, rfl, rfl, rfl⟩ | exact ⟨_, rfl, rfl⟩ | refine ⟨_, rfl, rfl, rfl, by omega, fun k hk => ?_⟩ | refine ⟨?_, ?_⟩ | fail))
  · (refine wGo ?_; ((conv => arg 5; whnf); repeat (refine xS ?_; conv => arg 5; whnf)))
    have h1' : i = l.length := (by (try simp only [ww] at *); omega)
    subst h1'
    rw [List.take_length] at ha
    refine wD <| cutE <| loopX <| blockX <| cutG <| Tri.of Tryz.mixed Tryz.T_ok ?_
    (refine wBegin ?_; ((conv => arg 5; whnf); repeat (refine xS ?_; conv => arg 5; whnf)))
    refine wD (Ends.plain (.inr rfl) rfl ?_)
    have e : decide ((l.length : Int) ≤ 16) = decide (l.length ≤ 16) := by rw [Bool.eq_iff_iff]; simp; omega
    rw [fwdsOK, ha, e, Bool.true_and]
def AD.cell (sz : Nat) (cells : List Value) : AD := ⟨1, fun i => .one (.ptr i 0 sz 0), fun i => [(i, .ro sz 1 fun _ => cells)], fun h => one_low rfl h⟩
theorem lend_cell_ro {M : Mem} {rd : List Nat} {c sz k : Nat} {f : Nat → List Value} (hm : M.get c = some (.ro sz 1 f)) (hrd : nmem c rd = true) : Lends M rd (.one (.ptr c 0 k 0)) (AD.cell sz (f 0)) := by
  intro β ow w v hw hv hr
  have hh := hr c ((nmem_iff c rd).1 hrd) _ hm
  refine ⟨[β c], rfl, fun i β0 hβ => ?_⟩
  have hb : β0 i = β c := by simpa using hβ 0 _ rfl
  refine ⟨?_, one_holds hb ?_⟩
  · simp only [AD.cell, CV.rel, SV.rel, Nat.zero_mul] at hv ⊢
    rw [hb]; exact hv
  · simp only [HoldsAt, RoAt]
    simp only [Holds] at hh
    by_cases hn : (β c).nil = true
    · rw [if_pos hn] at hh; omega
    · rw [if_neg hn] at hh ⊢
      refine ⟨⟨hh.2.1, .inl hh.1⟩, fun i hi => ?_⟩
      obtain rfl : i = 0 := by omega
      exact hh.2.2 0 hi
theorem lend_clo_ro {M : Mem} {rd : List Nat} {f : FuncId} {c sz : Nat} {g : Nat → List Value} (hm : M.get c = some (.ro sz 1 g)) (hrd : nmem c rd = true) : Lends M rd (.one (.fn f [c])) (AD.clo f sz (g 0)) := by
  intro β ow w v hw hv hr
  have hh := hr c ((nmem_iff c rd).1 hrd) _ hm
  refine ⟨[β c], rfl, fun i β0 hβ => ?_⟩
  have hb : β0 i = β c := by simpa using hβ 0 _ rfl
  refine ⟨?_, one_holds hb ?_⟩
  · simp only [AD.clo, CV.rel, SV.rel, List.map_cons, List.map_nil] at hv ⊢
    rw [hb]; exact hv
  · simp only [HoldsAt, RoAt]
    simp only [Holds] at hh
    by_cases hn : (β c).nil = true
    · rw [if_pos hn] at hh; omega
    · rw [if_neg hn] at hh ⊢
      refine ⟨⟨hh.2.1, .inl hh.1⟩, fun i hi => ?_⟩
      obtain rfl : i = 0 := by omega
      exact hh.2.2 0 hi
def InM.x (x : InM) : CV := .agg (x.cells.map .raw)
theorem sameFrom_can (x y : InM) : Reads Tryz.prog 103 [.plain y.x, AD.cell 298 x.cells] [] (XV.bool (decide (y.pt = x.pt))) := by
  refine Reads.of Tryz.T_ok Tryz.func103 rfl _ _ _ rfl rfl (fun C hC => ?_)
  (replace hC : C.n0 = 2 := hC; change Tri _ _ _ ⟨_, _, 2⟩ _)
  refine Tri.of Tryz.mixed Tryz.T_ok ?_
  (refine wBegin ?_; ((conv => arg 5; whnf); repeat (refine xS ?_; conv => arg 5; whnf)))
  (repeat (refine wN ?_ ?_; exact (by (try simp only [ww] at *); omega); refine wGo ?_; ((conv => arg 5; whnf); repeat (refine xS ?_; conv => arg 5; whnf))))
  (refine wP _ _ (eq_op ptE rfl y.pt x.pt rfl rfl) ?_; ((conv => arg 5; whnf); repeat (refine xS ?_; conv => arg 5; whnf)))
  exact wD (Ends.plain (.inr rfl) rfl rfl)
theorem sameFrom_in : entersB Tryz.prog 103 = true := entersB_of Tryz.func103 (by kernel_rfl)
def sameAs (x : InM) (y : InM) : Bool := decide (y.pt = x.pt)
def idxF (q : InM → Bool) (l : List InM) : Int := if l.any q = true then ((l.findIdx q : Nat) : Int) else -1
theorem any_take_succ {E : Type} [Inhabited E] {p : E → Bool} {l : List E} {i : Nat} (hi : i < l.length) : (l.take (i + 1)).any p = ((l.take i).any p || p (l.getD i default)) := by
  rw [List.take_add_one, List.any_append]
  have : l[i]?.toList = [l.getD i default] := by rw [List.getElem?_eq_getElem hi, List.getD_eq_getElem?_getD, List.getElem?_eq_getElem hi]; rfl
  rw [this]; simp
theorem idxF_at {q : InM → Bool} {l : List InM} {i : Nat} (hi : i < l.length) (h : q (l.getD i default) = true) (hb : (l.take i).any q = false) : idxF q l = (i : Int) := by
  have hd : l.getD i default = l[i] := by rw [List.getD_eq_getElem?_getD, List.getElem?_eq_getElem hi]; rfl
  rw [hd] at h
  have ha : l.any q = true := List.any_eq_true.2 ⟨l[i], List.getElem_mem hi, h⟩
  rw [idxF, if_pos ha, (List.findIdx_eq hi).2 ⟨h, fun j hj => ?_⟩]
  have := List.any_eq_false.1 hb l[j] (List.mem_take_iff_getElem.2 ⟨j, by omega, rfl⟩)
  simpa using this
theorem indexFunc_can (x : InM) (l : List InM) (hl : l.length ≤ 1000000000) : Reads Tryz.prog 130 [.row 298 l.length (insF l), AD.clo 103 298 x.cells] [] (XV.int .i64 (idxF (sameAs x) l)) := by
  refine Reads.of Tryz.T_ok Tryz.func130 rfl _ _ _ rfl rfl (fun C hC => ?_)
  (replace hC : C.n0 = 2 := hC; change Tri _ _ _ ⟨_, _, 2⟩ _)
  (refine Tri.cut 1 Tryz.mixed Tryz.T_ok ?_; ((conv => arg 5; whnf); repeat (refine xS ?_; conv => arg 5; whnf)))
  refine wD <| cutG <| Tri.seq ?_
  (refine Tri.cut 1 Tryz.mixed Tryz.T_ok ?_; ((conv => arg 5; whnf); repeat (refine xS ?_; conv => arg 5; whnf)))
  refine wD <| cutG <| Tri.block ?_
  refine Tri.loop (α := { i : Nat // i ≤ l.length ∧ (l.take i).any (sameAs x) = false }) (fun i => ⟨[some (XV.sv (.slc 0 298 0 l.length)), some (XV.sv (.fn 103 [1])), none, none, none, none, none, some (XV.int .i64 l.length), some (XV.int .i64 i.1)] ++ List.replicate 10 none, [(0, .ro 298 l.length (insF l)), (1, .ro 298 1 fun _ => x.cells)], 2⟩) (fun i => l.length - i.1) ⟨0, Nat.zero_le _, rfl⟩ ?_ ?_
  · ((try dsimp only); refine Ent.renC [0, 1] hC ?_ ?_ <;> repeat' (first | exact trivial | exact rfl | exact ⟨_, rfl, rfl, rfl, Nat.le_refl _, fun _ _ => rfl⟩ | exact ⟨_, rfl, rfl, rfl, fun _ _ => rfl⟩ | exact ⟨_, rfl, rfl, rfl⟩ | exact ⟨_, rfl, rfl⟩ | refine ⟨_, rfl, rfl, rfl, by omega, fun k hk => ?_⟩ | refine ⟨?_, ?_⟩ | fail))
  rintro ⟨i, hi, ha⟩
  dsimp only
  (refine Tri.cut 2 Tryz.mixed Tryz.T_ok ?_; ((conv => arg 5; whnf); repeat (refine xS ?_; conv => arg 5; whnf)))
  refine wC (fun h1 => ?_) (fun h1 => ?_)
  · (refine wGo ?_; ((conv => arg 5; whnf); repeat (refine xS ?_; conv => arg 5; whnf)))
    have h1' : i < l.length := (by (try simp only [ww] at *); omega)
    have hs := any_take_succ (p := sameAs x) h1'
    have hw : IntKind.i64.wrap ((i : Int) + 1) = ((i + 1 : Nat) : Int) := (by (try simp only [ww] at *); omega)
    refine wD <| cutG <| Tri.seq <| Tri.block <| Tri.of Tryz.mixed Tryz.T_ok ?_
    (refine wBegin ?_; ((conv => arg 5; whnf); repeat (refine xS ?_; conv => arg 5; whnf)))
    (repeat (refine wN ?_ ?_; exact (by (try simp only [ww] at *); omega); refine wGo ?_; ((conv => arg 5; whnf); repeat (refine xS ?_; conv => arg 5; whnf))))
    simp only [Nat.zero_add, Int.toNat_natCast]
    (refine wP _ _ (callFn_op rfl rfl sameFrom_in rfl ((sameFrom_can x (l.getD i default)).at [1] ⟨lend_plain rfl, lend_cell_ro (f := fun _ => x.cells) rfl rfl, trivial⟩ trivial)) ?_; ((conv => arg 5; whnf); repeat (refine xS ?_; conv => arg 5; whnf)))
    refine wC (fun h2 => ?_) (fun h2 => ?_)
    · (refine wGo ?_; ((conv => arg 5; whnf); repeat (refine xS ?_; conv => arg 5; whnf)))
      refine wD <| blockR <| cutR <| loopR <| blockR <| cutR <| Ends.plain (.inr rfl) rfl ?_
      rw [idxF_at h1' h2 ha]
    · (refine wGo ?_; ((conv => arg 5; whnf); repeat (refine xS ?_; conv => arg 5; whnf)))
      refine wD <| blockN <| cutG <| Tri.of Tryz.mixed Tryz.T_ok ?_
      (refine wBegin ?_; ((conv => arg 5; whnf); repeat (refine xS ?_; conv => arg 5; whnf)))
      refine wD <| loopN ⟨⟨i + 1, h1', by rw [hs, ha]; exact h2⟩, by dsimp only; omega, ?_⟩
      rw [hw]
      ((try dsimp only); refine Ent.renC [0, 1] hC ?_ ?_ <;> repeat' (first | exact trivial | exact rfl | exact ⟨_, rfl, rfl, rfl, Nat.le_refl _, fun _ _ => rfl⟩ | exact ⟨_, rfl, rfl, rfl, fun _ _ => rfl⟩ | exact ⟨_, rfl, rfl, rfl⟩ | exact ⟨_, rfl, rfl⟩ | refine ⟨_, rfl, rfl, rfl, by omega, fun k hk => ?_⟩ | refine ⟨?_, ?_⟩ | fail))
  · (refine wGo ?_; ((conv => arg 5; whnf); repeat (refine xS ?_; conv => arg 5; whnf)))
    have h1' : i = l.length := (by (try simp only [ww] at *); omega)
    subst h1'
    rw [List.take_length] at ha
    refine wD <| cutE <| loopX <| blockX <| cutG <| Tri.of Tryz.mixed Tryz.T_ok ?_
    (refine wBegin ?_; ((conv => arg 5; whnf); repeat (refine xS ?_; conv => arg 5; whnf)))
    refine wD (Ends.plain (.inr rfl) rfl ?_)
    rw [idxF, ha]; rfl
theorem containsFunc_can (x : InM) (l : List InM) (hl : l.length ≤ 1000000000) : Reads Tryz.prog 102 [.row 298 l.length (insF l), AD.clo 103 298 x.cells] [] (XV.bool (l.any (sameAs x))) := by
  refine Reads.of Tryz.T_ok Tryz.func102 rfl _ _ _ rfl rfl (fun C hC => ?_)
  (replace hC : C.n0 = 2 := hC; change Tri _ _ _ ⟨_, _, 2⟩ _)
  refine Tri.of Tryz.mixed Tryz.T_ok ?_
  (refine wBegin ?_; ((conv => arg 5; whnf); repeat (refine xS ?_; conv => arg 5; whnf)))
  (apply wP; exact (call_op rfl (entersB_of Tryz.func130 (by kernel_rfl)) rfl ((indexFunc_can x l hl).at [0, 1] ⟨lend_ro rfl rfl (by omega) (fun i _ => by rw [Nat.zero_add]), lend_clo_ro (g := fun _ => x.cells) rfl rfl, trivial⟩ trivial)); ((conv => arg 5; whnf); repeat (refine xS ?_; conv => arg 5; whnf)))
  refine wD (Ends.plain (.inr rfl) rfl ?_)
  have e : decide (0 ≤ idxF (sameAs x) l) = l.any (sameAs x) := by
    unfold idxF
    cases h : l.any (sameAs x)
    · rfl
    · rw [if_pos rfl]; exact decide_eq_true (Int.natCast_nonneg _)
  exact congrArg (fun b : Bool => XV.bool b) e
end Go.Proofs.YtmoohekgheoliaaGreatDoor
namespace Go.Proofs.YtmoohekgheoliaaGreatDoor
set_option maxRecDepth 100000
open Go.Sx
def insAt (l : List InM) (i : Nat) : Bool := !(l.take i).any (sameAs (l.getD i default)) && (withinB (l.getD i default).pt.no.toInt 0 255 && withinB (l.getD i default).sig.idx 0 255)
def insOK (l : List InM) : Bool := (List.range l.length).all (insAt l) && withinB (l.length : Int) 1 8
theorem range_all_succ (p : Nat → Bool) (i : Nat) : (List.range (i + 1)).all p = ((List.range i).all p && p i) := by rw [List.range_succ, List.all_append]; simp
theorem range_all_false {p : Nat → Bool} {n i : Nat} (hi : i < n) (h : p i = false) : (List.range n).all p = false := by
  rw [List.all_eq_false]
  exact ⟨i, List.mem_range.2 hi, by rw [h]; simp⟩
theorem getD_take {E : Type} [Inhabited E] {l : List E} {i j : Nat} (h : j < i) : (l.take i).getD j default = l.getD j default := by
  rw [List.getD_eq_getElem?_getD, List.getD_eq_getElem?_getD, List.getElem?_take_of_lt h]
set_option maxHeartbeats 1000000 in
theorem insOK_can (l : List InM) (hl : l.length ≤ 1000000000) : Reads Tryz.prog 67 [.row 298 l.length (insF l)] [] (XV.bool (insOK l)) := by
  refine Reads.of Tryz.T_ok Tryz.func67 rfl _ _ _ rfl rfl (fun C hC => ?_)
  (replace hC : C.n0 = 1 := hC; change Tri _ _ _ ⟨_, _, 1⟩ _)
  (refine Tri.cut 1 Tryz.mixed Tryz.T_ok ?_; ((conv => arg 5; whnf); repeat (refine xS ?_; conv => arg 5; whnf)))
  refine wD <| cutG <| Tri.seq ?_
  (refine Tri.cut 1 Tryz.mixed Tryz.T_ok ?_; ((conv => arg 5; whnf); repeat (refine xS ?_; conv => arg 5; whnf)))
  refine wD <| cutG <| Tri.block ?_
  refine Tri.loop (α := { i : Nat // i ≤ l.length ∧ (List.range i).all (insAt l) = true }) (fun i => ⟨[some (XV.sv (.slc 0 298 0 l.length)), none, none, none, none, none, some (XV.sv (.slc 0 298 0 l.length)), some (XV.int .i64 l.length), some (XV.int .i64 i.1)] ++ List.replicate 28 none, [(0, .ro 298 l.length (insF l))], 1⟩) (fun i => l.length - i.1) ⟨0, Nat.zero_le _, rfl⟩ ?_ ?_
  · ((try dsimp only); refine Ent.renC [0] hC ?_ ?_ <;> repeat' (first | exact trivial | exact rfl | exact ⟨_, rfl, rfl, rfl, Nat.le_refl _, fun _ _ => rfl⟩ | exact ⟨_, rfl, rfl, rfl, fun _ _ => rfl⟩ | exact ⟨_, rfl, rfl, rfl⟩ | exact ⟨_, rfl, rfl⟩ | refine ⟨_, rfl, rfl, rfl, by omega, fun k hk => ?_⟩ | refine ⟨?_, ?_⟩ | fail))
  rintro ⟨i, hi, ha⟩
  dsimp only
  (refine Tri.cut 2 Tryz.mixed Tryz.T_ok ?_; ((conv => arg 5; whnf); repeat (refine xS ?_; conv => arg 5; whnf)))
  refine wC (fun h1 => ?_) (fun h1 => ?_)
  · (refine wGo ?_; ((conv => arg 5; whnf); repeat (refine xS ?_; conv => arg 5; whnf)))
    have h1' : i < l.length := (by (try simp only [ww] at *); omega)
    have hs := range_all_succ (insAt l) i
    have hw : IntKind.i64.wrap ((i : Int) + 1) = ((i + 1 : Nat) : Int) := (by (try simp only [ww] at *); omega)
    have hlen : (l.take i).length = i := by rw [List.length_take]; omega
    refine wD <| cutG <| Tri.seq <| Tri.block <| Tri.of Tryz.mixed Tryz.T_ok ?_
    (refine wBegin ?_; ((conv => arg 5; whnf); repeat (refine xS ?_; conv => arg 5; whnf)))
    (repeat (refine wN ?_ ?_; exact (by (try simp only [ww] at *); omega); refine wGo ?_; ((conv => arg 5; whnf); repeat (refine xS ?_; conv => arg 5; whnf))))
    simp only [Nat.zero_add, Int.toNat_natCast]
    (refine wP _ _ (makeFunc_op rfl rfl) ?_; ((conv => arg 5; whnf); repeat (refine xS ?_; conv => arg 5; whnf)))
    (apply wP; exact (call_op rfl (entersB_of Tryz.func102 (by kernel_rfl)) rfl ((containsFunc_can (l.getD i default) (l.take i) (by rw [hlen]; omega)).at [0, 5] ⟨by rw [hlen]; exact lend_ro rfl rfl (by omega) (fun j hj => by rw [Nat.zero_add]; exact congrArg InM.cells (getD_take hj)), lend_clo rfl rfl rfl rfl, trivial⟩ trivial)); ((conv => arg 5; whnf); repeat (refine xS ?_; conv => arg 5; whnf)))
    refine wC (fun h2 => ?_) (fun h2 => ?_)
    · (refine wGo ?_; ((conv => arg 5; whnf); repeat (refine xS ?_; conv => arg 5; whnf)))
      refine wD <| blockR <| cutR <| loopR <| blockR <| cutR <| Ends.plain (.inr rfl) rfl ?_
      rw [insOK, range_all_false h1' (by rw [insAt, h2]; rfl), Bool.false_and]
    · (refine wGo ?_; ((conv => arg 5; whnf); repeat (refine xS ?_; conv => arg 5; whnf)))
      (apply wP; exact (call_op rfl (entersB_of Tryz.func65 (by kernel_rfl)) rfl ((within_can (l.getD i default).pt.no.toInt 0 255).at [] ⟨lend_plain rfl, lend_plain rfl, lend_plain rfl, trivial⟩ trivial)); ((conv => arg 5; whnf); repeat (refine xS ?_; conv => arg 5; whnf)))
      refine wC (fun h3 => ?_) (fun h3 => ?_)
      · have h3 : withinB (l.getD i default).pt.no.toInt 0 255 = false := by simpa using h3
        (refine wGo ?_; ((conv => arg 5; whnf); repeat (refine xS ?_; conv => arg 5; whnf)))
        refine wD <| blockR <| cutR <| loopR <| blockR <| cutR <| Ends.plain (.inr rfl) rfl ?_
        rw [insOK, range_all_false h1' (by rw [insAt, h2, h3]; rfl), Bool.false_and]
      · have h3 : withinB (l.getD i default).pt.no.toInt 0 255 = true := by simpa using h3
        (refine wGo ?_; ((conv => arg 5; whnf); repeat (refine xS ?_; conv => arg 5; whnf)))
        (apply wP; exact (call_op rfl (entersB_of Tryz.func65 (by kernel_rfl)) rfl ((within_can (l.getD i default).sig.idx 0 255).at [] ⟨lend_plain rfl, lend_plain rfl, lend_plain rfl, trivial⟩ trivial)); ((conv => arg 5; whnf); repeat (refine xS ?_; conv => arg 5; whnf)))
        refine wC (fun h4 => ?_) (fun h4 => ?_)
        · have h4 : withinB (l.getD i default).sig.idx 0 255 = false := by simpa using h4
          (refine wGo ?_; ((conv => arg 5; whnf); repeat (refine xS ?_; conv => arg 5; whnf)))
          refine wD <| blockR <| cutR <| loopR <| blockR <| cutR <| Ends.plain (.inr rfl) rfl ?_
          rw [insOK, range_all_false h1' (by rw [insAt, h2, h3, h4]; rfl), Bool.false_and]
        · have h4 : withinB (l.getD i default).sig.idx 0 255 = true := by simpa using h4
          (refine wGo ?_; ((conv => arg 5; whnf); repeat (refine xS ?_; conv => arg 5; whnf)))
          refine wD <| blockN <| cutG <| Tri.of Tryz.mixed Tryz.T_ok ?_
          (refine wBegin ?_; ((conv => arg 5; whnf); repeat (refine xS ?_; conv => arg 5; whnf)))
          refine wD <| loopN ⟨⟨i + 1, h1', by rw [hs, ha, insAt, h2, h3, h4]; rfl⟩, by dsimp only; omega, ?_⟩
          rw [hw]
          ((try dsimp only); refine Ent.renC [0] hC ?_ ?_ <;> repeat' (first | exact trivial | exact rfl | exact ⟨_, rfl, rfl, rfl, Nat.le_refl _, fun _ _ => rfl⟩ | exact ⟨_, rfl, rfl, rfl, fun _ _ => rfl⟩ | exact ⟨_, rfl, rfl, rfl⟩ | exact ⟨_, rfl, rfl⟩ | refine ⟨_, rfl, rfl, rfl, by omega, fun k hk => ?_⟩ | refine ⟨?_, ?_⟩ | fail))
  · (refine wGo ?_; ((conv => arg 5; whnf); repeat (refine xS ?_; conv => arg 5; whnf)))
    have h1' : i = l.length := (by (try simp only [ww] at *); omega)
    subst h1'
    refine wD <| cutE <| loopX <| blockX <| cutG <| Tri.of Tryz.mixed Tryz.T_ok ?_
    (refine wBegin ?_; ((conv => arg 5; whnf); repeat (refine xS ?_; conv => arg 5; whnf)))
    (apply wP; exact (call_op rfl (entersB_of Tryz.func65 (by kernel_rfl)) rfl ((within_can (l.length : Int) 1 8).at [] ⟨lend_plain rfl, lend_plain rfl, lend_plain rfl, trivial⟩ trivial)); ((conv => arg 5; whnf); repeat (refine xS ?_; conv => arg 5; whnf)))
    refine wD (Ends.plain (.inr rfl) rfl ?_)
    rw [insOK, ha, Bool.true_and]
theorem LendsC.all_raw {M : Mem} {rd : List Nat} : ∀ vs : List Value, LendsC M rd (vs.map .raw) (vs.map .raw)
  | [] => trivial
  | _ :: vs => ⟨rfl, LendsC.all_raw vs⟩
def parCells (p : ParM) (s : SV) : List SV := .raw (.int .i64 p.len) :: .raw (.int .i64 p.win) :: .raw (.int .i64 p.need) :: [s]
def certCells (c : CertM) (s1 s2 : SV) : List SV := .raw (.int .i64 c.side) :: .raw (.int .i64 c.ep) :: .raw (.int .i64 c.qual) :: (c.fin.cells.map .raw ++ (c.root.cells.map .raw ++ [s1, s2]))
def txCells (t : TxM) (s1 s2 s3 s4 s5 s6 : SV) : List SV := .raw (.int .i64 t.kind) :: .raw (.int .i64 t.height) :: s1 :: s2 :: s3 :: (parCells t.par s4 ++ (certCells t.cert s5 s6 ++ t.claim.cells.map .raw))
theorem lend_cert_cells {M : Mem} {rd : List Nat} {c : CertM} {s1 s2 : SV} {r : List SV} {l : List AC} (h1 : Lends M rd (.one s1) (.row 9 c.outs.length (outsF c.outs))) (h2 : Lends M rd (.one s2) (.row 282 c.sigs.length (sgdsF c.sigs))) (h : LendsC M rd r l) : LendsC M rd (certCells c s1 s2 ++ r) (c.ac ++ l) := by
  refine ⟨rfl, rfl, rfl, ?_⟩
  show LendsC M rd ((c.fin.cells.map .raw ++ (c.root.cells.map .raw ++ [s1, s2])) ++ r) ((rC c.fin.cells ++ (rC c.root.cells ++ [AC.row 9 c.outs.length (outsF c.outs), .row 282 c.sigs.length (sgdsF c.sigs)])) ++ l)
  rw [List.append_assoc, List.append_assoc, List.append_assoc, List.append_assoc]
  refine LendsC.raws ?_ _
  refine LendsC.raws ?_ _
  exact ⟨h1, h2, h⟩
theorem lend_tx {M : Mem} {rd : List Nat} {t : TxM} {s1 s2 s3 s4 s5 s6 : SV} (h1 : Lends M rd (.one s1) (.row 298 t.ins.length (insF t.ins))) (h2 : Lends M rd (.one s2) (.row 9 t.outs.length (outsF t.outs))) (h3 : Lends M rd (.one s3) (.row 11 t.fwds.length (fwdsF t.fwds)))
    (h4 : Lends M rd (.one s4) (.row 8 t.par.keys.length (keysF t.par.keys))) (h5 : Lends M rd (.one s5) (.row 9 t.cert.outs.length (outsF t.cert.outs))) (h6 : Lends M rd (.one s6) (.row 282 t.cert.sigs.length (sgdsF t.cert.sigs))) : Lends M rd (.agg (txCells t s1 s2 s3 s4 s5 s6)) (.box t.ac) :=
  lend_box ⟨rfl, rfl, h1, h2, h3, rfl, rfl, rfl, h4, lend_cert_cells h5 h6 (LendsC.all_raw _)⟩
def parZ (p : ParM) : Bool := p.len == 0 && (p.win == 0 && (p.need == 0 && (p.keys.length : Int) == 0))
def certZ (c : CertM) : Bool := c.side == 0 && (c.ep == 0 && (c.qual == 0 && (zeroB c.fin && (zeroB c.root && ((c.outs.length + c.sigs.length : Nat) : Int) == 0))))
def emptyB (t : TxM) : Bool := t.height == 0 && (((t.ins.length + t.outs.length + t.fwds.length : Nat) : Int) == 0 && (parZ t.par && certZ t.cert))
structure Sized (t : TxM) : Prop where
  ins : t.ins.length ≤ 1000000000
  outs : t.outs.length ≤ 1000000000
  fwds : t.fwds.length ≤ 1000000000
  keys : t.par.keys.length ≤ 1000000000
  couts : t.cert.outs.length ≤ 1000000000
  sigs : t.cert.sigs.length ≤ 1000000000
def TxM.cs (t : TxM) : List SV := boxC 0 t.ac
def emptyM (t : TxM) : Mem := [(6, .cells 49 t.cs)]
def certCs (t : TxM) : List SV := boxC 4 t.cert.ac
def emptySt2 (t : TxM) : St := ⟨[none, some (XV.sv (.ptr 6 0 0 0)), none, none, some (XV.sv (.ptr 7 0 0 0)), some (XV.bool (parZ t.par))] ++ List.replicate 86 none, emptyM t ++ [(7, .cells 42 (certCs t))], 8⟩
def emptySt3 (t : TxM) : St := ⟨[none, some (XV.sv (.ptr 6 0 0 0)), none, none, none, some (XV.bool (parZ t.par)), some (XV.bool (certZ t.cert))] ++ List.replicate 85 none, emptyM t, 7⟩
def claimK : List Kd := [.int .i64, .int .i64] ++ (hashKinds ++ ([.int .i64, .int .i64] ++ (List.replicate 16 hashKinds).flatten))
theorem claim_deep : Tryz.prog.keyTypeAt 8 47 = true := by kernel_rfl
theorem claim_keyT : Tryz.prog.keyType 47 = true := by kernel_rfl
theorem claim_row : (47 : TypeId) < Tryz.prog.types.size := of_decide_eq_true (by kernel_rfl)
theorem claim_law : WideMaps.KeyLaw Tryz.prog 47 := deep_law_laid laid (m := 8) (by omega) claim_row claim_deep (by rw [Tryz.underlying47])
theorem claim_cells : claimK.length = Tryz.prog.cellsOf 47 := by kernel_rfl
theorem claim_noguard : Tryz.prog.eqGuardType Tryz.prog.depth 47 = false := by kernel_rfl
def ClaimV := { cs : List Value // Fits claimK cs }
noncomputable instance : DecidableEq ClaimV := fun _ _ => Classical.propDecidable _
def ClaimV.v (c : ClaimV) : Value := .agg c.1.toArray
theorem ClaimV.inj (a b : ClaimV) (h : a.v = b.v) : a = b := by
  apply Subtype.ext
  have := congrArg (fun v => v.cells.toList) h
  simpa [ClaimV.v, Value.cells] using this
theorem claim_key (h : ClaimV) : ∃ l, keyOf Tryz.prog 47 h.v = some l := keyOf_fits Tryz.T_ok (f := 8) (ks := claimK) rfl claim_deep claim_keyT types_many (by rw [Tryz.underlying47]) h.2 claim_cells
theorem claimE : EqK Tryz.prog 47 ClaimV.v := EqK.of (m := 8) claim_law (by omega) claim_deep (by rw [Tryz.underlying47]) claim_key ClaimV.inj claim_noguard (fun a => ⟨_, rfl⟩)
theorem hashes_fits : ∀ (n : Nat) (f : Nat → H8) (i : Nat), Fits ((List.replicate n hashKinds).flatten) (tabF (hashF f) i n)
  | 0, _, _ => rfl
  | n + 1, f, i => by rw [List.replicate_succ, List.flatten_cons]; exact Fits.append (hash_fits (f i)) (hashes_fits n f (i + 1))
def inI64 (n : Int) : Prop := (Lit.int .i64 n).wf = true
structure ClaimM.Wf (c : ClaimM) : Prop where
  side : inI64 c.side
  acct : inI64 c.acct
  amt : inI64 c.st.amt
  nonce : inI64 c.st.nonce
theorem ClaimM.fits {c : ClaimM} (h : c.Wf) : Fits claimK c.cells := by
  refine ⟨_, _, rfl, ⟨_, rfl, h.side⟩, _, _, rfl, ⟨_, rfl, h.acct⟩, ?_⟩
  have e : c.st.cells ++ tabF (hashF c.proof) 0 16 = c.st.owner.cells ++ ([.int .i64 c.st.amt, .int .i64 c.st.nonce] ++ tabF (hashF c.proof) 0 16) := by simp [AccM.cells]
  rw [e]
  show Fits (hashKinds ++ ([.int .i64, .int .i64] ++ (List.replicate 16 hashKinds).flatten)) _
  exact Fits.append (hash_fits _) (Fits.append ⟨_, _, rfl, ⟨_, rfl, h.amt⟩, _, _, rfl, ⟨_, rfl, h.nonce⟩, rfl⟩ (hashes_fits 16 _ 0))
theorem claim0_wf : claim0.Wf := ⟨rfl, rfl, rfl, rfl⟩
def ClaimM.cv (c : ClaimM) (h : c.Wf) : ClaimV := ⟨c.cells, c.fits h⟩
noncomputable def claimZ (c : ClaimM) (h : c.Wf) : Bool := decide (c.cv h = claim0.cv claim0_wf)
theorem claimZ_zero (h : claim0.Wf) : claimZ claim0 h = true := decide_eq_true rfl
set_option maxHeartbeats 4000000 in
theorem empty_can (t : TxM) (hs : Sized t) (hc : t.claim.Wf) : Reads Tryz.prog 72 [.box t.ac] [] (XV.bool (emptyB t && claimZ t.claim hc)) := by
  have hi := hs.ins
  have ho := hs.outs
  have hf := hs.fwds
  have hco := hs.couts
  have hcs := hs.sigs
  refine Reads.of Tryz.T_ok Tryz.func72 rfl _ _ _ rfl rfl (fun C hC => ?_)
  (replace hC : C.n0 = 6 := hC; change Tri _ _ _ ⟨_, _, 6⟩ _)
  (refine Tri.cut 2 Tryz.mixed Tryz.T_ok ?_; ((conv => arg 5; whnf); repeat (refine xS ?_; conv => arg 5; whnf)))
  refine wD <| cutG <| Tri.merge (emptySt2 t) (Tri.of Tryz.mixed Tryz.T_ok ?_) ?_
  · (refine wBegin ?_; ((conv => arg 5; whnf); repeat (refine xS ?_; conv => arg 5; whnf)))
    refine wC (fun h1 => ?_) (fun h1 => ?_)
    · (refine wGo ?_; ((conv => arg 5; whnf); repeat (refine xS ?_; conv => arg 5; whnf)))
      refine wC (fun h2 => ?_) (fun h2 => ?_)
      · (refine wGo ?_; ((conv => arg 5; whnf); repeat (refine xS ?_; conv => arg 5; whnf)))
        refine wC (fun h3 => ?_) (fun h3 => ?_)
        · (refine wGo ?_; ((conv => arg 5; whnf); repeat (refine xS ?_; conv => arg 5; whnf)))
          refine wD ⟨rfl, ?_⟩
          unfold emptySt2
          rw [show parZ t.par = ((t.par.keys.length : Int) == 0) by rw [parZ, h1, h2, h3]; rfl]
          ((try dsimp only); refine Ent.renC [0, 1, 2, 3, 4, 5, 6, 13] hC ?_ ?_ <;> repeat' (first | exact trivial | exact rfl | exact ⟨_, rfl, rfl, rfl, Nat.le_refl _, fun _ _ => rfl⟩ | exact ⟨_, rfl, rfl, rfl, fun _ _ => rfl⟩ | exact ⟨_, rfl, rfl, rfl⟩ | exact ⟨_, rfl, rfl⟩ | refine ⟨_, rfl, rfl, rfl, by omega, fun k hk => ?_⟩ | refine ⟨?_, ?_⟩ | fail))
        · (refine wGo ?_; ((conv => arg 5; whnf); repeat (refine xS ?_; conv => arg 5; whnf)))
          refine wD ⟨rfl, ?_⟩
          unfold emptySt2
          rw [show parZ t.par = false by rw [parZ, h1, h2, h3]; rfl]
          ((try dsimp only); refine Ent.renC [0, 1, 2, 3, 4, 5, 6, 13] hC ?_ ?_ <;> repeat' (first | exact trivial | exact rfl | exact ⟨_, rfl, rfl, rfl, Nat.le_refl _, fun _ _ => rfl⟩ | exact ⟨_, rfl, rfl, rfl, fun _ _ => rfl⟩ | exact ⟨_, rfl, rfl, rfl⟩ | exact ⟨_, rfl, rfl⟩ | refine ⟨_, rfl, rfl, rfl, by omega, fun k hk => ?_⟩ | refine ⟨?_, ?_⟩ | fail))
      · (refine wGo ?_; ((conv => arg 5; whnf); repeat (refine xS ?_; conv => arg 5; whnf)))
        refine wD ⟨rfl, ?_⟩
        unfold emptySt2
        rw [show parZ t.par = false by rw [parZ, h1, h2]; rfl]
        ((try dsimp only); refine Ent.renC [0, 1, 2, 3, 4, 5, 6, 13] hC ?_ ?_ <;> repeat' (first | exact trivial | exact rfl | exact ⟨_, rfl, rfl, rfl, Nat.le_refl _, fun _ _ => rfl⟩ | exact ⟨_, rfl, rfl, rfl, fun _ _ => rfl⟩ | exact ⟨_, rfl, rfl, rfl⟩ | exact ⟨_, rfl, rfl⟩ | refine ⟨_, rfl, rfl, rfl, by omega, fun k hk => ?_⟩ | refine ⟨?_, ?_⟩ | fail))
    · (refine wGo ?_; ((conv => arg 5; whnf); repeat (refine xS ?_; conv => arg 5; whnf)))
      refine wD ⟨rfl, ?_⟩
      unfold emptySt2
      rw [show parZ t.par = false by rw [parZ, h1]; rfl]
      ((try dsimp only); refine Ent.renC [0, 1, 2, 3, 4, 5, 6, 13] hC ?_ ?_ <;> repeat' (first | exact trivial | exact rfl | exact ⟨_, rfl, rfl, rfl, Nat.le_refl _, fun _ _ => rfl⟩ | exact ⟨_, rfl, rfl, rfl, fun _ _ => rfl⟩ | exact ⟨_, rfl, rfl, rfl⟩ | exact ⟨_, rfl, rfl⟩ | refine ⟨_, rfl, rfl, rfl, by omega, fun k hk => ?_⟩ | refine ⟨?_, ?_⟩ | fail))
  refine Tri.merge (emptySt3 t) (Tri.of Tryz.mixed Tryz.T_ok ?_) (Tri.of Tryz.mixed Tryz.T_ok ?_)
  · (refine wBegin ?_; ((conv => arg 5; whnf); repeat (refine xS ?_; conv => arg 5; whnf)))
    have fin : ∀ {S : St} {b : Bool}, b = certZ t.cert → Ent C S ⟨(emptySt3 t).slots.set 6 (some (XV.bool b)), (emptySt3 t).mem, 7⟩ → Ent C S (emptySt3 t) := by
      intro S b hb h; subst hb; exact h
    refine wC (fun h1 => ?_) (fun h1 => ?_)
    · (refine wGo ?_; ((conv => arg 5; whnf); repeat (refine xS ?_; conv => arg 5; whnf)))
      refine wC (fun h2 => ?_) (fun h2 => ?_)
      · (refine wGo ?_; ((conv => arg 5; whnf); repeat (refine xS ?_; conv => arg 5; whnf)))
        refine wC (fun h3 => ?_) (fun h3 => ?_)
        · (refine wGo ?_; ((conv => arg 5; whnf); repeat (refine xS ?_; conv => arg 5; whnf)))
          (apply wP; exact (call_op rfl (entersB_of Tryz.func100 (by kernel_rfl)) rfl ((zero_can t.cert.fin).at [] ⟨lend_plain rfl, trivial⟩ trivial)); ((conv => arg 5; whnf); repeat (refine xS ?_; conv => arg 5; whnf)))
          refine wC (fun h4 => ?_) (fun h4 => ?_)
          · (refine wGo ?_; ((conv => arg 5; whnf); repeat (refine xS ?_; conv => arg 5; whnf)))
            (apply wP; exact (call_op rfl (entersB_of Tryz.func100 (by kernel_rfl)) rfl ((zero_can t.cert.root).at [] ⟨lend_plain rfl, trivial⟩ trivial)); ((conv => arg 5; whnf); repeat (refine xS ?_; conv => arg 5; whnf)))
            refine wC (fun h5 => ?_) (fun h5 => ?_)
            · (refine wGo ?_; ((conv => arg 5; whnf); repeat (refine xS ?_; conv => arg 5; whnf)))
              have e : IntKind.i64.wrap ((t.cert.outs.length : Int) + (t.cert.sigs.length : Int)) = ((t.cert.outs.length + t.cert.sigs.length : Nat) : Int) := (by (try simp only [ww] at *); omega)
              rw [e]
              refine wD ⟨rfl, fin (b := (((t.cert.outs.length + t.cert.sigs.length : Nat) : Int) == 0)) (by rw [certZ, h1, h2, h3, h4, h5]; rfl) ?_⟩
              ((try dsimp only); refine Ent.renC [0, 1, 2, 3, 4, 5, 6] hC ?_ ?_ <;> repeat' (first | exact trivial | exact rfl | exact ⟨_, rfl, rfl, rfl, Nat.le_refl _, fun _ _ => rfl⟩ | exact ⟨_, rfl, rfl, rfl, fun _ _ => rfl⟩ | exact ⟨_, rfl, rfl, rfl⟩ | exact ⟨_, rfl, rfl⟩ | refine ⟨_, rfl, rfl, rfl, by omega, fun k hk => ?_⟩ | refine ⟨?_, ?_⟩ | fail))
            · (refine wGo ?_; ((conv => arg 5; whnf); repeat (refine xS ?_; conv => arg 5; whnf)))
              refine wD ⟨rfl, fin (b := false) (by rw [certZ, h1, h2, h3, h4, h5]; rfl) ?_⟩
              ((try dsimp only); refine Ent.renC [0, 1, 2, 3, 4, 5, 6] hC ?_ ?_ <;> repeat' (first | exact trivial | exact rfl | exact ⟨_, rfl, rfl, rfl, Nat.le_refl _, fun _ _ => rfl⟩ | exact ⟨_, rfl, rfl, rfl, fun _ _ => rfl⟩ | exact ⟨_, rfl, rfl, rfl⟩ | exact ⟨_, rfl, rfl⟩ | refine ⟨_, rfl, rfl, rfl, by omega, fun k hk => ?_⟩ | refine ⟨?_, ?_⟩ | fail))
          · (refine wGo ?_; ((conv => arg 5; whnf); repeat (refine xS ?_; conv => arg 5; whnf)))
            refine wD ⟨rfl, fin (b := false) (by rw [certZ, h1, h2, h3, h4]; rfl) ?_⟩
            ((try dsimp only); refine Ent.renC [0, 1, 2, 3, 4, 5, 6] hC ?_ ?_ <;> repeat' (first | exact trivial | exact rfl | exact ⟨_, rfl, rfl, rfl, Nat.le_refl _, fun _ _ => rfl⟩ | exact ⟨_, rfl, rfl, rfl, fun _ _ => rfl⟩ | exact ⟨_, rfl, rfl, rfl⟩ | exact ⟨_, rfl, rfl⟩ | refine ⟨_, rfl, rfl, rfl, by omega, fun k hk => ?_⟩ | refine ⟨?_, ?_⟩ | fail))
        · (refine wGo ?_; ((conv => arg 5; whnf); repeat (refine xS ?_; conv => arg 5; whnf)))
          refine wD ⟨rfl, fin (b := false) (by rw [certZ, h1, h2, h3]; rfl) ?_⟩
          ((try dsimp only); refine Ent.renC [0, 1, 2, 3, 4, 5, 6] hC ?_ ?_ <;> repeat' (first | exact trivial | exact rfl | exact ⟨_, rfl, rfl, rfl, Nat.le_refl _, fun _ _ => rfl⟩ | exact ⟨_, rfl, rfl, rfl, fun _ _ => rfl⟩ | exact ⟨_, rfl, rfl, rfl⟩ | exact ⟨_, rfl, rfl⟩ | refine ⟨_, rfl, rfl, rfl, by omega, fun k hk => ?_⟩ | refine ⟨?_, ?_⟩ | fail))
      · (refine wGo ?_; ((conv => arg 5; whnf); repeat (refine xS ?_; conv => arg 5; whnf)))
        refine wD ⟨rfl, fin (b := false) (by rw [certZ, h1, h2]; rfl) ?_⟩
        ((try dsimp only); refine Ent.renC [0, 1, 2, 3, 4, 5, 6] hC ?_ ?_ <;> repeat' (first | exact trivial | exact rfl | exact ⟨_, rfl, rfl, rfl, Nat.le_refl _, fun _ _ => rfl⟩ | exact ⟨_, rfl, rfl, rfl, fun _ _ => rfl⟩ | exact ⟨_, rfl, rfl, rfl⟩ | exact ⟨_, rfl, rfl⟩ | refine ⟨_, rfl, rfl, rfl, by omega, fun k hk => ?_⟩ | refine ⟨?_, ?_⟩ | fail))
    · (refine wGo ?_; ((conv => arg 5; whnf); repeat (refine xS ?_; conv => arg 5; whnf)))
      refine wD ⟨rfl, fin (b := false) (by rw [certZ, h1]; rfl) ?_⟩
      ((try dsimp only); refine Ent.renC [0, 1, 2, 3, 4, 5, 6] hC ?_ ?_ <;> repeat' (first | exact trivial | exact rfl | exact ⟨_, rfl, rfl, rfl, Nat.le_refl _, fun _ _ => rfl⟩ | exact ⟨_, rfl, rfl, rfl, fun _ _ => rfl⟩ | exact ⟨_, rfl, rfl, rfl⟩ | exact ⟨_, rfl, rfl⟩ | refine ⟨_, rfl, rfl, rfl, by omega, fun k hk => ?_⟩ | refine ⟨?_, ?_⟩ | fail))
  · (refine wBegin ?_; ((conv => arg 5; whnf); repeat (refine xS ?_; conv => arg 5; whnf)))
    refine wC (fun h1 => ?_) (fun h1 => ?_)
    · (refine wGo ?_; ((conv => arg 5; whnf); repeat (refine xS ?_; conv => arg 5; whnf)))
      have e1 : IntKind.i64.wrap ((t.ins.length : Int) + (t.outs.length : Int)) = ((t.ins.length + t.outs.length : Nat) : Int) := (by (try simp only [ww] at *); omega)
      have e2 : IntKind.i64.wrap (((t.ins.length + t.outs.length : Nat) : Int) + (t.fwds.length : Int)) = ((t.ins.length + t.outs.length + t.fwds.length : Nat) : Int) := (by (try simp only [ww] at *); omega)
      simp only [e1, e2]
      refine wC (fun h2 => ?_) (fun h2 => ?_)
      · (refine wGo ?_; ((conv => arg 5; whnf); repeat (refine xS ?_; conv => arg 5; whnf)))
        refine wC (fun h3 => ?_) (fun h3 => ?_)
        · (refine wGo ?_; ((conv => arg 5; whnf); repeat (refine xS ?_; conv => arg 5; whnf)))
          refine wC (fun h4 => ?_) (fun h4 => ?_)
          · (refine wGo ?_; ((conv => arg 5; whnf); repeat (refine xS ?_; conv => arg 5; whnf)))
            (refine wP _ _ (eq_op claimE rfl (t.claim.cv hc) (claim0.cv claim0_wf) rfl rfl) ?_; ((conv => arg 5; whnf); repeat (refine xS ?_; conv => arg 5; whnf)))
            refine wD (Ends.plain (.inr rfl) rfl ?_)
            rw [emptyB, h1, h2, h3, h4]; rfl
          · (refine wGo ?_; ((conv => arg 5; whnf); repeat (refine xS ?_; conv => arg 5; whnf)))
            refine wD (Ends.plain (.inr rfl) rfl ?_)
            rw [emptyB, h1, h2, h3, h4]; rfl
        · (refine wGo ?_; ((conv => arg 5; whnf); repeat (refine xS ?_; conv => arg 5; whnf)))
          refine wD (Ends.plain (.inr rfl) rfl ?_)
          rw [emptyB, h1, h2, h3]; rfl
      · (refine wGo ?_; ((conv => arg 5; whnf); repeat (refine xS ?_; conv => arg 5; whnf)))
        refine wD (Ends.plain (.inr rfl) rfl ?_)
        rw [emptyB, h1, h2]; rfl
    · (refine wGo ?_; ((conv => arg 5; whnf); repeat (refine xS ?_; conv => arg 5; whnf)))
      refine wD (Ends.plain (.inr rfl) rfl ?_)
      rw [emptyB, h1]; rfl
end Go.Proofs.YtmoohekgheoliaaGreatDoor
namespace Go.Proofs.YtmoohekgheoliaaGreatDoor
set_option maxRecDepth 100000
open Go.Sx
def TxM.bare (t : TxM) : TxM := { t with ins := [], outs := [], fwds := [] }
def payB (t : TxM) : Bool := insOK t.ins && (outsOK t.outs && (fwdsOK t.fwds && decide (0 < t.outs.length + t.fwds.length)))
noncomputable def mayPay (t : TxM) (hc : t.claim.Wf) : Bool := payB t && (emptyB t.bare && claimZ t.claim hc)
def mayPaySt (t : TxM) : St := ⟨[none, some (XV.sv (.ptr 6 0 0 0)), none, some (XV.bool (payB t))] ++ List.replicate 68 none, 
  [(3, .ro 8 t.par.keys.length (keysF t.par.keys)), (4, .ro 9 t.cert.outs.length (outsF t.cert.outs)), (5, .ro 282 t.cert.sigs.length (sgdsF t.cert.sigs)),
   (6, .cells 49 (.raw (.int .i64 t.kind) :: .raw (.int .i64 t.height) :: .raw (.slice none 0 0) :: .raw (.slice none 0 0) :: .raw (.slice none 0 0) :: boxC 3 (t.par.ac ++ (t.cert.ac ++ rC t.claim.cells))))], 7⟩
set_option maxHeartbeats 4000000 in
theorem mayPay_can (t : TxM) (hk : t.kind = 2) (hs : Sized t) (hc : t.claim.Wf) : Reads Tryz.prog 36 [.box t.ac] [] (XV.bool (mayPay t hc)) := by
  have hi := hs.ins
  have ho := hs.outs
  have hf := hs.fwds
  have hs' : Sized t.bare := ⟨Nat.zero_le _, Nat.zero_le _, Nat.zero_le _, hs.keys, hs.couts, hs.sigs⟩
  obtain ⟨kind, height, ins, outs, fwds, par, cert, claim⟩ := t
  dsimp only at hk hi ho hf
  subst hk
  refine Reads.of Tryz.T_ok Tryz.func36 rfl _ _ _ rfl rfl (fun C hC => ?_)
  (replace hC : C.n0 = 6 := hC; change Tri _ _ _ ⟨_, _, 6⟩ _)
  (refine Tri.cut 2 Tryz.mixed Tryz.T_ok ?_; ((conv => arg 5; whnf); repeat (refine xS ?_; conv => arg 5; whnf)))
  refine wD <| cutG <| Tri.merge (mayPaySt ⟨2, height, ins, outs, fwds, par, cert, claim⟩) (Tri.of Tryz.mixed Tryz.T_ok ?_) (Tri.of Tryz.mixed Tryz.T_ok ?_)
  · have fin : ∀ {S : St} {b : Bool}, b = payB ⟨2, height, ins, outs, fwds, par, cert, claim⟩ → Ent C S ⟨(mayPaySt ⟨2, height, ins, outs, fwds, par, cert, claim⟩).slots.set 3 (some (XV.bool b)), (mayPaySt ⟨2, height, ins, outs, fwds, par, cert, claim⟩).mem, 7⟩ → Ent C S (mayPaySt ⟨2, height, ins, outs, fwds, par, cert, claim⟩) := by
      intro S b hb h; subst hb; exact h
    (refine wBegin ?_; ((conv => arg 5; whnf); repeat (refine xS ?_; conv => arg 5; whnf)))
    (refine wFd rfl ?_; refine wGo ?_; ((conv => arg 5; whnf); repeat (refine xS ?_; conv => arg 5; whnf)))
    (refine wTd rfl ?_; refine wGo ?_; ((conv => arg 5; whnf); repeat (refine xS ?_; conv => arg 5; whnf)))
    (apply wP; exact (call_op rfl (entersB_of Tryz.func67 (by kernel_rfl)) rfl ((insOK_can ins hi).at [0] ⟨lend_ro0 rfl rfl, trivial⟩ trivial)); ((conv => arg 5; whnf); repeat (refine xS ?_; conv => arg 5; whnf)))
    refine wC (fun h1 => ?_) (fun h1 => ?_)
    · (refine wGo ?_; ((conv => arg 5; whnf); repeat (refine xS ?_; conv => arg 5; whnf)))
      (apply wP; exact (call_op rfl (entersB_of Tryz.func66 (by kernel_rfl)) rfl ((outsOK_can outs ho).at [1] ⟨lend_ro0 rfl rfl, trivial⟩ trivial)); ((conv => arg 5; whnf); repeat (refine xS ?_; conv => arg 5; whnf)))
      refine wC (fun h2 => ?_) (fun h2 => ?_)
      · (refine wGo ?_; ((conv => arg 5; whnf); repeat (refine xS ?_; conv => arg 5; whnf)))
        (apply wP; exact (call_op rfl (entersB_of Tryz.func68 (by kernel_rfl)) rfl ((fwdsOK_can fwds hf).at [2] ⟨lend_ro0 rfl rfl, trivial⟩ trivial)); ((conv => arg 5; whnf); repeat (refine xS ?_; conv => arg 5; whnf)))
        refine wC (fun h3 => ?_) (fun h3 => ?_)
        · (refine wGo ?_; ((conv => arg 5; whnf); repeat (refine xS ?_; conv => arg 5; whnf)))
          have e1 : IntKind.i64.wrap ((outs.length : Int) + (fwds.length : Int)) = ((outs.length + fwds.length : Nat) : Int) := (by (try simp only [ww] at *); omega)
          simp only [e1]
          refine wD ⟨rfl, fin (b := decide (0 < ((outs.length + fwds.length : Nat) : Int))) ?_ ?_⟩
          · rw [payB, h1, h2, h3, Bool.true_and, Bool.true_and, Bool.true_and, Bool.eq_iff_iff, decide_eq_true_eq, decide_eq_true_eq]
            dsimp only
            omega
          ((try dsimp only); refine Ent.renC [0, 1, 2, 3, 4, 5, 6] hC ?_ ?_ <;> repeat' (first | exact trivial | exact rfl | exact ⟨_, rfl, rfl, rfl, Nat.le_refl _, fun _ _ => rfl⟩ | exact ⟨_, rfl, rfl, rfl, fun _ _ => rfl⟩ | exact ⟨_, rfl, rfl, rfl⟩ | exact ⟨_, rfl, rfl⟩ | refine ⟨_, rfl, rfl, rfl, by omega, fun k hk => ?_⟩ | refine ⟨?_, ?_⟩ | fail))
        · (refine wGo ?_; ((conv => arg 5; whnf); repeat (refine xS ?_; conv => arg 5; whnf)))
          refine wD ⟨rfl, fin (b := false) (by rw [payB, h1, h2, h3]; rfl) ?_⟩
          ((try dsimp only); refine Ent.renC [0, 1, 2, 3, 4, 5, 6] hC ?_ ?_ <;> repeat' (first | exact trivial | exact rfl | exact ⟨_, rfl, rfl, rfl, Nat.le_refl _, fun _ _ => rfl⟩ | exact ⟨_, rfl, rfl, rfl, fun _ _ => rfl⟩ | exact ⟨_, rfl, rfl, rfl⟩ | exact ⟨_, rfl, rfl⟩ | refine ⟨_, rfl, rfl, rfl, by omega, fun k hk => ?_⟩ | refine ⟨?_, ?_⟩ | fail))
      · (refine wGo ?_; ((conv => arg 5; whnf); repeat (refine xS ?_; conv => arg 5; whnf)))
        refine wD ⟨rfl, fin (b := false) (by rw [payB, h1, h2]; rfl) ?_⟩
        ((try dsimp only); refine Ent.renC [0, 1, 2, 3, 4, 5, 6] hC ?_ ?_ <;> repeat' (first | exact trivial | exact rfl | exact ⟨_, rfl, rfl, rfl, Nat.le_refl _, fun _ _ => rfl⟩ | exact ⟨_, rfl, rfl, rfl, fun _ _ => rfl⟩ | exact ⟨_, rfl, rfl, rfl⟩ | exact ⟨_, rfl, rfl⟩ | refine ⟨_, rfl, rfl, rfl, by omega, fun k hk => ?_⟩ | refine ⟨?_, ?_⟩ | fail))
    · (refine wGo ?_; ((conv => arg 5; whnf); repeat (refine xS ?_; conv => arg 5; whnf)))
      refine wD ⟨rfl, fin (b := false) (by rw [payB, h1]; rfl) ?_⟩
      ((try dsimp only); refine Ent.renC [0, 1, 2, 3, 4, 5, 6] hC ?_ ?_ <;> repeat' (first | exact trivial | exact rfl | exact ⟨_, rfl, rfl, rfl, Nat.le_refl _, fun _ _ => rfl⟩ | exact ⟨_, rfl, rfl, rfl, fun _ _ => rfl⟩ | exact ⟨_, rfl, rfl, rfl⟩ | exact ⟨_, rfl, rfl⟩ | refine ⟨_, rfl, rfl, rfl, by omega, fun k hk => ?_⟩ | refine ⟨?_, ?_⟩ | fail))
  · (refine wBegin ?_; ((conv => arg 5; whnf); repeat (refine xS ?_; conv => arg 5; whnf)))
    refine wC (fun h1 => ?_) (fun h1 => ?_)
    · (refine wGo ?_; ((conv => arg 5; whnf); repeat (refine xS ?_; conv => arg 5; whnf)))
      (apply wP; exact (call_op rfl (entersB_of Tryz.func72 (by kernel_rfl)) rfl ((empty_can (TxM.bare ⟨2, height, ins, outs, fwds, par, cert, claim⟩) hs' hc).at [3, 4, 5] ⟨lend_tx (t := TxM.bare ⟨2, height, ins, outs, fwds, par, cert, claim⟩) (lend_nil _ _) (lend_nil _ _) (lend_nil _ _) (lend_ro0 rfl rfl) (lend_ro0 rfl rfl) (lend_ro0 rfl rfl), trivial⟩ trivial)); ((conv => arg 5; whnf); repeat (refine xS ?_; conv => arg 5; whnf)))
      refine wD (Ends.plain (.inr rfl) rfl ?_)
      rw [mayPay, h1]; rfl
    · (refine wGo ?_; ((conv => arg 5; whnf); repeat (refine xS ?_; conv => arg 5; whnf)))
      refine wD (Ends.plain (.inr rfl) rfl ?_)
      rw [mayPay, h1]; rfl
end Go.Proofs.YtmoohekgheoliaaGreatDoor

/- Parts Ui Uj Uk Wa Wb. -/
import Derived.Test.YtmoohekgheoliaaGreatDoorG14
import Derived.Test.YtmoohekgheoliaaGreatDoorG23
set_option linter.unusedSimpArgs false
set_option linter.unusedVariables false
namespace Go.Proofs.YtmoohekgheoliaaGreatDoor
set_option maxRecDepth 100000
open Go.Sx
def RC.root (R : RC) (i1 i2 : Nat) : Chunk := .cells 75 [.slc i1 9 0 R.P.length, .slc i2 11 0 R.C.length]
def RC.vecP (R : RC) : Chunk := .vec 60 9 R.P.length fun i => (R.P.getD i default).cells
def RC.vecC (R : RC) : Chunk := .vec 97 11 R.C.length fun i => (R.C.getD i default).cells
theorem RC.mem_get {R : RC} {i : Nat} {ch : Chunk} (h : R.mem.get i = some ch) : (i = 0 ∧ ch = R.root 1 2) ∨ (i = 1 ∧ ch = R.vecP) ∨ (i = 2 ∧ ch = R.vecC) := by
  simp only [RC.mem, Mem.get, nbeq] at h
  by_cases h0 : 0 = i
  · subst h0; simp at h; exact .inl ⟨rfl, h.symm⟩
  · by_cases h1 : 1 = i
    · subst h1; simp at h; exact .inr (.inl ⟨rfl, h.symm⟩)
    · by_cases h2 : 2 = i
      · subst h2; simp at h; exact .inr (.inr ⟨rfl, h.symm⟩)
      · simp [h0, h1, h2] at h
theorem rc_reads {f : FuncId} {fn : Func} {body : Code} (hf : Tryz.prog.funcs[f]? = some fn) (hb : fn.body = some body) (R : RC) (Xl : List CV) (X : XV) (hXl : Xl.all (CV.ok fun _ => false) = true) (hX : X.ok (fun _ => false) = true) {M : Mem} {c i1 i2 d : Nat}
    (k0 : M.get c = some (R.root i1 i2)) (k1 : M.get i1 = some R.vecP) (k2 : M.get i2 = some R.vecC) (hdist : (Nat.beq c i1 || Nat.beq c i2 || Nat.beq i1 i2) = false) (hd : (Nat.beq d c || Nat.beq d i1 || Nat.beq d i2) = false)
    (h : ∀ C : Ctx, C.n0 = 3 → Tri Tryz.prog C body ⟨slots0 fn.ntmps (.cv (.one (.ptr 0 0 0 0)) :: Xl.map .cv), R.mem, 3⟩ (Sx.Ends C Tryz.T fn.results.toList 3 3 ⟨X, R.mem, none⟩)) :
    CallSpec Tryz.prog f (.one (.ptr c 0 0 0) :: Xl) M d { v := X, upd := [(c, R.root i1 i2), (i1, R.vecP), (i2, R.vecC)], wr := [c, i1, i2] } [c, i1, i2] := by
  simp only [Bool.or_eq_false_iff, nbeq, decide_eq_false_iff_not] at hdist hd
  obtain ⟨⟨n1, n2⟩, n3⟩ := hdist
  obtain ⟨⟨m1, m2⟩, m3⟩ := hd
  refine spec_of_open (ids := [c, i1, i2]) (rids := []) (k1 := 3) (n0 := 3) (Xl := .one (.ptr 0 0 0 0) :: Xl) (M0 := R.mem) (out := ⟨X, R.mem, none⟩) Tryz.T_ok hf hb (by simp [n1, n2, n3]) rfl rfl (by simp [m1, m2, m3]) ?_ (fun i ch hi => ?_) (fun i ch hi => ?_) (fun i ch hi => by cases hi) (XV.ok_mono (fun _ h => by cases h) hX) h ?_ (XV.ren_closed hX).symm rfl (fun q ch hq => ?_)
  · simp only [List.all_cons, Bool.and_eq_true]
    refine ⟨by simp [CV.ok, SV.ok], ?_⟩
    simp only [List.all_eq_true] at hXl ⊢
    exact fun s hs => CV.ok_mono (fun _ h => by cases h) (hXl s hs)
  · rcases RC.mem_get hi with ⟨rfl, rfl⟩ | ⟨rfl, rfl⟩ | ⟨rfl, rfl⟩
    · exact ⟨by decide, rfl, fun h => by omega, fun ci hci => by simp at hci; subst hci; exact k0⟩
    · exact ⟨by decide, rfl, fun h => by omega, fun ci hci => by simp at hci; subst hci; exact k1⟩
    · exact ⟨by decide, rfl, fun h => by omega, fun ci hci => by simp at hci; subst hci; exact k2⟩
  · rcases RC.mem_get hi with ⟨rfl, rfl⟩ | ⟨rfl, rfl⟩ | ⟨rfl, rfl⟩ <;> exact ⟨rfl, rfl⟩
  · simp only [List.map_cons, CVs.ren_closed hXl]
    rfl
  · simp only [Mem.get, nbeq] at hq
    by_cases e0 : c = q
    · subst e0; simp at hq; subst hq; exact ⟨R.root 1 2, rfl, .inl ⟨0, rfl, rfl⟩⟩
    · by_cases e1 : i1 = q
      · subst e1; simp [e0] at hq; subst hq; exact ⟨R.vecP, rfl, .inl ⟨1, rfl, rfl⟩⟩
      · by_cases e2 : i2 = q
        · subst e2; simp [e0, e1] at hq; subst hq; exact ⟨R.vecC, rfl, .inl ⟨2, rfl, rfl⟩⟩
        · simp [e0, e1, e2] at hq
def RC.sumN (R : RC) : Nat → Int
  | 0 => 0
  | i + 1 => IntKind.i64.wrap (R.sumN i + (R.C.getD i default).amt.toInt)
def rcTotalSt (R : RC) (i : Nat) : St := ⟨[some (XV.sv (.ptr 0 0 0 0)), none, none, some (XV.int .i64 (R.sumN i)), some (XV.int .i64 i)] ++ List.replicate 21 none, R.mem, 3⟩
set_option maxHeartbeats 1000000 in
set_option maxRecDepth 100000 in
theorem rcTotal_spec (R : RC) (hlen : R.C.length < 1000000) {M : Mem} {c i1 i2 d : Nat} (k0 : M.get c = some (R.root i1 i2)) (k1 : M.get i1 = some R.vecP) (k2 : M.get i2 = some R.vecC) (hdist : (Nat.beq c i1 || Nat.beq c i2 || Nat.beq i1 i2) = false) (hd : (Nat.beq d c || Nat.beq d i1 || Nat.beq d i2) = false) :
    CallSpec Tryz.prog 46 [.one (.ptr c 0 0 0)] M d { v := XV.int .i64 (R.sumN R.C.length), upd := [(c, R.root i1 i2), (i1, R.vecP), (i2, R.vecC)], wr := [c, i1, i2] } [c, i1, i2] := by
  refine rc_reads Tryz.func46 rfl R [] _ rfl rfl k0 k1 k2 hdist hd (fun C hC => ?_)
  have hC0 : ∀ i, i < C.n0 → ([0, 1, 2] : List Nat)[i]? = some i := fun i hi => by
    rw [hC] at hi
    match i, hi with
    | 0, _ => rfl
    | 1, _ => rfl
    | 2, _ => rfl
  have hC1 : C.n0 ≤ 3 := by rw [hC]; decide
  (refine Tri.cut 2 Tryz.mixed Tryz.T_ok ?_; ((conv => arg 5; whnf); repeat ((with_reducible first | refine xT ?_ | refine xF ?_ | refine xO ?_ | refine xN ?_ | refine xU ?_ | refine xV ?_); conv => arg 5; whnf)))
  refine wD <| cutG <| Tri.seq ?_
  (refine Tri.cut 1 Tryz.mixed Tryz.T_ok ?_; ((conv => arg 5; whnf); repeat ((with_reducible first | refine xT ?_ | refine xF ?_ | refine xO ?_ | refine xN ?_ | refine xU ?_ | refine xV ?_); conv => arg 5; whnf)))
  refine wD <| cutG <| Tri.block ?_
  refine Tri.loop (α := { i : Nat // i ≤ R.C.length }) (fun i => rcTotalSt R i.1) (fun i => R.C.length - i.1) ⟨0, Nat.zero_le _⟩ ?_ ?_
  · exact Ent.ren [0, 1, 2] (by decide) rfl hC0 hC1 rfl ⟨rfl, rfl, rfl, trivial⟩ ⟨⟨_, rfl, rfl, rfl⟩, ⟨_, rfl, rfl, rfl, Nat.le_refl _, fun _ _ => rfl⟩, ⟨_, rfl, rfl, rfl, Nat.le_refl _, fun _ _ => rfl⟩, trivial⟩
  rintro ⟨i, hi⟩
  dsimp only
  (refine Tri.cut 1 Tryz.mixed Tryz.T_ok ?_; ((conv => arg 5; whnf); repeat ((with_reducible first | refine xT ?_ | refine xF ?_ | refine xO ?_ | refine xN ?_ | refine xU ?_ | refine xV ?_); conv => arg 5; whnf)))
  refine wC (fun h1 => ?_) (fun h1 => ?_)
  · (refine wGo ?_; ((conv => arg 5; whnf); repeat ((with_reducible first | refine xT ?_ | refine xF ?_ | refine xO ?_ | refine xN ?_ | refine xU ?_ | refine xV ?_); conv => arg 5; whnf)))
    have h1' : i < R.C.length := by simp only [decide_eq_true_eq] at h1; omega
    refine wD <| cutG <| Tri.seq <| Tri.block <| Tri.of Tryz.mixed Tryz.T_ok ?_
    (refine wBegin ?_; ((conv => arg 5; whnf); repeat ((with_reducible first | refine xT ?_ | refine xF ?_ | refine xO ?_ | refine xN ?_ | refine xU ?_ | refine xV ?_); conv => arg 5; whnf)))
    refine wN ⟨by omega, by omega⟩ ?_
    (refine wGo ?_; ((conv => arg 5; whnf); repeat ((with_reducible first | refine xT ?_ | refine xF ?_ | refine xO ?_ | refine xN ?_ | refine xU ?_ | refine xV ?_); conv => arg 5; whnf)))
    refine wN (by omega) ?_
    (refine wGo ?_; ((conv => arg 5; whnf); repeat ((with_reducible first | refine xT ?_ | refine xF ?_ | refine xO ?_ | refine xN ?_ | refine xU ?_ | refine xV ?_); conv => arg 5; whnf)))
    refine wD <| blockN <| cutG <| Tri.of Tryz.mixed Tryz.T_ok ?_
    (refine wBegin ?_; ((conv => arg 5; whnf); repeat ((with_reducible first | refine xT ?_ | refine xF ?_ | refine xO ?_ | refine xN ?_ | refine xU ?_ | refine xV ?_); conv => arg 5; whnf)))
    have hw : IntKind.i64.wrap ((i : Int) + 1) = ((i + 1 : Nat) : Int) := by rw [wrap_i64 (by omega) (by omega)]; omega
    have hg : R.C.getD (0 + ((i : Nat) : Int).toNat) default = R.C.getD i default := by simp
    have hsum : IntKind.i64.wrap (R.sumN i + (R.C.getD (0 + ((i : Nat) : Int).toNat) default).amt.toInt) = R.sumN (i + 1) := by rw [hg]; rfl
    refine wD <| loopN ⟨⟨i + 1, h1'⟩, by dsimp only; omega, ?_⟩
    exact Ent.ren [0, 1, 2] (by decide) rfl hC0 hC1 rfl ⟨rfl, congrArg (fun n : Int => some (XV.int .i64 n)) hsum, congrArg (fun n : Int => some (XV.int .i64 n)) hw, trivial⟩ ⟨⟨_, rfl, rfl, rfl⟩, ⟨_, rfl, rfl, rfl, Nat.le_refl _, fun _ _ => rfl⟩, ⟨_, rfl, rfl, rfl, Nat.le_refl _, fun _ _ => rfl⟩, trivial⟩
  · (refine wGo ?_; ((conv => arg 5; whnf); repeat ((with_reducible first | refine xT ?_ | refine xF ?_ | refine xO ?_ | refine xN ?_ | refine xU ?_ | refine xV ?_); conv => arg 5; whnf)))
    have h1' : i = R.C.length := by simp only [decide_eq_false_iff_not] at h1; omega
    subst h1'
    refine wD <| cutE <| loopX <| blockX <| cutG <| Tri.of Tryz.mixed Tryz.T_ok ?_
    (refine wBegin ?_; ((conv => arg 5; whnf); repeat ((with_reducible first | refine xT ?_ | refine xF ?_ | refine xO ?_ | refine xN ?_ | refine xU ?_ | refine xV ?_); conv => arg 5; whnf)))
    refine wD ⟨.inr rfl, _, Ent.refl _, rfl, fun j ch hj => ?_, fun j ch hj => by cases hj⟩
    rcases RC.mem_get hj with ⟨rfl, rfl⟩ | ⟨rfl, rfl⟩ | ⟨rfl, rfl⟩ <;> exact ⟨by decide, rfl⟩
def posIn (p : Pt) : List Pt → Nat
  | [] => 0
  | q :: r => if ltPt q p = true then posIn p r + 1 else 0
def RC.pos (R : RC) (p : Pt) : Nat := posIn p R.P
def RC.isAt (R : RC) (p : Pt) : Bool := decide (R.pos p < R.P.length) && decide (R.P.getD (R.pos p) default = p)
def rcAtSt (R : RC) (p : Pt) (i : Nat) : St := ⟨[some (XV.sv (.ptr 0 0 0 0)), none, none, some (XV.sv (.ptr 3 0 0 0)), some (XV.int .i64 (0 : Int)), some (XV.bool false), some (XV.int .i64 i)] ++ List.replicate 34 none, R.mem ++ [(3, .cells 60 (p.cells.map .raw))], 4⟩
set_option maxHeartbeats 1000000 in
set_option maxRecDepth 100000 in
theorem rcAt_spec (R : RC) (p : Pt) (hlen : R.P.length < 1000000) {M : Mem} {c i1 i2 d : Nat} (k0 : M.get c = some (R.root i1 i2)) (k1 : M.get i1 = some R.vecP) (k2 : M.get i2 = some R.vecC) (hdist : (Nat.beq c i1 || Nat.beq c i2 || Nat.beq i1 i2) = false) (hd : (Nat.beq d c || Nat.beq d i1 || Nat.beq d i2) = false) :
    CallSpec Tryz.prog 54 [.one (.ptr c 0 0 0), p.cv] M d { v := .tup [.one (.raw (.int .i64 (R.pos p))), .one (.raw (.bool (R.isAt p)))], upd := [(c, R.root i1 i2), (i1, R.vecP), (i2, R.vecC)], wr := [c, i1, i2] } [c, i1, i2] := by
  refine rc_reads Tryz.func54 rfl R [p.cv] _ rfl rfl k0 k1 k2 hdist hd (fun C hC => ?_)
  have hC0 : ∀ i, i < C.n0 → ([0, 1, 2, 3] : List Nat)[i]? = some i := fun i hi => by
    rw [hC] at hi
    match i, hi with
    | 0, _ => rfl
    | 1, _ => rfl
    | 2, _ => rfl
  have hC1 : C.n0 ≤ 4 := by rw [hC]; decide
  (refine Tri.cut 1 Tryz.mixed Tryz.T_ok ?_; ((conv => arg 5; whnf); repeat ((with_reducible first | refine xT ?_ | refine xF ?_ | refine xO ?_ | refine xN ?_ | refine xU ?_ | refine xV ?_); conv => arg 5; whnf)))
  refine wD <| cutG <| Tri.seq ?_
  (refine Tri.cut 1 Tryz.mixed Tryz.T_ok ?_; ((conv => arg 5; whnf); repeat ((with_reducible first | refine xT ?_ | refine xF ?_ | refine xO ?_ | refine xN ?_ | refine xU ?_ | refine xV ?_); conv => arg 5; whnf)))
  refine wD <| cutG <| Tri.block ?_
  refine Tri.loop (α := { i : Nat // i ≤ R.P.length ∧ R.pos p = i + posIn p (R.P.drop i) }) (fun i => rcAtSt R p i.1) (fun i => R.P.length - i.1) ⟨0, Nat.zero_le _, by simp [RC.pos]⟩ ?_ ?_
  · exact Ent.ren [0, 1, 2, 3] (by decide) rfl hC0 hC1 rfl ⟨rfl, rfl, rfl, rfl, rfl, trivial⟩ ⟨⟨_, rfl, rfl, rfl⟩, ⟨_, rfl, rfl, rfl, Nat.le_refl _, fun _ _ => rfl⟩, ⟨_, rfl, rfl, rfl, Nat.le_refl _, fun _ _ => rfl⟩, ⟨_, rfl, rfl, rfl⟩, trivial⟩
  rintro ⟨i, hi, hpos⟩
  dsimp only
  (refine Tri.cut 1 Tryz.mixed Tryz.T_ok ?_; ((conv => arg 5; whnf); repeat ((with_reducible first | refine xT ?_ | refine xF ?_ | refine xO ?_ | refine xN ?_ | refine xU ?_ | refine xV ?_); conv => arg 5; whnf)))
  refine wC (fun h1 => ?_) (fun h1 => ?_)
  · (refine wGo ?_; ((conv => arg 5; whnf); repeat ((with_reducible first | refine xT ?_ | refine xF ?_ | refine xO ?_ | refine xN ?_ | refine xU ?_ | refine xV ?_); conv => arg 5; whnf)))
    have h1' : i < R.P.length := by simp only [decide_eq_true_eq] at h1; omega
    have hdrop : R.P.drop i = R.P.getD i default :: R.P.drop (i + 1) := by
      rw [List.drop_eq_getElem_cons h1']
      simp [List.getD_eq_getElem?_getD, h1']
    have hg : R.P.getD (0 + ((i : Nat) : Int).toNat) default = R.P.getD i default := by simp
    refine wD <| cutG <| Tri.seq <| Tri.block <| Tri.of Tryz.mixed Tryz.T_ok ?_
    (refine wBegin ?_; ((conv => arg 5; whnf); repeat ((with_reducible first | refine xT ?_ | refine xF ?_ | refine xO ?_ | refine xN ?_ | refine xU ?_ | refine xV ?_); conv => arg 5; whnf)))
    refine wN ⟨by omega, by omega⟩ ?_
    (refine wGo ?_; ((conv => arg 5; whnf); repeat ((with_reducible first | refine xT ?_ | refine xF ?_ | refine xO ?_ | refine xN ?_ | refine xU ?_ | refine xV ?_); conv => arg 5; whnf)))
    refine wN (by omega) ?_
    (refine wGo ?_; ((conv => arg 5; whnf); repeat ((with_reducible first | refine xT ?_ | refine xF ?_ | refine xO ?_ | refine xN ?_ | refine xU ?_ | refine xV ?_); conv => arg 5; whnf)))
    (apply wP; exact (call_op rfl (entersB_of Tryz.func94 (by kernel_rfl)) rfl (lessPoint_spec (R.P.getD (0 + ((i : Nat) : Int).toNat) default) p _ _)); ((conv => arg 5; whnf); repeat ((with_reducible first | refine xT ?_ | refine xF ?_ | refine xO ?_ | refine xN ?_ | refine xU ?_ | refine xV ?_); conv => arg 5; whnf)))
    refine wC (fun h2 => ?_) (fun h2 => ?_)
    · (refine wGo ?_; ((conv => arg 5; whnf); repeat ((with_reducible first | refine xT ?_ | refine xF ?_ | refine xO ?_ | refine xN ?_ | refine xU ?_ | refine xV ?_); conv => arg 5; whnf)))
      refine wN ⟨by omega, by omega⟩ ?_
      (refine wGo ?_; ((conv => arg 5; whnf); repeat ((with_reducible first | refine xT ?_ | refine xF ?_ | refine xO ?_ | refine xN ?_ | refine xU ?_ | refine xV ?_); conv => arg 5; whnf)))
      refine wN (by omega) ?_
      (refine wGo ?_; ((conv => arg 5; whnf); repeat ((with_reducible first | refine xT ?_ | refine xF ?_ | refine xO ?_ | refine xN ?_ | refine xU ?_ | refine xV ?_); conv => arg 5; whnf)))
      (refine wP _ _ (eq_op ptE rfl (R.P.getD (0 + ((i : Nat) : Int).toNat) default) p rfl rfl) ?_; ((conv => arg 5; whnf); repeat ((with_reducible first | refine xT ?_ | refine xF ?_ | refine xO ?_ | refine xN ?_ | refine xU ?_ | refine xV ?_); conv => arg 5; whnf)))
      simp only [Bool.not_eq_true'] at h2
      rw [hg] at h2
      have hp : R.pos p = i := by rw [hpos, hdrop, posIn, if_neg (by rw [h2]; simp)]; rfl
      refine wD <| blockR <| cutR <| loopR <| blockR <| cutR ⟨.inr rfl, _, Ent.refl _, ?_, fun j ch hj => ?_, fun j ch hj => by cases hj⟩
      · have hx : R.isAt p = decide (R.P.getD (0 + ((i : Nat) : Int).toNat) default = p) := by simp only [RC.isAt, hp, hg, h1', decide_true, Bool.true_and]
        rw [hx, hp]
        rfl
      · rcases RC.mem_get hj with ⟨rfl, rfl⟩ | ⟨rfl, rfl⟩ | ⟨rfl, rfl⟩ <;> exact ⟨by decide, rfl⟩
    · (refine wGo ?_; ((conv => arg 5; whnf); repeat ((with_reducible first | refine xT ?_ | refine xF ?_ | refine xO ?_ | refine xN ?_ | refine xU ?_ | refine xV ?_); conv => arg 5; whnf)))
      simp only [Bool.not_eq_false'] at h2
      rw [hg] at h2
      have hw : IntKind.i64.wrap ((i : Int) + 1) = ((i + 1 : Nat) : Int) := by rw [wrap_i64 (by omega) (by omega)]; omega
      refine wD <| blockN <| cutG <| Tri.of Tryz.mixed Tryz.T_ok ?_
      (refine wBegin ?_; ((conv => arg 5; whnf); repeat ((with_reducible first | refine xT ?_ | refine xF ?_ | refine xO ?_ | refine xN ?_ | refine xU ?_ | refine xV ?_); conv => arg 5; whnf)))
      refine wD <| loopN ⟨⟨i + 1, h1', by rw [hpos, hdrop, posIn, if_pos h2]; omega⟩, by dsimp only; omega, ?_⟩
      exact Ent.ren [0, 1, 2, 3] (by decide) rfl hC0 hC1 rfl ⟨rfl, rfl, rfl, rfl, congrArg (fun n : Int => some (XV.int .i64 n)) hw, trivial⟩ ⟨⟨_, rfl, rfl, rfl⟩, ⟨_, rfl, rfl, rfl, Nat.le_refl _, fun _ _ => rfl⟩, ⟨_, rfl, rfl, rfl, Nat.le_refl _, fun _ _ => rfl⟩, ⟨_, rfl, rfl, rfl⟩, trivial⟩
  · (refine wGo ?_; ((conv => arg 5; whnf); repeat ((with_reducible first | refine xT ?_ | refine xF ?_ | refine xO ?_ | refine xN ?_ | refine xU ?_ | refine xV ?_); conv => arg 5; whnf)))
    have h1' : i = R.P.length := by simp only [decide_eq_false_iff_not] at h1; omega
    have hp : R.pos p = R.P.length := by rw [hpos, h1', List.drop_length]; rfl
    refine wD <| cutE <| loopX <| blockX <| cutG <| Tri.of Tryz.mixed Tryz.T_ok ?_
    (refine wBegin ?_; ((conv => arg 5; whnf); repeat ((with_reducible first | refine xT ?_ | refine xF ?_ | refine xO ?_ | refine xN ?_ | refine xU ?_ | refine xV ?_); conv => arg 5; whnf)))
    refine wD ⟨.inr rfl, _, Ent.refl _, ?_, fun j ch hj => ?_, fun j ch hj => by cases hj⟩
    · have hx : R.isAt p = false := by simp [RC.isAt, hp]
      rw [hx, hp]
      rfl
    · rcases RC.mem_get hj with ⟨rfl, rfl⟩ | ⟨rfl, rfl⟩ | ⟨rfl, rfl⟩ <;> exact ⟨by decide, rfl⟩
end Go.Proofs.YtmoohekgheoliaaGreatDoor
namespace Go.Proofs.YtmoohekgheoliaaGreatDoor
set_option maxRecDepth 100000
open Go.Sx
theorem RC.opens {P : Program} {C : Ctx} {cd : Code} {slots : List (Option XV)} {mem : Mem} {nx : Nat} {Q : Exit → St → Prop} (R : RC) (c : Nat) (hc : mem.get c = some (.abs (rcP R)))
    (h : Tri P C cd ⟨slots, (c, R.root (nx + 1) (nx + 2)) :: (nx + 1, R.vecP) :: (nx + 2, R.vecC) :: mem.del c, nx + 3⟩ Q) : Tri P C cd ⟨slots, mem, nx⟩ Q :=
  Tri.opens (M := R.mem) (m := 3) (inv := True) (c := c) hc rfl fun _ => h
theorem RC.shuts {C : Ctx} {slots : List (Option XV)} {mem : Mem} {nx : Nat} (R : RC) (c : Nat) {i1 i2 m1 m2 n1 n2 : Nat} {f g : Nat → List Value}
    (k0 : mem.get c = some (.cells 75 [.slc i1 9 0 m1, .slc i2 11 0 m2])) (k1 : mem.get i1 = some (.vec 60 9 n1 f)) (k2 : mem.get i2 = some (.vec 97 11 n2 g))
    (hids : (Nat.beq c i1 || Nat.beq c i2 || Nat.beq i1 i2) = false) (hm1 : m1 = R.P.length) (hm2 : m2 = R.C.length) (hl1 : R.P.length ≤ n1) (hl2 : R.C.length ≤ n2) (hf : ∀ i, i < R.P.length → f i = (R.P.getD i default).cells) (hg : ∀ i, i < R.C.length → g i = (R.C.getD i default).cells) :
    Ent C ⟨slots, mem, nx⟩ ⟨slots, (c, .abs (rcP R)) :: mem.dels [c, i1, i2], nx⟩ := by
  subst hm1 hm2
  exact Ent.shut3 (S := ⟨slots, mem, nx⟩) (M := R.mem) (inv := True) hids trivial rfl rfl rfl rfl k0 k1 k2 rfl ⟨rfl, rfl⟩ ⟨rfl, rfl, hl1, hf⟩ ⟨rfl, rfl, hl2, hg⟩
end Go.Proofs.YtmoohekgheoliaaGreatDoor
namespace Go.Proofs.YtmoohekgheoliaaGreatDoor
set_option maxRecDepth 100000
open Go.Sx
theorem posIn_le (p : Pt) : ∀ l : List Pt, posIn p l ≤ l.length
  | [] => Nat.le_refl _
  | q :: r => by
    simp only [posIn]
    split
    · have := posIn_le p r; simp; omega
    · simp
theorem insRowF {E : Type} (cells : E → List Value) (dflt : E) (l : List E) (k : Nat) (hk : k ≤ l.length) (x : E) (i : Nat) (hi : i < l.length + 1) :
    joinF (snocF (joinF (fun _ => []) 0 (fun q => cells (l.getD (0 + q) dflt))) (0 + k) (cells x)) (0 + k + 1) (fun q => cells (l.getD (0 + k + q) dflt)) i = cells ((l.take k ++ x :: l.drop k).getD i dflt) := by
  simp only [joinF, snocF, nblt, Nat.zero_add]
  by_cases h1 : i < k
  · have h2 : i < k + 1 := by omega
    have h3 : ¬ i < 0 := by omega
    simp only [h1, h2, h3, decide_true, decide_false, cond_true, cond_false, Nat.sub_zero]
    have : (l.take k ++ x :: l.drop k)[i]? = l[i]? := by
      rw [List.getElem?_append_left (by rw [List.length_take]; omega), List.getElem?_take, if_pos h1]
    simp [List.getD_eq_getElem?_getD, this]
  · by_cases h2 : i < k + 1
    · have h4 : i = k := by omega
      subst h4
      simp only [h2, Nat.lt_irrefl, decide_true, decide_false, cond_true, cond_false]
      have : (l.take i ++ x :: l.drop i)[i]? = some x := by
        rw [List.getElem?_append_right (by rw [List.length_take]; omega), List.length_take]
        have : i - min i l.length = 0 := by omega
        rw [this]; rfl
      simp [List.getD_eq_getElem?_getD, this]
    · simp only [h2, decide_false, cond_false]
      have : (l.take k ++ x :: l.drop k)[i]? = l[k + (i - (k + 1))]? := by
        rw [List.getElem?_append_right (by rw [List.length_take]; omega), List.length_take]
        have : i - min k l.length = (i - (k + 1)) + 1 := by omega
        rw [this, List.getElem?_cons_succ, List.getElem?_drop]
      simp [List.getD_eq_getElem?_getD, this]
def RC.okB (R : RC) (p : Pt) (c : Coin) : Bool := !(R.isAt p) && !(decide (p.no.toInt < 0)) && !(decide (255 < p.no.toInt)) && !(decide (c.amt.toInt < 1)) && !(decide (1125899906842624 < c.amt.toInt)) && !(decide (IntKind.i64.wrap (1125899906842624 - c.amt.toInt) < R.sumN R.C.length))
def RC.add1 (R : RC) (p : Pt) (c : Coin) : RC := ⟨R.P.take (R.pos p) ++ p :: R.P.drop (R.pos p), R.C.take (R.pos p) ++ c :: R.C.drop (R.pos p)⟩
def RC.add (R : RC) (p : Pt) (c : Coin) : RC := if R.okB p c = true then R.add1 p c else R
theorem RC.ends {C : Ctx} {T : TyTab} {rs : List ResultVar} {X X' : XV} {e : Exit} {slots : List (Option XV)} {mem : Mem} {nx : Nat} {R0 : RC} (R : RC) {i1 i2 m1 m2 n1 n2 : Nat} {f g : Nat → List Value} (he : e = .normal ∨ e = .ret)
    (k0 : mem.get 0 = some (.cells 75 [.slc i1 9 0 m1, .slc i2 11 0 m2])) (k1 : mem.get i1 = some (.vec 60 9 n1 f)) (k2 : mem.get i2 = some (.vec 97 11 n2 g))
    (hids : (Nat.beq 0 i1 || Nat.beq 0 i2 || Nat.beq i1 i2) = false) (hr : resX T ⟨slots, (0, .abs (rcP R)) :: mem.dels [0, i1, i2], nx⟩ rs = some X') (hX : X' = X) (hR : R = R0) (hm1 : m1 = R.P.length) (hm2 : m2 = R.C.length) (hl1 : R.P.length ≤ n1) (hl2 : R.C.length ≤ n2)
    (hf : ∀ i, i < R.P.length → f i = (R.P.getD i default).cells) (hg : ∀ i, i < R.C.length → g i = (R.C.getD i default).cells) : Sx.Ends C T rs 1 1 ⟨X, [(0, .abs (rcP R0))], none⟩ e ⟨slots, mem, nx⟩ := by
  subst hX hR
  refine ⟨he, _, RC.shuts R 0 k0 k1 k2 hids hm1 hm2 hl1 hl2 hf hg, hr, fun i ch h => ?_, fun i ch h => by cases h⟩
  simp only [Mem.get, nbeq] at h
  by_cases hk : 0 = i
  · subst hk
    simp only [decide_true, cond_true, Option.some.injEq] at h
    exact ⟨by omega, by rw [← h]; rfl⟩
  · simp [hk] at h
set_option maxHeartbeats 2000000 in
set_option maxRecDepth 100000 in
theorem rcAdd_spec (R : RC) (p : Pt) (c : Coin) (hPC : R.P.length = R.C.length) (hlen : R.P.length < 1000000) {M : Mem} {c0 d : Nat} (hM : M.get c0 = some (.abs (rcP R))) (hd : Nat.beq d c0 = false) : CallSpec Tryz.prog 31 [.one (.ptr c0 0 0 0), p.cv, c.cv] M d { v := XV.bool (R.okB p c), upd := [(c0, .abs (rcP (R.add p c)))], wr := [c0] } [c0] := by
  refine spec_obj Tryz.T_ok Tryz.func31 rfl [p.cv, c.cv] (XV.bool (R.okB p c)) rfl rfl hM hd (fun C _ => ?_)
  refine RC.opens R 0 rfl ?_
  have hpl : R.pos p ≤ R.P.length := posIn_le p R.P
  (refine Tri.cut 3 Tryz.mixed Tryz.T_ok ?_; ((conv => arg 5; whnf); repeat ((with_reducible first | refine xT ?_ | refine xF ?_ | refine xO ?_ | refine xN ?_ | refine xU ?_ | refine xV ?_); conv => arg 5; whnf)))
  (apply wP; exact (call_op rfl (entersB_of Tryz.func54 (by kernel_rfl)) rfl (rcAt_spec R p hlen rfl rfl rfl rfl rfl)); ((conv => arg 5; whnf); repeat ((with_reducible first | refine xT ?_ | refine xF ?_ | refine xO ?_ | refine xN ?_ | refine xU ?_ | refine xV ?_); conv => arg 5; whnf)))
  refine wC (fun h1 => ?_) (fun h1 => ?_)
  · (refine wGo ?_; ((conv => arg 5; whnf); repeat ((with_reducible first | refine xT ?_ | refine xF ?_ | refine xO ?_ | refine xN ?_ | refine xU ?_ | refine xV ?_); conv => arg 5; whnf)))
    refine wD <| cutR (RC.ends R (.inr rfl) rfl rfl rfl rfl rfl ?_ ?_ rfl rfl (Nat.le_refl _) (Nat.le_refl _) (fun _ _ => rfl) (fun _ _ => rfl))
    · simp [RC.okB, h1]
    · simp [RC.add, RC.okB, h1]
  (refine wGo ?_; ((conv => arg 5; whnf); repeat ((with_reducible first | refine xT ?_ | refine xF ?_ | refine xO ?_ | refine xN ?_ | refine xU ?_ | refine xV ?_); conv => arg 5; whnf)))
  refine wC (fun h2 => ?_) (fun h2 => ?_)
  · (refine wGo ?_; ((conv => arg 5; whnf); repeat ((with_reducible first | refine xT ?_ | refine xF ?_ | refine xO ?_ | refine xN ?_ | refine xU ?_ | refine xV ?_); conv => arg 5; whnf)))
    refine wD <| cutR (RC.ends R (.inr rfl) rfl rfl rfl rfl rfl ?_ ?_ rfl rfl (Nat.le_refl _) (Nat.le_refl _) (fun _ _ => rfl) (fun _ _ => rfl))
    · simp [RC.okB, h2]
    · simp [RC.add, RC.okB, h2]
  (refine wGo ?_; ((conv => arg 5; whnf); repeat ((with_reducible first | refine xT ?_ | refine xF ?_ | refine xO ?_ | refine xN ?_ | refine xU ?_ | refine xV ?_); conv => arg 5; whnf)))
  refine wC (fun h3 => ?_) (fun h3 => ?_)
  · (refine wGo ?_; ((conv => arg 5; whnf); repeat ((with_reducible first | refine xT ?_ | refine xF ?_ | refine xO ?_ | refine xN ?_ | refine xU ?_ | refine xV ?_); conv => arg 5; whnf)))
    refine wD <| cutR (RC.ends R (.inr rfl) rfl rfl rfl rfl rfl ?_ ?_ rfl rfl (Nat.le_refl _) (Nat.le_refl _) (fun _ _ => rfl) (fun _ _ => rfl))
    · simp [RC.okB, h3]
    · simp [RC.add, RC.okB, h3]
  (refine wGo ?_; ((conv => arg 5; whnf); repeat ((with_reducible first | refine xT ?_ | refine xF ?_ | refine xO ?_ | refine xN ?_ | refine xU ?_ | refine xV ?_); conv => arg 5; whnf)))
  refine wC (fun h4 => ?_) (fun h4 => ?_)
  · (refine wGo ?_; ((conv => arg 5; whnf); repeat ((with_reducible first | refine xT ?_ | refine xF ?_ | refine xO ?_ | refine xN ?_ | refine xU ?_ | refine xV ?_); conv => arg 5; whnf)))
    refine wD <| cutR (RC.ends R (.inr rfl) rfl rfl rfl rfl rfl ?_ ?_ rfl rfl (Nat.le_refl _) (Nat.le_refl _) (fun _ _ => rfl) (fun _ _ => rfl))
    · simp [RC.okB, h4]
    · simp [RC.add, RC.okB, h4]
  (refine wGo ?_; ((conv => arg 5; whnf); repeat ((with_reducible first | refine xT ?_ | refine xF ?_ | refine xO ?_ | refine xN ?_ | refine xU ?_ | refine xV ?_); conv => arg 5; whnf)))
  refine wC (fun h5 => ?_) (fun h5 => ?_)
  · (refine wGo ?_; ((conv => arg 5; whnf); repeat ((with_reducible first | refine xT ?_ | refine xF ?_ | refine xO ?_ | refine xN ?_ | refine xU ?_ | refine xV ?_); conv => arg 5; whnf)))
    refine wD <| cutR (RC.ends R (.inr rfl) rfl rfl rfl rfl rfl ?_ ?_ rfl rfl (Nat.le_refl _) (Nat.le_refl _) (fun _ _ => rfl) (fun _ _ => rfl))
    · simp [RC.okB, h5]
    · simp [RC.add, RC.okB, h5]
  (refine wGo ?_; ((conv => arg 5; whnf); repeat ((with_reducible first | refine xT ?_ | refine xF ?_ | refine xO ?_ | refine xN ?_ | refine xU ?_ | refine xV ?_); conv => arg 5; whnf)))
  (apply wP; exact (call_op rfl (entersB_of Tryz.func46 (by kernel_rfl)) rfl (rcTotal_spec R (hPC ▸ hlen) rfl rfl rfl rfl rfl)); ((conv => arg 5; whnf); repeat ((with_reducible first | refine xT ?_ | refine xF ?_ | refine xO ?_ | refine xN ?_ | refine xU ?_ | refine xV ?_); conv => arg 5; whnf)))
  refine wC (fun h6 => ?_) (fun h6 => ?_)
  · (refine wGo ?_; ((conv => arg 5; whnf); repeat ((with_reducible first | refine xT ?_ | refine xF ?_ | refine xO ?_ | refine xN ?_ | refine xU ?_ | refine xV ?_); conv => arg 5; whnf)))
    refine wD <| cutR (RC.ends R (.inr rfl) rfl rfl rfl rfl rfl ?_ ?_ rfl rfl (Nat.le_refl _) (Nat.le_refl _) (fun _ _ => rfl) (fun _ _ => rfl))
    · simp [RC.okB, h6]
    · simp [RC.add, RC.okB, h6]
  (refine wGo ?_; ((conv => arg 5; whnf); repeat ((with_reducible first | refine xT ?_ | refine xF ?_ | refine xO ?_ | refine xN ?_ | refine xU ?_ | refine xV ?_); conv => arg 5; whnf)))
  have hok : R.okB p c = true := by simp only [RC.okB, h1, h2, h3, h4, h5, h6]; rfl
  refine wD <| cutG <| Tri.of Tryz.mixed Tryz.T_ok ?_
  (refine wBegin ?_; ((conv => arg 5; whnf); repeat ((with_reducible first | refine xT ?_ | refine xF ?_ | refine xO ?_ | refine xN ?_ | refine xU ?_ | refine xV ?_); conv => arg 5; whnf)))
  refine wN ⟨by omega, by omega⟩ ?_
  (refine wGo ?_; ((conv => arg 5; whnf); repeat ((with_reducible first | refine xT ?_ | refine xF ?_ | refine xO ?_ | refine xN ?_ | refine xU ?_ | refine xV ?_); conv => arg 5; whnf)))
  have hto : ((R.pos p : Nat) : Int).toNat = R.pos p := rfl
  have a1 : 0 + ((R.pos p : Nat) : Int).toNat ≤ maxLen := by simp only [maxLen]; omega
  have a2 : (0 + ((R.pos p : Nat) : Int).toNat) * 16 ≤ 140737488355328 := by omega
  have b1 : 0 + ((R.pos p : Nat) : Int).toNat + 1 ≤ maxLen := by simp only [maxLen]; omega
  have b2 : (0 + ((R.pos p : Nat) : Int).toNat + 1) * 16 ≤ 140737488355328 := by omega
  (refine wP _ _ (append_op Tryz.T_ok rfl rfl rfl rfl rfl [2] (old_nil rfl _ _ _ (fun _ => [])) (new_vec rfl rfl (by omega) rfl) rfl (fun _ _ => rfl) a1 a2) ?_; ((conv => arg 5; whnf); repeat ((with_reducible first | refine xT ?_ | refine xF ?_ | refine xO ?_ | refine xN ?_ | refine xU ?_ | refine xV ?_); conv => arg 5; whnf)))
  (refine wP _ _ (append1_op Tryz.T_ok rfl rfl rfl rfl p.cells rfl rfl rfl (Nat.le_refl _) rfl rfl rfl rfl rfl b1 b2) ?_; ((conv => arg 5; whnf); repeat ((with_reducible first | refine xT ?_ | refine xF ?_ | refine xO ?_ | refine xN ?_ | refine xU ?_ | refine xV ?_); conv => arg 5; whnf)))
  refine wN ⟨by omega, by omega⟩ ?_
  (refine wGo ?_; ((conv => arg 5; whnf); repeat ((with_reducible first | refine xT ?_ | refine xF ?_ | refine xO ?_ | refine xN ?_ | refine xU ?_ | refine xV ?_); conv => arg 5; whnf)))
  have e1 : 0 + ((R.pos p : Nat) : Int).toNat + 1 + (R.P.length - ((R.pos p : Nat) : Int).toNat) ≤ maxLen := by simp only [maxLen]; omega
  have e2 : (0 + ((R.pos p : Nat) : Int).toNat + 1 + (R.P.length - ((R.pos p : Nat) : Int).toNat)) * 16 ≤ 140737488355328 := by omega
  (refine wP _ _ (append_op Tryz.T_ok rfl rfl rfl rfl rfl [57, 2] (old_vec rfl rfl (Nat.le_refl _) rfl) (new_vec rfl rfl (by omega) rfl) rfl (fun _ _ => rfl) e1 e2) ?_; ((conv => arg 5; whnf); repeat ((with_reducible first | refine xT ?_ | refine xF ?_ | refine xO ?_ | refine xN ?_ | refine xU ?_ | refine xV ?_); conv => arg 5; whnf)))
  refine wN ⟨by omega, by omega⟩ ?_
  (refine wGo ?_; ((conv => arg 5; whnf); repeat ((with_reducible first | refine xT ?_ | refine xF ?_ | refine xO ?_ | refine xN ?_ | refine xU ?_ | refine xV ?_); conv => arg 5; whnf)))
  have c2 : (0 + ((R.pos p : Nat) : Int).toNat) * 32 ≤ 140737488355328 := by omega
  have d2 : (0 + ((R.pos p : Nat) : Int).toNat + 1) * 32 ≤ 140737488355328 := by omega
  have f1 : 0 + ((R.pos p : Nat) : Int).toNat + 1 + (R.C.length - ((R.pos p : Nat) : Int).toNat) ≤ maxLen := by simp only [maxLen]; omega
  have f2 : (0 + ((R.pos p : Nat) : Int).toNat + 1 + (R.C.length - ((R.pos p : Nat) : Int).toNat)) * 32 ≤ 140737488355328 := by omega
  (refine wP _ _ (append_op Tryz.T_ok rfl rfl rfl rfl rfl [3] (old_nil rfl _ _ _ (fun _ => [])) (new_vec rfl rfl (by omega) rfl) rfl (fun _ _ => rfl) a1 c2) ?_; ((conv => arg 5; whnf); repeat ((with_reducible first | refine xT ?_ | refine xF ?_ | refine xO ?_ | refine xN ?_ | refine xU ?_ | refine xV ?_); conv => arg 5; whnf)))
  (refine wP _ _ (append1_op Tryz.T_ok rfl rfl rfl rfl c.cells rfl rfl rfl (Nat.le_refl _) rfl rfl rfl rfl rfl b1 d2) ?_; ((conv => arg 5; whnf); repeat ((with_reducible first | refine xT ?_ | refine xF ?_ | refine xO ?_ | refine xN ?_ | refine xU ?_ | refine xV ?_); conv => arg 5; whnf)))
  refine wN ⟨by omega, by omega⟩ ?_
  (refine wGo ?_; ((conv => arg 5; whnf); repeat ((with_reducible first | refine xT ?_ | refine xF ?_ | refine xO ?_ | refine xN ?_ | refine xU ?_ | refine xV ?_); conv => arg 5; whnf)))
  (refine wP _ _ (append_op Tryz.T_ok rfl rfl rfl rfl rfl [78, 3] (old_vec rfl rfl (Nat.le_refl _) rfl) (new_vec rfl rfl (by omega) rfl) rfl (fun _ _ => rfl) f1 f2) ?_; ((conv => arg 5; whnf); repeat ((with_reducible first | refine xT ?_ | refine xF ?_ | refine xO ?_ | refine xN ?_ | refine xU ?_ | refine xV ?_); conv => arg 5; whnf)))
  have hkC : R.pos p ≤ R.C.length := by omega
  refine wD (RC.ends (R.add1 p c) (.inr rfl) rfl rfl rfl rfl rfl ?_ ?_ ?_ ?_ ?_ ?_ ?_ ?_)
  · rw [hok]
  · rw [RC.add, if_pos hok]
  · simp only [RC.add1, List.length_append, List.length_take, List.length_cons, List.length_drop]; omega
  · simp only [RC.add1, List.length_append, List.length_take, List.length_cons, List.length_drop]; omega
  · simp only [RC.add1, List.length_append, List.length_take, List.length_cons, List.length_drop]; omega
  · simp only [RC.add1, List.length_append, List.length_take, List.length_cons, List.length_drop]; omega
  · intro i hi
    simp only [RC.add1, List.length_append, List.length_take, List.length_cons, List.length_drop] at hi
    exact insRowF Pt.cells default R.P (R.pos p) hpl p i (by omega)
  · intro i hi
    simp only [RC.add1, List.length_append, List.length_take, List.length_cons, List.length_drop] at hi
    exact insRowF Coin.cells default R.C (R.pos p) hkC c i (by omega)
end Go.Proofs.YtmoohekgheoliaaGreatDoor
namespace Go.Proofs.YtmoohekgheoliaaGreatDoor
set_option maxRecDepth 100000
open Go.Sx
def and7 (n : Int) : Int := bitI .and .i64 n 7
def seedU (n : Int) : H8 := ⟨117, byteI (IntKind.u8.wrap (and7 n)), 0, 0, 0, 0, 0, 0⟩
theorem seedU_x (n : Int) : (seedU n).x = .agg [.raw (.int .u8 117), .raw (.int .u8 (IntKind.u8.wrap (bitI .and .i64 n 7))), .raw (.int .u8 0), .raw (.int .u8 0), .raw (.int .u8 0), .raw (.int .u8 0), .raw (.int .u8 0), .raw (.int .u8 0)] := by
  show CV.agg [.raw (.int .u8 117), .raw (u8 (byteI (IntKind.u8.wrap (and7 n)))), .raw (.int .u8 0), .raw (.int .u8 0), .raw (.int .u8 0), .raw (.int .u8 0), .raw (.int .u8 0), .raw (.int .u8 0)] = _
  rw [u8_byteI]; rfl
theorem lend_plainE {M : Mem} {rd : List Nat} {c c' : CV} (e : c' = c) (hc : c.ok (fun _ => false) = true) : Lends M rd c (.plain c') := by
  subst e; exact lend_plain hc
def ownerH (n : Int) : H8 := treeH (seedU n)
theorem owner_can (n : Int) : Reads Tryz.prog 25 [.plain (.one (.raw (.int .i64 n)))] [] (hashX (ownerH n)) := by
  refine Reads.of Tryz.T_ok Tryz.func25 rfl _ _ _ rfl rfl (fun C hC => ?_)
  (replace hC : C.n0 = 1 := hC; change Tri _ _ _ ⟨_, _, 1⟩ _)
  refine Tri.of Tryz.mixed Tryz.T_ok ?_
  (refine wBegin ?_; ((conv => arg 5; whnf); repeat ((with_reducible first | refine xT ?_ | refine xF ?_ | refine xO ?_ | refine xN ?_ | refine xU ?_ | refine xV ?_); conv => arg 5; whnf)))
  (apply wP; exact (call_op rfl (entersB_of Tryz.func48 (by kernel_rfl)) rfl ((tree_can (seedU n)).at [] ⟨lend_plainE (seedU_x n) rfl, trivial⟩ trivial)); ((conv => arg 5; whnf); repeat ((with_reducible first | refine xT ?_ | refine xF ?_ | refine xO ?_ | refine xN ?_ | refine xU ?_ | refine xV ?_); conv => arg 5; whnf)))
  exact wD (Ends.plain (.inr rfl) rfl rfl)
theorem wrap_bounds (n : Int) : -2 ^ 63 ≤ IntKind.i64.wrap n ∧ IntKind.i64.wrap n < 2 ^ 63 := by
  rw [IntKind.wrap_i64]; omega
def ptOf (n : Int) : Pt := ⟨⟨116, byteI (IntKind.u8.wrap (shrI .i64 n 8)), 0, 0, 0, 0, 0, 0⟩, Int64.ofInt (bitI .and .i64 n 255)⟩
theorem ptOf_x (n : Int) : (ptOf n).cv = .agg [.raw (.int .u8 116), .raw (.int .u8 (IntKind.u8.wrap (shrI .i64 n 8))), .raw (.int .u8 0), .raw (.int .u8 0), .raw (.int .u8 0), .raw (.int .u8 0), .raw (.int .u8 0), .raw (.int .u8 0), .raw (.int .i64 (bitI .and .i64 n 255))] := by
  show CV.agg [.raw (.int .u8 116), .raw (u8 (byteI (IntKind.u8.wrap (shrI .i64 n 8)))), .raw (.int .u8 0), .raw (.int .u8 0), .raw (.int .u8 0), .raw (.int .u8 0), .raw (.int .u8 0), .raw (.int .u8 0), .raw (.int .i64 (Int64.ofInt (bitI .and .i64 n 255)).toInt)] = _
  have hb : -2 ^ 63 ≤ bitI .and .i64 n 255 ∧ bitI .and .i64 n 255 < 2 ^ 63 := wrap_bounds _
  rw [u8_byteI, Int64.toInt_ofInt_of_le hb.1 hb.2]
theorem point_can (n : Int) : Reads Tryz.prog 24 [.plain (.one (.raw (.int .i64 n)))] [] (.cv (ptOf n).cv) := by
  refine Reads.of Tryz.T_ok Tryz.func24 rfl _ _ _ rfl rfl (fun C hC => ?_)
  (replace hC : C.n0 = 1 := hC; change Tri _ _ _ ⟨_, _, 1⟩ _)
  refine Tri.of Tryz.mixed Tryz.T_ok ?_
  (refine wBegin ?_; ((conv => arg 5; whnf); repeat ((with_reducible first | refine xT ?_ | refine xF ?_ | refine xO ?_ | refine xN ?_ | refine xU ?_ | refine xV ?_); conv => arg 5; whnf)))
  exact wD (Ends.plain (.inr rfl) rfl (congrArg XV.cv (ptOf_x n).symm))
structure LCoin where
  who : Int64
  amt : Int64
  height : Int64
  base : Bool
  deriving DecidableEq, Inhabited
def LCoin.cells (c : LCoin) : List Value := [i64 c.who, i64 c.amt, i64 c.height, .bool c.base]
def coinsF (l : List LCoin) := rowOf LCoin.cells l
structure PlanM where
  ins : List UInt8
  outs : List LCoin
  fwds : List FwdM
  bend : UInt8
def PlanM.ac (p : PlanM) : List AC := [.row 1 p.ins.length (rowB p.ins), .row 4 p.outs.length (coinsF p.outs), .row 11 p.fwds.length (fwdsF p.fwds), .raw (u8 p.bend)]
end Go.Proofs.YtmoohekgheoliaaGreatDoor
namespace Go.Proofs.YtmoohekgheoliaaGreatDoor
set_option maxRecDepth 100000
open Go.Sx
def LCoin.coin (c : LCoin) : Coin := ⟨ownerH c.who.toInt, c.amt, c.height, c.base⟩
structure FillM where
  S : USet
  R : RC
  I : List LCoin
def fillStep (f : FillM) (c : LCoin) : FillM := ⟨f.S.add (ptOf (f.I.length : Int)) c.coin, f.R.add (ptOf (f.I.length : Int)) c.coin, if f.R.okB (ptOf (f.I.length : Int)) c.coin = true then f.I ++ [c] else f.I⟩
def fill0 : FillM := ⟨USet.empty, RC.empty, []⟩
def fillN (l : List LCoin) : Nat → FillM
  | 0 => fill0
  | i + 1 => fillStep (fillN l i) (l.getD i default)
theorem uadd_len (S : USet) (p : Pt) (c : Coin) : (S.add p c).steps.length ≤ S.steps.length + 1 := by
  unfold USet.add
  split
  · simp [USet.add1]
  · omega
theorem radd_len (R : RC) (p : Pt) (c : Coin) (h : R.P.length = R.C.length) : (R.add p c).P.length = (R.add p c).C.length ∧ (R.add p c).P.length ≤ R.P.length + 1 := by
  unfold RC.add
  split
  · simp only [RC.add1, List.length_append, List.length_cons, List.length_take, List.length_drop]
    have : R.pos p ≤ R.P.length := posIn_le p R.P
    omega
  · exact ⟨h, by omega⟩
theorem fillN_len (l : List LCoin) : ∀ i, (fillN l i).S.steps.length ≤ i ∧ (fillN l i).R.P.length = (fillN l i).R.C.length ∧ (fillN l i).R.P.length ≤ i ∧ (fillN l i).I.length ≤ i
  | 0 => ⟨Nat.le_refl _, rfl, Nat.le_refl _, Nat.le_refl _⟩
  | i + 1 => by
    obtain ⟨h1, h2, h3, h4⟩ := fillN_len l i
    have a1 := uadd_len (fillN l i).S (ptOf ((fillN l i).I.length : Int)) (l.getD i default).coin
    have a2 := radd_len (fillN l i).R (ptOf ((fillN l i).I.length : Int)) (l.getD i default).coin h2
    refine ⟨?_, a2.1, ?_, ?_⟩
    · show ((fillN l i).S.add _ _).steps.length ≤ _; omega
    · show ((fillN l i).R.add _ _).P.length ≤ _; omega
    · show (if (fillN l i).R.okB _ _ = true then (fillN l i).I ++ [l.getD i default] else (fillN l i).I).length ≤ _
      split
      · rw [List.length_append]; simp only [List.length_cons, List.length_nil]; omega
      · omega
def fillPack (f : FillM) : List Chunk := [.abs (usetP f.S), .abs (rcP f.R), .vec 79 4 f.I.length (coinsF f.I)]
def fillX (n : Nat) : XV := .tup [.one (.inn 0 0), .one (.inn 0 1), .one (.ins 0 3 2 n)]
def fill12St (l : List LCoin) (i : Nat) : St :=
  ⟨[some (XV.sv (.slc 0 4 0 l.length)), none, none, none, none, some (XV.sv (.ptr 1 0 0 0)), some (XV.sv (.ptr 2 0 0 0)), some (XV.sv (.slc 3 4 0 (fillN l i).I.length)), some (XV.int .i64 i)] ++ List.replicate 60 none,
   [(0, .ro 4 l.length (coinsF l)), (1, .abs (usetP (fillN l i).S)), (2, .abs (rcP (fillN l i).R)), (3, .vec 79 4 (fillN l i).I.length (coinsF (fillN l i).I))], 4⟩
theorem coins_snoc {l : List LCoin} {c : LCoin} {g : Nat → List Value} {k : Nat} (hg : g 0 = c.cells) (hk : k < l.length + 1) : joinF (coinsF l) l.length g k = coinsF (l ++ [c]) k := by
  simp only [joinF, nblt]
  by_cases h : k < l.length
  · simp [h, coinsF, rowOf, List.getD_eq_getElem?_getD, List.getElem?_append_left h]
  · obtain rfl : k = l.length := by omega
    simp [coinsF, rowOf, hg]
set_option maxHeartbeats 4000000 in
theorem fill_can (l : List LCoin) (hl : l.length ≤ 1000) : Makes Tryz.prog 11 [.row 4 l.length (coinsF l)] [] (fillX (fillN l l.length).I.length) (.abs (PackP (fillPack (fillN l l.length)))) := by
  refine Makes.of Tryz.T_ok Tryz.func11 rfl _ _ _ _ rfl rfl rfl rfl 18 (fun C hC => ?_)
  (replace hC : C.n0 = 1 := hC; change Tri _ _ _ ⟨_, _, 1⟩ _)
  (refine Tri.cut 3 Tryz.mixed Tryz.T_ok ?_; ((conv => arg 5; whnf); repeat ((with_reducible first | refine xT ?_ | refine xF ?_ | refine xO ?_ | refine xN ?_ | refine xU ?_ | refine xV ?_); conv => arg 5; whnf)))
  (apply wP; exact (call_op rfl (entersB_of Tryz.func28 (by kernel_rfl)) rfl (new_spec)); ((conv => arg 5; whnf); repeat ((with_reducible first | refine xT ?_ | refine xF ?_ | refine xO ?_ | refine xN ?_ | refine xU ?_ | refine xV ?_); conv => arg 5; whnf)))
  refine wD <| cutG <| Tri.ent (Ent.trans (Ent.nilc (c := 6) (e := 75) (cs := [.raw (.slice none 0 0), .raw (.slice none 0 0)]) (j := 0) rfl rfl 60 9)
    (Ent.trans (Ent.nilc (c := 6) (e := 75) (cs := [.slc 10 9 0 0, .raw (.slice none 0 0)]) (j := 1) rfl rfl 97 11)
    (Ent.trans (Ent.shut3 (i0 := 6) (i1 := 10) (i2 := 11) (M := RC.empty.mem) (inv := True) rfl trivial rfl rfl rfl rfl rfl rfl rfl rfl ⟨rfl, rfl⟩ ⟨rfl, rfl, Nat.le_refl _, fun i hi => absurd hi (Nat.not_lt_zero i)⟩ ⟨rfl, rfl, Nat.le_refl _, fun i hi => absurd hi (Nat.not_lt_zero i)⟩)
    (Ent.nils (t := 7) rfl 79 4)))) <| Tri.seq ?_
  (refine Tri.cut 1 Tryz.mixed Tryz.T_ok ?_; ((conv => arg 5; whnf); repeat ((with_reducible first | refine xT ?_ | refine xF ?_ | refine xO ?_ | refine xN ?_ | refine xU ?_ | refine xV ?_); conv => arg 5; whnf)))
  refine wD <| cutG <| Tri.block ?_
  refine Tri.loop (α := { i : Nat // i ≤ l.length }) (fun i => fill12St l i.1) (fun i => l.length - i.1) ⟨0, Nat.zero_le _⟩ ?_ ?_
  · dsimp only
    unfold fill12St
    ((try dsimp only); refine Ent.renC [0, 4, 6, 12] hC ?_ ?_ <;> repeat' (first | exact trivial | exact rfl | exact ⟨_, rfl, rfl, rfl, Nat.le_refl _, fun _ _ => rfl⟩ | exact ⟨_, rfl, rfl, rfl, fun _ _ => rfl⟩ | exact ⟨_, rfl, rfl, rfl⟩ | exact ⟨_, rfl, rfl⟩ | refine ⟨_, rfl, rfl, rfl, by omega, fun k hk => ?_⟩ | refine ⟨?_, ?_⟩ | fail))
    · exact Nat.le_refl _
    · exact fun k hk => absurd hk (Nat.not_lt_zero _)
  rintro ⟨i, hi⟩
  dsimp only
  obtain ⟨b1, b2, b3, b4⟩ := fillN_len l i
  (refine Tri.cut 1 Tryz.mixed Tryz.T_ok ?_; ((conv => arg 5; whnf); repeat ((with_reducible first | refine xT ?_ | refine xF ?_ | refine xO ?_ | refine xN ?_ | refine xU ?_ | refine xV ?_); conv => arg 5; whnf)))
  refine wC (fun h1 => ?_) (fun h1 => ?_)
  · (refine wGo ?_; ((conv => arg 5; whnf); repeat ((with_reducible first | refine xT ?_ | refine xF ?_ | refine xO ?_ | refine xN ?_ | refine xU ?_ | refine xV ?_); conv => arg 5; whnf)))
    have h1' : i < l.length := (by (try simp only [ww1, ww2, ww3, ww4, ww5, ww6, ww7] at *); omega)
    have hw : IntKind.i64.wrap ((i : Int) + 1) = ((i + 1 : Nat) : Int) := (by (try simp only [ww1, ww2, ww3, ww4, ww5, ww6, ww7] at *); omega)
    have hst : fillN l (i + 1) = fillStep (fillN l i) (l.getD i default) := rfl
    obtain ⟨F, hF⟩ : ∃ F, fillN l i = F := ⟨_, rfl⟩
    rw [hF] at b1 b2 b3 b4 hst
    obtain ⟨c, hc⟩ : ∃ c, l.getD i default = c := ⟨_, rfl⟩
    refine wD <| cutG <| Tri.seq <| Tri.block <| Tri.of Tryz.mixed Tryz.T_ok ?_
    simp only [hF]
    (refine wBegin ?_; ((conv => arg 5; whnf); repeat ((with_reducible first | refine xT ?_ | refine xF ?_ | refine xO ?_ | refine xN ?_ | refine xU ?_ | refine xV ?_); conv => arg 5; whnf)))
    (repeat (refine wN ?_ ?_; exact (by (try simp only [ww1, ww2, ww3, ww4, ww5, ww6, ww7] at *); omega); refine wGo ?_; ((conv => arg 5; whnf); repeat ((with_reducible first | refine xT ?_ | refine xF ?_ | refine xO ?_ | refine xN ?_ | refine xU ?_ | refine xV ?_); conv => arg 5; whnf))))
    simp only [Nat.zero_add, Int.toNat_natCast]
    (apply wP; exact (call_op rfl (entersB_of Tryz.func25 (by kernel_rfl)) rfl ((owner_can (l.getD i default).who.toInt).at [] ⟨lend_plain rfl, trivial⟩ trivial)); ((conv => arg 5; whnf); repeat ((with_reducible first | refine xT ?_ | refine xF ?_ | refine xO ?_ | refine xN ?_ | refine xU ?_ | refine xV ?_); conv => arg 5; whnf)))
    (repeat (refine wN ?_ ?_; exact (by (try simp only [ww1, ww2, ww3, ww4, ww5, ww6, ww7] at *); omega); refine wGo ?_; ((conv => arg 5; whnf); repeat ((with_reducible first | refine xT ?_ | refine xF ?_ | refine xO ?_ | refine xN ?_ | refine xU ?_ | refine xV ?_); conv => arg 5; whnf))))
    simp only [Nat.zero_add, Int.toNat_natCast]
    (apply wP; exact (call_op rfl (entersB_of Tryz.func24 (by kernel_rfl)) rfl ((point_can (F.I.length : Int)).at [] ⟨lend_plain rfl, trivial⟩ trivial)); ((conv => arg 5; whnf); repeat ((with_reducible first | refine xT ?_ | refine xF ?_ | refine xO ?_ | refine xN ?_ | refine xU ?_ | refine xV ?_); conv => arg 5; whnf)))
    (apply wP; exact (call_op rfl (entersB_of Tryz.func30 (by kernel_rfl)) rfl (lawCoin_spec (l.getD i default).coin _ _)); ((conv => arg 5; whnf); repeat ((with_reducible first | refine xT ?_ | refine xF ?_ | refine xO ?_ | refine xN ?_ | refine xU ?_ | refine xV ?_); conv => arg 5; whnf)))
    (apply wP; exact (call_op rfl (entersB_of Tryz.func29 (by kernel_rfl)) rfl (uadd_spec F.S (ptOf (F.I.length : Int)) (l.getD i default).coin (by omega) rfl rfl)); ((conv => arg 5; whnf); repeat ((with_reducible first | refine xT ?_ | refine xF ?_ | refine xO ?_ | refine xN ?_ | refine xU ?_ | refine xV ?_); conv => arg 5; whnf)))
    (apply wP; exact (call_op rfl (entersB_of Tryz.func24 (by kernel_rfl)) rfl ((point_can (F.I.length : Int)).at [] ⟨lend_plain rfl, trivial⟩ trivial)); ((conv => arg 5; whnf); repeat ((with_reducible first | refine xT ?_ | refine xF ?_ | refine xO ?_ | refine xN ?_ | refine xU ?_ | refine xV ?_); conv => arg 5; whnf)))
    (apply wP; exact (call_op rfl (entersB_of Tryz.func31 (by kernel_rfl)) rfl (rcAdd_spec F.R (ptOf (F.I.length : Int)) (l.getD i default).coin b2 (by omega) rfl rfl)); ((conv => arg 5; whnf); repeat ((with_reducible first | refine xT ?_ | refine xF ?_ | refine xO ?_ | refine xN ?_ | refine xU ?_ | refine xV ?_); conv => arg 5; whnf)))
    refine wC (fun h2 => ?_) (fun h2 => ?_)
    · (refine wGo ?_; ((conv => arg 5; whnf); repeat ((with_reducible first | refine xT ?_ | refine xF ?_ | refine xO ?_ | refine xN ?_ | refine xU ?_ | refine xV ?_); conv => arg 5; whnf)))
      (repeat (refine wN ?_ ?_; exact (by (try simp only [ww1, ww2, ww3, ww4, ww5, ww6, ww7] at *); omega); refine wGo ?_; ((conv => arg 5; whnf); repeat ((with_reducible first | refine xT ?_ | refine xF ?_ | refine xO ?_ | refine xN ?_ | refine xU ?_ | refine xV ?_); conv => arg 5; whnf))))
      simp only [Nat.zero_add, Int.toNat_natCast]
      (refine wP _ _ (append_op Tryz.T_ok rfl rfl rfl rfl rfl [3, 55] (old_vec rfl rfl (Nat.le_refl _) rfl) (new_vec (lo := 0) rfl rfl (Nat.le_refl _) rfl) rfl (lt1 rfl) (by simp only [maxLen]; omega) (by dsimp only; omega)) ?_; ((conv => arg 5; whnf); repeat ((with_reducible first | refine xT ?_ | refine xF ?_ | refine xO ?_ | refine xN ?_ | refine xU ?_ | refine xV ?_); conv => arg 5; whnf)))
      refine wD <| blockN <| cutG <| Tri.of Tryz.mixed Tryz.T_ok ?_
      (refine wBegin ?_; ((conv => arg 5; whnf); repeat ((with_reducible first | refine xT ?_ | refine xF ?_ | refine xO ?_ | refine xN ?_ | refine xU ?_ | refine xV ?_); conv => arg 5; whnf)))
      refine wD <| loopN ⟨⟨i + 1, h1'⟩, by dsimp only; omega, ?_⟩
      rw [hw]
      dsimp only
      unfold fill12St
      rw [hst, fillStep, if_pos h2, List.length_append]
      ((try dsimp only); refine Ent.renC [0, 1, 2, 56] hC ?_ ?_ <;> repeat' (first | exact trivial | exact rfl | exact ⟨_, rfl, rfl, rfl, Nat.le_refl _, fun _ _ => rfl⟩ | exact ⟨_, rfl, rfl, rfl, fun _ _ => rfl⟩ | exact ⟨_, rfl, rfl, rfl⟩ | exact ⟨_, rfl, rfl⟩ | refine ⟨_, rfl, rfl, rfl, by omega, fun k hk => ?_⟩ | refine ⟨?_, ?_⟩ | fail))
      · exact Nat.le_refl _
      exact fun k hk => coins_snoc rfl hk
    · (refine wGo ?_; ((conv => arg 5; whnf); repeat ((with_reducible first | refine xT ?_ | refine xF ?_ | refine xO ?_ | refine xN ?_ | refine xU ?_ | refine xV ?_); conv => arg 5; whnf)))
      refine wD <| blockN <| cutG <| Tri.of Tryz.mixed Tryz.T_ok ?_
      (refine wBegin ?_; ((conv => arg 5; whnf); repeat ((with_reducible first | refine xT ?_ | refine xF ?_ | refine xO ?_ | refine xN ?_ | refine xU ?_ | refine xV ?_); conv => arg 5; whnf)))
      refine wD <| loopN ⟨⟨i + 1, h1'⟩, by dsimp only; omega, ?_⟩
      rw [hw]
      dsimp only
      unfold fill12St
      rw [hst, fillStep, if_neg (by rw [h2]; simp)]
      ((try dsimp only); refine Ent.renC [0, 1, 2, 3] hC ?_ ?_ <;> repeat' (first | exact trivial | exact rfl | exact ⟨_, rfl, rfl, rfl, Nat.le_refl _, fun _ _ => rfl⟩ | exact ⟨_, rfl, rfl, rfl, fun _ _ => rfl⟩ | exact ⟨_, rfl, rfl, rfl⟩ | exact ⟨_, rfl, rfl⟩ | refine ⟨_, rfl, rfl, rfl, by omega, fun k hk => ?_⟩ | refine ⟨?_, ?_⟩ | fail))
  · (refine wGo ?_; ((conv => arg 5; whnf); repeat ((with_reducible first | refine xT ?_ | refine xF ?_ | refine xO ?_ | refine xN ?_ | refine xU ?_ | refine xV ?_); conv => arg 5; whnf)))
    have h1' : i = l.length := (by (try simp only [ww1, ww2, ww3, ww4, ww5, ww6, ww7] at *); omega)
    subst h1'
    refine wD <| cutE <| loopX <| blockX <| cutG <| Tri.of Tryz.mixed Tryz.T_ok ?_
    (refine wBegin ?_; ((conv => arg 5; whnf); repeat ((with_reducible first | refine xT ?_ | refine xF ?_ | refine xO ?_ | refine xN ?_ | refine xU ?_ | refine xV ?_); conv => arg 5; whnf)))
    refine wD (Ends.made (.inr rfl) (Ent.pack [1, 2, 3] (fillPack (fillN l l.length)) (by decide) rfl rfl (fun j i ch hi hj => ?_)) rfl (Nat.le_of_ble_eq_true rfl) rfl)
    rcases j with _ | _ | _ | j
    · cases hi; cases hj; exact ⟨_, rfl, ChLe.refl _ rfl⟩
    · cases hi; cases hj; exact ⟨_, rfl, ChLe.refl _ rfl⟩
    · cases hi; cases hj; exact ⟨_, rfl, ChLe.refl _ rfl⟩
    · cases hi
end Go.Proofs.YtmoohekgheoliaaGreatDoor

/- The reference's coins laid open: functions that only read them. -/
import Derived.Test.YtfdmlpdhngmbiaaUh
namespace Go.Proofs.Ytfdmlpdhngmbiaa
open Go.Sx

def RC.root (R : RC) (i1 i2 : Nat) : Chunk := .cells 55 [.slc i1 9 0 R.P.length, .slc i2 11 0 R.C.length]
def RC.vecP (R : RC) : Chunk := .vec 36 9 R.P.length fun i => (R.P.getD i default).cells
def RC.vecC (R : RC) : Chunk := .vec 40 11 R.C.length fun i => (R.C.getD i default).cells

theorem RC.mem_get {R : RC} {i : Nat} {ch : Chunk} (h : R.mem.get i = some ch) : (i = 0 ∧ ch = R.root 1 2) ∨ (i = 1 ∧ ch = R.vecP) ∨ (i = 2 ∧ ch = R.vecC) := by
  simp only [RC.mem, Mem.get, nbeq] at h
  by_cases h0 : 0 = i
  · subst h0; simp at h; exact .inl ⟨rfl, h.symm⟩
  · by_cases h1 : 1 = i
    · subst h1; simp at h; exact .inr (.inl ⟨rfl, h.symm⟩)
    · by_cases h2 : 2 = i
      · subst h2; simp at h; exact .inr (.inr ⟨rfl, h.symm⟩)
      · simp [h0, h1, h2] at h

theorem rc_reads {f : FuncId} {fn : Func} {body : Code} (hf : Try.prog.funcs[f]? = some fn) (hb : fn.body = some body) (R : RC) (Xl : List CV) (X : XV) (hXl : Xl.all (CV.ok fun _ => false) = true) (hX : X.ok (fun _ => false) = true) {M : Mem} {c i1 i2 d : Nat}
    (k0 : M.get c = some (R.root i1 i2)) (k1 : M.get i1 = some R.vecP) (k2 : M.get i2 = some R.vecC) (hdist : (Nat.beq c i1 || Nat.beq c i2 || Nat.beq i1 i2) = false) (hd : (Nat.beq d c || Nat.beq d i1 || Nat.beq d i2) = false)
    (h : ∀ C : Ctx, C.n0 = 3 → Tri Try.prog C body ⟨slots0 fn.ntmps (.cv (.one (.ptr 0 0 0 0)) :: Xl.map .cv), R.mem, 3⟩ (Sx.Ends C Try.T fn.results.toList 3 3 ⟨X, R.mem, none⟩)) :
    CallSpec Try.prog f (.one (.ptr c 0 0 0) :: Xl) M d { v := X, upd := [(c, R.root i1 i2), (i1, R.vecP), (i2, R.vecC)], wr := [c, i1, i2] } [c, i1, i2] := by
  simp only [Bool.or_eq_false_iff, nbeq, decide_eq_false_iff_not] at hdist hd
  obtain ⟨⟨n1, n2⟩, n3⟩ := hdist
  obtain ⟨⟨m1, m2⟩, m3⟩ := hd
  refine spec_of_open (ids := [c, i1, i2]) (rids := []) (k1 := 3) (n0 := 3) (Xl := .one (.ptr 0 0 0 0) :: Xl) (M0 := R.mem) (out := ⟨X, R.mem, none⟩) Try.T_ok hf hb (by simp [n1, n2, n3]) rfl rfl (by simp [m1, m2, m3]) ?_ (fun i ch hi => ?_) (fun i ch hi => ?_) (fun i ch hi => by cases hi) (XV.ok_mono (fun _ h => by cases h) hX) h ?_ (XV.ren_closed hX).symm rfl (fun q ch hq => ?_)
  · simp only [List.all_cons, Bool.and_eq_true]
    refine ⟨by simp [CV.ok, SV.ok], ?_⟩
    simp only [List.all_eq_true] at hXl ⊢
    exact fun s hs => CV.ok_mono (fun _ h => by cases h) (hXl s hs)
  · rcases RC.mem_get hi with ⟨rfl, rfl⟩ | ⟨rfl, rfl⟩ | ⟨rfl, rfl⟩
    · exact ⟨by decide, rfl, fun h => by omega, fun ci hci => by simp at hci; subst hci; exact k0⟩
    · exact ⟨by decide, rfl, fun h => by omega, fun ci hci => by simp at hci; subst hci; exact k1⟩
    · exact ⟨by decide, rfl, fun h => by omega, fun ci hci => by simp at hci; subst hci; exact k2⟩
  · rcases RC.mem_get hi with ⟨rfl, rfl⟩ | ⟨rfl, rfl⟩ | ⟨rfl, rfl⟩ <;> exact ⟨rfl, rfl⟩
  · simp only [List.map_cons, CVs.ren_closed hXl]
    rfl
  · simp only [Mem.get, nbeq] at hq
    by_cases e0 : c = q
    · subst e0; simp at hq; subst hq; exact ⟨R.root 1 2, rfl, .inl ⟨0, rfl, rfl⟩⟩
    · by_cases e1 : i1 = q
      · subst e1; simp [e0] at hq; subst hq; exact ⟨R.vecP, rfl, .inl ⟨1, rfl, rfl⟩⟩
      · by_cases e2 : i2 = q
        · subst e2; simp [e0, e1] at hq; subst hq; exact ⟨R.vecC, rfl, .inl ⟨2, rfl, rfl⟩⟩
        · simp [e0, e1, e2] at hq
def RC.sumN (R : RC) : Nat → Int
  | 0 => 0
  | i + 1 => IntKind.i64.wrap (R.sumN i + (R.C.getD i default).amt.toInt)

def rcTotalSt (R : RC) (i : Nat) : St := ⟨[some (XV.sv (.ptr 0 0 0 0)), none, none, some (XV.int .i64 (R.sumN i)), some (XV.int .i64 i)] ++ List.replicate 21 none, R.mem, 3⟩

set_option maxHeartbeats 1000000 in
set_option maxRecDepth 100000 in
theorem rcTotal_spec (R : RC) (hlen : R.C.length < 1000000) {M : Mem} {c i1 i2 d : Nat} (k0 : M.get c = some (R.root i1 i2)) (k1 : M.get i1 = some R.vecP) (k2 : M.get i2 = some R.vecC) (hdist : (Nat.beq c i1 || Nat.beq c i2 || Nat.beq i1 i2) = false) (hd : (Nat.beq d c || Nat.beq d i1 || Nat.beq d i2) = false) :
    CallSpec Try.prog 29 [.one (.ptr c 0 0 0)] M d { v := XV.int .i64 (R.sumN R.C.length), upd := [(c, R.root i1 i2), (i1, R.vecP), (i2, R.vecC)], wr := [c, i1, i2] } [c, i1, i2] := by
  refine rc_reads Try.func29 rfl R [] _ rfl rfl k0 k1 k2 hdist hd (fun C hC => ?_)
  have hC0 : ∀ i, i < C.n0 → ([0, 1, 2] : List Nat)[i]? = some i := fun i hi => by
    rw [hC] at hi
    match i, hi with
    | 0, _ => rfl
    | 1, _ => rfl
    | 2, _ => rfl
  have hC1 : C.n0 ≤ 3 := by rw [hC]; decide
  (refine Tri.cut 2 Try.mixed Try.T_ok ?_; ((conv => arg 5; whnf); repeat ((first | (with_reducible refine wT ?_) | (with_reducible refine wF ?_) | (with_reducible refine wO (by kernel_rfl) ?_)); refine wGo ?_; (conv => arg 5; whnf))))
  refine wD <| cutG <| Tri.seq ?_
  (refine Tri.cut 1 Try.mixed Try.T_ok ?_; ((conv => arg 5; whnf); repeat ((first | (with_reducible refine wT ?_) | (with_reducible refine wF ?_) | (with_reducible refine wO (by kernel_rfl) ?_)); refine wGo ?_; (conv => arg 5; whnf))))
  refine wD <| cutG <| Tri.block ?_
  refine Tri.loop (α := { i : Nat // i ≤ R.C.length }) (fun i => rcTotalSt R i.1) (fun i => R.C.length - i.1) ⟨0, Nat.zero_le _⟩ ?_ ?_
  · exact Ent.ren [0, 1, 2] (by decide) rfl hC0 hC1 rfl ⟨rfl, rfl, rfl, trivial⟩ ⟨⟨_, rfl, rfl, rfl⟩, ⟨_, rfl, rfl, rfl, Nat.le_refl _, fun _ _ => rfl⟩, ⟨_, rfl, rfl, rfl, Nat.le_refl _, fun _ _ => rfl⟩, trivial⟩
  rintro ⟨i, hi⟩
  dsimp only
  (refine Tri.cut 1 Try.mixed Try.T_ok ?_; ((conv => arg 5; whnf); repeat ((first | (with_reducible refine wT ?_) | (with_reducible refine wF ?_) | (with_reducible refine wO (by kernel_rfl) ?_)); refine wGo ?_; (conv => arg 5; whnf))))
  refine wC (fun h1 => ?_) (fun h1 => ?_)
  · (refine wGo ?_; ((conv => arg 5; whnf); repeat ((first | (with_reducible refine wT ?_) | (with_reducible refine wF ?_) | (with_reducible refine wO (by kernel_rfl) ?_)); refine wGo ?_; (conv => arg 5; whnf))))
    have h1' : i < R.C.length := by simp only [decide_eq_true_eq] at h1; omega
    refine wD <| cutG <| Tri.seq <| Tri.block <| Tri.of Try.mixed Try.T_ok ?_
    (refine wBegin ?_; ((conv => arg 5; whnf); repeat ((first | (with_reducible refine wT ?_) | (with_reducible refine wF ?_) | (with_reducible refine wO (by kernel_rfl) ?_)); refine wGo ?_; (conv => arg 5; whnf))))
    refine wN ⟨by omega, by omega⟩ ?_
    (refine wGo ?_; ((conv => arg 5; whnf); repeat ((first | (with_reducible refine wT ?_) | (with_reducible refine wF ?_) | (with_reducible refine wO (by kernel_rfl) ?_)); refine wGo ?_; (conv => arg 5; whnf))))
    refine wN (by omega) ?_
    (refine wGo ?_; ((conv => arg 5; whnf); repeat ((first | (with_reducible refine wT ?_) | (with_reducible refine wF ?_) | (with_reducible refine wO (by kernel_rfl) ?_)); refine wGo ?_; (conv => arg 5; whnf))))
    refine wD <| blockN <| cutG <| Tri.of Try.mixed Try.T_ok ?_
    (refine wBegin ?_; ((conv => arg 5; whnf); repeat ((first | (with_reducible refine wT ?_) | (with_reducible refine wF ?_) | (with_reducible refine wO (by kernel_rfl) ?_)); refine wGo ?_; (conv => arg 5; whnf))))
    have hw : IntKind.i64.wrap ((i : Int) + 1) = ((i + 1 : Nat) : Int) := by rw [wrap_i64 (by omega) (by omega)]; omega
    have hg : R.C.getD (0 + ((i : Nat) : Int).toNat) default = R.C.getD i default := by simp
    have hsum : IntKind.i64.wrap (R.sumN i + (R.C.getD (0 + ((i : Nat) : Int).toNat) default).amt.toInt) = R.sumN (i + 1) := by rw [hg]; rfl
    refine wD <| loopN ⟨⟨i + 1, h1'⟩, by dsimp only; omega, ?_⟩
    exact Ent.ren [0, 1, 2] (by decide) rfl hC0 hC1 rfl ⟨rfl, congrArg (fun n : Int => some (XV.int .i64 n)) hsum, congrArg (fun n : Int => some (XV.int .i64 n)) hw, trivial⟩ ⟨⟨_, rfl, rfl, rfl⟩, ⟨_, rfl, rfl, rfl, Nat.le_refl _, fun _ _ => rfl⟩, ⟨_, rfl, rfl, rfl, Nat.le_refl _, fun _ _ => rfl⟩, trivial⟩
  · (refine wGo ?_; ((conv => arg 5; whnf); repeat ((first | (with_reducible refine wT ?_) | (with_reducible refine wF ?_) | (with_reducible refine wO (by kernel_rfl) ?_)); refine wGo ?_; (conv => arg 5; whnf))))
    have h1' : i = R.C.length := by simp only [decide_eq_false_iff_not] at h1; omega
    subst h1'
    refine wD <| cutE <| loopX <| blockX <| cutG <| Tri.of Try.mixed Try.T_ok ?_
    (refine wBegin ?_; ((conv => arg 5; whnf); repeat ((first | (with_reducible refine wT ?_) | (with_reducible refine wF ?_) | (with_reducible refine wO (by kernel_rfl) ?_)); refine wGo ?_; (conv => arg 5; whnf))))
    refine wD ⟨.inr rfl, _, Ent.refl _, rfl, fun j ch hj => ?_, fun j ch hj => by cases hj⟩
    rcases RC.mem_get hj with ⟨rfl, rfl⟩ | ⟨rfl, rfl⟩ | ⟨rfl, rfl⟩ <;> exact ⟨by decide, rfl⟩

/-- Where a point is, or would be. -/
def posIn (p : Pt) : List Pt → Nat
  | [] => 0
  | q :: r => if ltPt q p = true then posIn p r + 1 else 0
def RC.pos (R : RC) (p : Pt) : Nat := posIn p R.P
def RC.isAt (R : RC) (p : Pt) : Bool := decide (R.pos p < R.P.length) && decide (R.P.getD (R.pos p) default = p)

def rcAtSt (R : RC) (p : Pt) (i : Nat) : St := ⟨[some (XV.sv (.ptr 0 0 0 0)), none, none, some (XV.sv (.ptr 3 0 0 0)), some (XV.int .i64 (0 : Int)), some (XV.bool false), some (XV.int .i64 i)] ++ List.replicate 34 none, R.mem ++ [(3, .cells 36 (p.cells.map .raw))], 4⟩

set_option maxHeartbeats 1000000 in
set_option maxRecDepth 100000 in
theorem rcAt_spec (R : RC) (p : Pt) (hlen : R.P.length < 1000000) {M : Mem} {c i1 i2 d : Nat} (k0 : M.get c = some (R.root i1 i2)) (k1 : M.get i1 = some R.vecP) (k2 : M.get i2 = some R.vecC) (hdist : (Nat.beq c i1 || Nat.beq c i2 || Nat.beq i1 i2) = false) (hd : (Nat.beq d c || Nat.beq d i1 || Nat.beq d i2) = false) :
    CallSpec Try.prog 28 [.one (.ptr c 0 0 0), p.cv] M d { v := .tup [.one (.raw (.int .i64 (R.pos p))), .one (.raw (.bool (R.isAt p)))], upd := [(c, R.root i1 i2), (i1, R.vecP), (i2, R.vecC)], wr := [c, i1, i2] } [c, i1, i2] := by
  refine rc_reads Try.func28 rfl R [p.cv] _ rfl rfl k0 k1 k2 hdist hd (fun C hC => ?_)
  have hC0 : ∀ i, i < C.n0 → ([0, 1, 2, 3] : List Nat)[i]? = some i := fun i hi => by
    rw [hC] at hi
    match i, hi with
    | 0, _ => rfl
    | 1, _ => rfl
    | 2, _ => rfl
  have hC1 : C.n0 ≤ 4 := by rw [hC]; decide
  (refine Tri.cut 1 Try.mixed Try.T_ok ?_; ((conv => arg 5; whnf); repeat ((first | (with_reducible refine wT ?_) | (with_reducible refine wF ?_) | (with_reducible refine wO (by kernel_rfl) ?_)); refine wGo ?_; (conv => arg 5; whnf))))
  refine wD <| cutG <| Tri.seq ?_
  (refine Tri.cut 1 Try.mixed Try.T_ok ?_; ((conv => arg 5; whnf); repeat ((first | (with_reducible refine wT ?_) | (with_reducible refine wF ?_) | (with_reducible refine wO (by kernel_rfl) ?_)); refine wGo ?_; (conv => arg 5; whnf))))
  refine wD <| cutG <| Tri.block ?_
  refine Tri.loop (α := { i : Nat // i ≤ R.P.length ∧ R.pos p = i + posIn p (R.P.drop i) }) (fun i => rcAtSt R p i.1) (fun i => R.P.length - i.1) ⟨0, Nat.zero_le _, by simp [RC.pos]⟩ ?_ ?_
  · exact Ent.ren [0, 1, 2, 3] (by decide) rfl hC0 hC1 rfl ⟨rfl, rfl, rfl, rfl, rfl, trivial⟩ ⟨⟨_, rfl, rfl, rfl⟩, ⟨_, rfl, rfl, rfl, Nat.le_refl _, fun _ _ => rfl⟩, ⟨_, rfl, rfl, rfl, Nat.le_refl _, fun _ _ => rfl⟩, ⟨_, rfl, rfl, rfl⟩, trivial⟩
  rintro ⟨i, hi, hpos⟩
  dsimp only
  (refine Tri.cut 1 Try.mixed Try.T_ok ?_; ((conv => arg 5; whnf); repeat ((first | (with_reducible refine wT ?_) | (with_reducible refine wF ?_) | (with_reducible refine wO (by kernel_rfl) ?_)); refine wGo ?_; (conv => arg 5; whnf))))
  refine wC (fun h1 => ?_) (fun h1 => ?_)
  · (refine wGo ?_; ((conv => arg 5; whnf); repeat ((first | (with_reducible refine wT ?_) | (with_reducible refine wF ?_) | (with_reducible refine wO (by kernel_rfl) ?_)); refine wGo ?_; (conv => arg 5; whnf))))
    have h1' : i < R.P.length := by simp only [decide_eq_true_eq] at h1; omega
    have hdrop : R.P.drop i = R.P.getD i default :: R.P.drop (i + 1) := by
      rw [List.drop_eq_getElem_cons h1']
      simp [List.getD_eq_getElem?_getD, h1']
    have hg : R.P.getD (0 + ((i : Nat) : Int).toNat) default = R.P.getD i default := by simp
    refine wD <| cutG <| Tri.seq <| Tri.block <| Tri.of Try.mixed Try.T_ok ?_
    (refine wBegin ?_; ((conv => arg 5; whnf); repeat ((first | (with_reducible refine wT ?_) | (with_reducible refine wF ?_) | (with_reducible refine wO (by kernel_rfl) ?_)); refine wGo ?_; (conv => arg 5; whnf))))
    refine wN ⟨by omega, by omega⟩ ?_
    (refine wGo ?_; ((conv => arg 5; whnf); repeat ((first | (with_reducible refine wT ?_) | (with_reducible refine wF ?_) | (with_reducible refine wO (by kernel_rfl) ?_)); refine wGo ?_; (conv => arg 5; whnf))))
    refine wN (by omega) ?_
    (refine wGo ?_; ((conv => arg 5; whnf); repeat ((first | (with_reducible refine wT ?_) | (with_reducible refine wF ?_) | (with_reducible refine wO (by kernel_rfl) ?_)); refine wGo ?_; (conv => arg 5; whnf))))
    (refine wP _ _ (call_op rfl (entersB_of Try.func23 (by kernel_rfl)) rfl (lessPoint_spec (R.P.getD (0 + ((i : Nat) : Int).toNat) default) p _ _)) ?_; ((conv => arg 5; whnf); repeat ((first | (with_reducible refine wT ?_) | (with_reducible refine wF ?_) | (with_reducible refine wO (by kernel_rfl) ?_)); refine wGo ?_; (conv => arg 5; whnf))))
    refine wC (fun h2 => ?_) (fun h2 => ?_)
    · (refine wGo ?_; ((conv => arg 5; whnf); repeat ((first | (with_reducible refine wT ?_) | (with_reducible refine wF ?_) | (with_reducible refine wO (by kernel_rfl) ?_)); refine wGo ?_; (conv => arg 5; whnf))))
      refine wN ⟨by omega, by omega⟩ ?_
      (refine wGo ?_; ((conv => arg 5; whnf); repeat ((first | (with_reducible refine wT ?_) | (with_reducible refine wF ?_) | (with_reducible refine wO (by kernel_rfl) ?_)); refine wGo ?_; (conv => arg 5; whnf))))
      refine wN (by omega) ?_
      (refine wGo ?_; ((conv => arg 5; whnf); repeat ((first | (with_reducible refine wT ?_) | (with_reducible refine wF ?_) | (with_reducible refine wO (by kernel_rfl) ?_)); refine wGo ?_; (conv => arg 5; whnf))))
      (refine wP _ _ (eq_op ptE rfl (R.P.getD (0 + ((i : Nat) : Int).toNat) default) p rfl rfl) ?_; ((conv => arg 5; whnf); repeat ((first | (with_reducible refine wT ?_) | (with_reducible refine wF ?_) | (with_reducible refine wO (by kernel_rfl) ?_)); refine wGo ?_; (conv => arg 5; whnf))))
      simp only [Bool.not_eq_true'] at h2
      rw [hg] at h2
      have hp : R.pos p = i := by rw [hpos, hdrop, posIn, if_neg (by rw [h2]; simp)]; rfl
      refine wD <| blockR <| cutR <| loopR <| blockR <| cutR ⟨.inr rfl, _, Ent.refl _, ?_, fun j ch hj => ?_, fun j ch hj => by cases hj⟩
      · have hx : R.isAt p = decide (R.P.getD (0 + ((i : Nat) : Int).toNat) default = p) := by simp only [RC.isAt, hp, hg, h1', decide_true, Bool.true_and]
        rw [hx, hp]
        rfl
      · rcases RC.mem_get hj with ⟨rfl, rfl⟩ | ⟨rfl, rfl⟩ | ⟨rfl, rfl⟩ <;> exact ⟨by decide, rfl⟩
    · (refine wGo ?_; ((conv => arg 5; whnf); repeat ((first | (with_reducible refine wT ?_) | (with_reducible refine wF ?_) | (with_reducible refine wO (by kernel_rfl) ?_)); refine wGo ?_; (conv => arg 5; whnf))))
      simp only [Bool.not_eq_false'] at h2
      rw [hg] at h2
      have hw : IntKind.i64.wrap ((i : Int) + 1) = ((i + 1 : Nat) : Int) := by rw [wrap_i64 (by omega) (by omega)]; omega
      refine wD <| blockN <| cutG <| Tri.of Try.mixed Try.T_ok ?_
      (refine wBegin ?_; ((conv => arg 5; whnf); repeat ((first | (with_reducible refine wT ?_) | (with_reducible refine wF ?_) | (with_reducible refine wO (by kernel_rfl) ?_)); refine wGo ?_; (conv => arg 5; whnf))))
      refine wD <| loopN ⟨⟨i + 1, h1', by rw [hpos, hdrop, posIn, if_pos h2]; omega⟩, by dsimp only; omega, ?_⟩
      exact Ent.ren [0, 1, 2, 3] (by decide) rfl hC0 hC1 rfl ⟨rfl, rfl, rfl, rfl, congrArg (fun n : Int => some (XV.int .i64 n)) hw, trivial⟩ ⟨⟨_, rfl, rfl, rfl⟩, ⟨_, rfl, rfl, rfl, Nat.le_refl _, fun _ _ => rfl⟩, ⟨_, rfl, rfl, rfl, Nat.le_refl _, fun _ _ => rfl⟩, ⟨_, rfl, rfl, rfl⟩, trivial⟩
  · (refine wGo ?_; ((conv => arg 5; whnf); repeat ((first | (with_reducible refine wT ?_) | (with_reducible refine wF ?_) | (with_reducible refine wO (by kernel_rfl) ?_)); refine wGo ?_; (conv => arg 5; whnf))))
    have h1' : i = R.P.length := by simp only [decide_eq_false_iff_not] at h1; omega
    have hp : R.pos p = R.P.length := by rw [hpos, h1', List.drop_length]; rfl
    refine wD <| cutE <| loopX <| blockX <| cutG <| Tri.of Try.mixed Try.T_ok ?_
    (refine wBegin ?_; ((conv => arg 5; whnf); repeat ((first | (with_reducible refine wT ?_) | (with_reducible refine wF ?_) | (with_reducible refine wO (by kernel_rfl) ?_)); refine wGo ?_; (conv => arg 5; whnf))))
    refine wD ⟨.inr rfl, _, Ent.refl _, ?_, fun j ch hj => ?_, fun j ch hj => by cases hj⟩
    · have hx : R.isAt p = false := by simp [RC.isAt, hp]
      rw [hx, hp]
      rfl
    · rcases RC.mem_get hj with ⟨rfl, rfl⟩ | ⟨rfl, rfl⟩ | ⟨rfl, rfl⟩ <;> exact ⟨by decide, rfl⟩
end Go.Proofs.Ytfdmlpdhngmbiaa

/- Parts Px Ur Ui Uj Uk Um Pd Ha. -/
import Derived.Test.YtnpkdoggfnlapaaGreatDoorG13
import Derived.Test.YtnpkdoggfnlapaaGreatDoorG06
import Derived.Test.YtnpkdoggfnlapaaGreatDoorG09
import Derived.Sort.Statements
set_option linter.unusedSimpArgs false
set_option linter.unusedVariables false
namespace Go.Proofs.YtnpkdoggfnlapaaGreatDoor
set_option maxRecDepth 100000
open Go.Lib Go.Sort
def bigL : List UInt8 → Nat
  | [] => 0
  | x :: r => x.toNat * 256 ^ r.length + bigL r
theorem bigL_lt : ∀ l : List UInt8, bigL l < 256 ^ l.length
  | [] => by simp [bigL]
  | x :: r => by
    have := bigL_lt r
    have h := x.toNat_lt
    simp only [bigL, List.length_cons, Nat.pow_succ]
    have : (x.toNat + 1) * 256 ^ r.length ≤ 256 * 256 ^ r.length := Nat.mul_le_mul_right _ (by omega)
    rw [Nat.add_mul, Nat.one_mul] at this
    omega
theorem num_step (x y : UInt8) (m a b : Nat) (ha : a < m) (hb : b < m) : (x.toNat * m + a < y.toNat * m + b ↔ x.toNat < y.toNat ∨ (x = y ∧ a < b)) ∧ (x.toNat * m + a = y.toNat * m + b ↔ x = y ∧ a = b) := by
  rcases Nat.lt_trichotomy x.toNat y.toNat with h | h | h
  · have h1 : (x.toNat + 1) * m ≤ y.toNat * m := Nat.mul_le_mul_right _ h
    rw [Nat.add_mul, Nat.one_mul] at h1
    have hne : x ≠ y := fun e => by rw [e] at h; omega
    exact ⟨⟨fun _ => .inl h, fun _ => by omega⟩, ⟨fun e => by omega, fun e => absurd e.1 hne⟩⟩
  · have e : x = y := UInt8.toNat_inj.1 h
    subst e
    exact ⟨⟨fun h => .inr ⟨rfl, by omega⟩, fun h => by rcases h with h | h <;> omega⟩, ⟨fun h => ⟨rfl, by omega⟩, fun h => by omega⟩⟩
  · have h1 : (y.toNat + 1) * m ≤ x.toNat * m := Nat.mul_le_mul_right _ h
    rw [Nat.add_mul, Nat.one_mul] at h1
    have hne : x ≠ y := fun e => by rw [e] at h; omega
    exact ⟨⟨fun _ => by omega, fun e => by rcases e with e | e; omega; exact absurd e.1 hne⟩, ⟨fun e => by omega, fun e => absurd e.1 hne⟩⟩
theorem bigL_inj : ∀ {a b : List UInt8}, a.length = b.length → bigL a = bigL b → a = b
  | [], [], _, _ => rfl
  | x :: a, y :: b, hl, h => by
    have hl' : a.length = b.length := by simpa using hl
    simp only [bigL, hl'] at h
    obtain ⟨rfl, h2⟩ := (num_step x y _ _ _ (hl' ▸ bigL_lt a) (bigL_lt b)).2.1 h
    rw [bigL_inj hl' h2]
theorem ltL_num : ∀ {a b : List UInt8}, a.length = b.length → (ltL a b = true ↔ bigL a < bigL b)
  | [], [], _ => by simp [ltL, bigL]
  | x :: a, y :: b, hl => by
    have hl' : a.length = b.length := by simpa using hl
    have h := (num_step x y _ _ _ (hl' ▸ bigL_lt a) (bigL_lt b)).1
    simp only [ltL, bigL, hl', h]
    by_cases e : x = y
    · subst e; simp [ltL_num hl']
    · simp [e, UInt8.lt_iff_toNat_lt]
def Pt.num (p : Pt) : Nat := bigL p.tx.l
theorem Pt.num_tx {p q : Pt} : p.num = q.num ↔ p.tx = q.tx := by
  constructor
  · intro h
    have h := bigL_inj (a := p.tx.l) (b := q.tx.l) rfl h
    obtain ⟨⟨_, _, _, _, _, _, _, _⟩, _⟩ := p
    obtain ⟨⟨_, _, _, _, _, _, _, _⟩, _⟩ := q
    simp only [H8.l, List.cons.injEq, and_true] at h
    obtain ⟨rfl, rfl, rfl, rfl, rfl, rfl, rfl, rfl⟩ := h
    rfl
  · intro h; simp only [Pt.num, h]
theorem ltPt_num (p q : Pt) : ltPt p q = true ↔ p.num < q.num ∨ (p.num = q.num ∧ p.no.toInt < q.no.toInt) := by
  unfold ltPt
  simp only [Bool.or_eq_true, Bool.and_eq_true, decide_eq_true_eq, ltL_num (a := p.tx.l) (b := q.tx.l) rfl, Pt.num_tx]
  rfl
theorem ltPt_false (p q : Pt) : ltPt p q = false ↔ ¬ (p.num < q.num ∨ (p.num = q.num ∧ p.no.toInt < q.no.toInt)) := by
  rw [← ltPt_num]; simp
theorem ltPt_swo : SWO ltPt where
  irrefl x := by rw [ltPt_false]; omega
  trans x y z h1 h2 := by rw [ltPt_num] at *; omega
  ntrans x y z h1 h2 := by rw [ltPt_false] at *; omega
theorem Pt.eq_of {p q : Pt} (h1 : p.num = q.num) (h2 : p.no.toInt = q.no.toInt) : p = q := by
  have h1 := Pt.num_tx.1 h1
  have h2 := Int64.toInt_inj.1 h2
  obtain ⟨_, _⟩ := p
  obtain ⟨_, _⟩ := q
  subst h1 h2
  rfl
theorem ltPt_total (x y : Pt) (h1 : ltPt x y = false) (h2 : ltPt y x = false) : x = y := by
  rw [ltPt_false] at *
  exact Pt.eq_of (by omega) (by omega)
def sortPts (l : List Pt) : List Pt := l.mergeSort fun x y => !ltPt y x
theorem lePt_trans (a b c : Pt) (h1 : (!ltPt b a) = true) (h2 : (!ltPt c b) = true) : (!ltPt c a) = true := by
  simp only [Bool.not_eq_true', ltPt_false] at *; omega
theorem lePt_total (a b : Pt) : ((!ltPt b a) || (!ltPt a b)) = true := by
  simp only [Bool.or_eq_true, Bool.not_eq_true', ltPt_false]; omega
theorem sortPts_sorted (l : List Pt) : (sortPts l).Pairwise fun x y => (!ltPt y x) = true := List.pairwise_mergeSort lePt_trans lePt_total l
theorem sortPts_perm (l : List Pt) : (sortPts l).Perm l := List.mergeSort_perm l _
theorem sorted_one {l l' : List Pt} (h : l.Perm l') (h1 : l.Pairwise fun x y => (!ltPt y x) = true) (h2 : l'.Pairwise fun x y => (!ltPt y x) = true) : l = l' := by
  refine List.Perm.eq_of_pairwise (le := fun x y => (!ltPt y x) = true) (fun a b _ _ h1 h2 => ?_) h1 h2 h
  simp only [Bool.not_eq_true'] at h1 h2
  exact ltPt_total a b h2 h1
theorem sortPts_of_perm {l l' : List Pt} (h : l.Perm l') : sortPts l = sortPts l' :=
  sorted_one (((sortPts_perm l).trans h).trans (sortPts_perm l').symm) (sortPts_sorted l) (sortPts_sorted l')
end Go.Proofs.YtnpkdoggfnlapaaGreatDoor
namespace Go.Proofs.YtnpkdoggfnlapaaGreatDoor
set_option maxRecDepth 100000
open Go.Sx
theorem wrap_i64 {n : Int} (h1 : -9223372036854775808 ≤ n) (h2 : n < 9223372036854775808) : IntKind.i64.wrap n = n := by
  have e1 : IntKind.i64.bits = 64 := rfl
  have e2 : IntKind.i64.signed = true := rfl
  simp only [IntKind.wrap, e1, e2, Bool.true_and]
  split <;> rename_i h <;> simp only [ge_iff_le, decide_eq_true_eq] at h <;> omega
theorem lawCoin_spec (c : Coin) (M : Mem) (d : Nat) : CallSpec Tryz.prog 81 [c.cv] M d { v := .cv c.cv } [] := by
  refine spec_pure Tryz.mixed Tryz.T_ok Tryz.func81 rfl _ _ rfl rfl (fun C _ => ?_) M d
  (refine xB ?_)
  exact Ends.plain (.inr rfl) rfl rfl
structure RC where
  P : List Pt
  C : List Coin
def RC.mem (R : RC) : Mem := [(0, .cells 78 [.slc 1 9 0 R.P.length, .slc 2 11 0 R.C.length]), (1, .vec 65 9 R.P.length fun i => (R.P.getD i default).cells), (2, .vec 162 11 R.C.length fun i => (R.C.getD i default).cells)]
def rcP (R : RC) : AbsP := packP R.mem True
def RC.empty : RC := ⟨[], []⟩
end Go.Proofs.YtnpkdoggfnlapaaGreatDoor
namespace Go.Proofs.YtnpkdoggfnlapaaGreatDoor
set_option maxRecDepth 100000
open Go.Sx
def RC.root (R : RC) (i1 i2 : Nat) : Chunk := .cells 78 [.slc i1 9 0 R.P.length, .slc i2 11 0 R.C.length]
def RC.vecP (R : RC) : Chunk := .vec 65 9 R.P.length fun i => (R.P.getD i default).cells
def RC.vecC (R : RC) : Chunk := .vec 162 11 R.C.length fun i => (R.C.getD i default).cells
theorem RC.mem_get {R : RC} {i : Nat} {ch : Chunk} (h : R.mem.get i = some ch) : (i = 0 ∧ ch = R.root 1 2) ∨ (i = 1 ∧ ch = R.vecP) ∨ (i = 2 ∧ ch = R.vecC) := by
  simp only [RC.mem, Mem.get, nbeq] at h
  by_cases h0 : 0 = i
  · subst h0; simp at h; exact .inl ⟨rfl, h.symm⟩
  · by_cases h1 : 1 = i
    · subst h1; simp at h; exact .inr (.inl ⟨rfl, h.symm⟩)
    · by_cases h2 : 2 = i
      · subst h2; simp at h; exact .inr (.inr ⟨rfl, h.symm⟩)
      · simp [h0, h1, h2] at h
theorem rc_reads {f : FuncId} {fn : Func} {body : Code} (hf : Tryz.prog.funcs[f]? = some fn) (hb : fn.body = some body) (R : RC) (Xl : List CV) (X : XV) (hXl : Xl.all (CV.ok fun _ => false) = true) (hX : X.ok (fun _ => false) = true) {M : Mem} {c i1 i2 d : Nat}
    (k0 : M.get c = some (R.root i1 i2)) (k1 : M.get i1 = some R.vecP) (k2 : M.get i2 = some R.vecC) (hdist : (Nat.beq c i1 || Nat.beq c i2 || Nat.beq i1 i2) = false) (hd : (Nat.beq d c || Nat.beq d i1 || Nat.beq d i2) = false)
    (h : ∀ C : Ctx, C.n0 = 3 → Tri Tryz.prog C body ⟨slots0 fn.ntmps (.cv (.one (.ptr 0 0 0 0)) :: Xl.map .cv), R.mem, 3⟩ (Sx.Ends C Tryz.T fn.results.toList 3 3 ⟨X, R.mem, none⟩)) :
    CallSpec Tryz.prog f (.one (.ptr c 0 0 0) :: Xl) M d { v := X, upd := [(c, R.root i1 i2), (i1, R.vecP), (i2, R.vecC)], wr := [c, i1, i2] } [c, i1, i2] := by
  simp only [Bool.or_eq_false_iff, nbeq, decide_eq_false_iff_not] at hdist hd
  obtain ⟨⟨n1, n2⟩, n3⟩ := hdist
  obtain ⟨⟨m1, m2⟩, m3⟩ := hd
  refine spec_of_open (ids := [c, i1, i2]) (rids := []) (k1 := 3) (n0 := 3) (Xl := .one (.ptr 0 0 0 0) :: Xl) (M0 := R.mem) (out := ⟨X, R.mem, none⟩) Tryz.T_ok hf hb (by simp [n1, n2, n3]) rfl rfl (by simp [m1, m2, m3]) ?_ (fun i ch hi => ?_) (fun i ch hi => ?_) (fun i ch hi => by cases hi) (XV.ok_mono (fun _ h => by cases h) hX) h ?_ (XV.ren_closed hX).symm rfl (fun q ch hq => ?_)
  · simp only [List.all_cons, Bool.and_eq_true]
    refine ⟨by simp [CV.ok, SV.ok], ?_⟩
    simp only [List.all_eq_true] at hXl ⊢
    exact fun s hs => CV.ok_mono (fun _ h => by cases h) (hXl s hs)
  · rcases RC.mem_get hi with ⟨rfl, rfl⟩ | ⟨rfl, rfl⟩ | ⟨rfl, rfl⟩
    · exact ⟨by decide, rfl, fun h => by omega, fun ci hci => by simp at hci; subst hci; exact k0⟩
    · exact ⟨by decide, rfl, fun h => by omega, fun ci hci => by simp at hci; subst hci; exact k1⟩
    · exact ⟨by decide, rfl, fun h => by omega, fun ci hci => by simp at hci; subst hci; exact k2⟩
  · rcases RC.mem_get hi with ⟨rfl, rfl⟩ | ⟨rfl, rfl⟩ | ⟨rfl, rfl⟩ <;> exact ⟨rfl, rfl⟩
  · simp only [List.map_cons, CVs.ren_closed hXl]
    rfl
  · simp only [Mem.get, nbeq] at hq
    by_cases e0 : c = q
    · subst e0; simp at hq; subst hq; exact ⟨R.root 1 2, rfl, .inl ⟨0, rfl, rfl⟩⟩
    · by_cases e1 : i1 = q
      · subst e1; simp [e0] at hq; subst hq; exact ⟨R.vecP, rfl, .inl ⟨1, rfl, rfl⟩⟩
      · by_cases e2 : i2 = q
        · subst e2; simp [e0, e1] at hq; subst hq; exact ⟨R.vecC, rfl, .inl ⟨2, rfl, rfl⟩⟩
        · simp [e0, e1, e2] at hq
def RC.sumN (R : RC) : Nat → Int
  | 0 => 0
  | i + 1 => IntKind.i64.wrap (R.sumN i + (R.C.getD i default).amt.toInt)
def rcTotalSt (R : RC) (i : Nat) : St := ⟨[some (XV.sv (.ptr 0 0 0 0)), none, none, some (XV.int .i64 (R.sumN i)), some (XV.int .i64 i)] ++ List.replicate 21 none, R.mem, 3⟩
set_option maxHeartbeats 1000000 in
set_option maxRecDepth 100000 in
theorem rcTotal_spec (R : RC) (hlen : R.C.length < 1000000) {M : Mem} {c i1 i2 d : Nat} (k0 : M.get c = some (R.root i1 i2)) (k1 : M.get i1 = some R.vecP) (k2 : M.get i2 = some R.vecC) (hdist : (Nat.beq c i1 || Nat.beq c i2 || Nat.beq i1 i2) = false) (hd : (Nat.beq d c || Nat.beq d i1 || Nat.beq d i2) = false) :
    CallSpec Tryz.prog 80 [.one (.ptr c 0 0 0)] M d { v := XV.int .i64 (R.sumN R.C.length), upd := [(c, R.root i1 i2), (i1, R.vecP), (i2, R.vecC)], wr := [c, i1, i2] } [c, i1, i2] := by
  refine rc_reads Tryz.func80 rfl R [] _ rfl rfl k0 k1 k2 hdist hd (fun C hC => ?_)
  have hC0 : ∀ i, i < C.n0 → ([0, 1, 2] : List Nat)[i]? = some i := fun i hi => by
    rw [hC] at hi
    match i, hi with
    | 0, _ => rfl
    | 1, _ => rfl
    | 2, _ => rfl
  have hC1 : C.n0 ≤ 3 := by rw [hC]; decide
  (refine Tri.cut 2 Tryz.mixed Tryz.T_ok ?_; refine xZ ?_)
  refine wD <| cutG <| Tri.seq ?_
  (refine Tri.cut 1 Tryz.mixed Tryz.T_ok ?_; refine xZ ?_)
  refine wD <| cutG <| Tri.block ?_
  refine Tri.loop (α := { i : Nat // i ≤ R.C.length }) (fun i => rcTotalSt R i.1) (fun i => R.C.length - i.1) ⟨0, Nat.zero_le _⟩ ?_ ?_
  · exact Ent.ren [0, 1, 2] (by decide) rfl hC0 hC1 rfl ⟨rfl, rfl, rfl, trivial⟩ ⟨⟨_, rfl, rfl, rfl⟩, ⟨_, rfl, rfl, rfl, Nat.le_refl _, fun _ _ => rfl⟩, ⟨_, rfl, rfl, rfl, Nat.le_refl _, fun _ _ => rfl⟩, trivial⟩
  rintro ⟨i, hi⟩
  dsimp only
  (refine Tri.cut 1 Tryz.mixed Tryz.T_ok ?_; refine xZ ?_)
  refine wC (fun h1 => ?_) (fun h1 => ?_)
  · (refine xG ?_)
    have h1' : i < R.C.length := by simp only [decide_eq_true_eq] at h1; omega
    refine wD <| cutG <| Tri.seq <| Tri.block <| Tri.of Tryz.mixed Tryz.T_ok ?_
    (refine xB ?_)
    refine wN ⟨by omega, by omega⟩ ?_
    (refine xG ?_)
    refine wN (by omega) ?_
    (refine xG ?_)
    refine wD <| blockN <| cutG <| Tri.of Tryz.mixed Tryz.T_ok ?_
    (refine xB ?_)
    have hw : IntKind.i64.wrap ((i : Int) + 1) = ((i + 1 : Nat) : Int) := by rw [wrap_i64 (by omega) (by omega)]; omega
    have hg : R.C.getD (0 + ((i : Nat) : Int).toNat) default = R.C.getD i default := by simp
    have hsum : IntKind.i64.wrap (R.sumN i + (R.C.getD (0 + ((i : Nat) : Int).toNat) default).amt.toInt) = R.sumN (i + 1) := by rw [hg]; rfl
    refine wD <| loopN ⟨⟨i + 1, h1'⟩, by dsimp only; omega, ?_⟩
    exact Ent.ren [0, 1, 2] (by decide) rfl hC0 hC1 rfl ⟨rfl, congrArg (fun n : Int => some (XV.int .i64 n)) hsum, congrArg (fun n : Int => some (XV.int .i64 n)) hw, trivial⟩ ⟨⟨_, rfl, rfl, rfl⟩, ⟨_, rfl, rfl, rfl, Nat.le_refl _, fun _ _ => rfl⟩, ⟨_, rfl, rfl, rfl, Nat.le_refl _, fun _ _ => rfl⟩, trivial⟩
  · (refine xG ?_)
    have h1' : i = R.C.length := by simp only [decide_eq_false_iff_not] at h1; omega
    subst h1'
    refine wD <| cutE <| loopX <| blockX <| cutG <| Tri.of Tryz.mixed Tryz.T_ok ?_
    (refine xB ?_)
    refine wD ⟨.inr rfl, _, Ent.refl _, rfl, fun j ch hj => ?_, fun j ch hj => by cases hj⟩
    rcases RC.mem_get hj with ⟨rfl, rfl⟩ | ⟨rfl, rfl⟩ | ⟨rfl, rfl⟩ <;> exact ⟨by decide, rfl⟩
def posIn (p : Pt) : List Pt → Nat
  | [] => 0
  | q :: r => if ltPt q p = true then posIn p r + 1 else 0
def RC.pos (R : RC) (p : Pt) : Nat := posIn p R.P
def RC.isAt (R : RC) (p : Pt) : Bool := decide (R.pos p < R.P.length) && decide (R.P.getD (R.pos p) default = p)
def rcAtSt (R : RC) (p : Pt) (i : Nat) : St := ⟨[some (XV.sv (.ptr 0 0 0 0)), none, none, some (XV.sv (.ptr 3 0 0 0)), some (XV.int .i64 (0 : Int)), some (XV.bool false), some (XV.int .i64 i)] ++ List.replicate 34 none, R.mem ++ [(3, .cells 65 (p.cells.map .raw))], 4⟩
set_option maxHeartbeats 1000000 in
set_option maxRecDepth 100000 in
theorem rcAt_spec (R : RC) (p : Pt) (hlen : R.P.length < 1000000) {M : Mem} {c i1 i2 d : Nat} (k0 : M.get c = some (R.root i1 i2)) (k1 : M.get i1 = some R.vecP) (k2 : M.get i2 = some R.vecC) (hdist : (Nat.beq c i1 || Nat.beq c i2 || Nat.beq i1 i2) = false) (hd : (Nat.beq d c || Nat.beq d i1 || Nat.beq d i2) = false) :
    CallSpec Tryz.prog 159 [.one (.ptr c 0 0 0), p.cv] M d { v := .tup [.one (.raw (.int .i64 (R.pos p))), .one (.raw (.bool (R.isAt p)))], upd := [(c, R.root i1 i2), (i1, R.vecP), (i2, R.vecC)], wr := [c, i1, i2] } [c, i1, i2] := by
  refine rc_reads Tryz.func159 rfl R [p.cv] _ rfl rfl k0 k1 k2 hdist hd (fun C hC => ?_)
  have hC0 : ∀ i, i < C.n0 → ([0, 1, 2, 3] : List Nat)[i]? = some i := fun i hi => by
    rw [hC] at hi
    match i, hi with
    | 0, _ => rfl
    | 1, _ => rfl
    | 2, _ => rfl
  have hC1 : C.n0 ≤ 4 := by rw [hC]; decide
  (refine Tri.cut 1 Tryz.mixed Tryz.T_ok ?_; refine xZ ?_)
  refine wD <| cutG <| Tri.seq ?_
  (refine Tri.cut 1 Tryz.mixed Tryz.T_ok ?_; refine xZ ?_)
  refine wD <| cutG <| Tri.block ?_
  refine Tri.loop (α := { i : Nat // i ≤ R.P.length ∧ R.pos p = i + posIn p (R.P.drop i) }) (fun i => rcAtSt R p i.1) (fun i => R.P.length - i.1) ⟨0, Nat.zero_le _, by simp [RC.pos]⟩ ?_ ?_
  · exact Ent.ren [0, 1, 2, 3] (by decide) rfl hC0 hC1 rfl ⟨rfl, rfl, rfl, rfl, rfl, trivial⟩ ⟨⟨_, rfl, rfl, rfl⟩, ⟨_, rfl, rfl, rfl, Nat.le_refl _, fun _ _ => rfl⟩, ⟨_, rfl, rfl, rfl, Nat.le_refl _, fun _ _ => rfl⟩, ⟨_, rfl, rfl, rfl⟩, trivial⟩
  rintro ⟨i, hi, hpos⟩
  dsimp only
  (refine Tri.cut 1 Tryz.mixed Tryz.T_ok ?_; refine xZ ?_)
  refine wC (fun h1 => ?_) (fun h1 => ?_)
  · (refine xG ?_)
    have h1' : i < R.P.length := by simp only [decide_eq_true_eq] at h1; omega
    have hdrop : R.P.drop i = R.P.getD i default :: R.P.drop (i + 1) := by
      rw [List.drop_eq_getElem_cons h1']
      simp [List.getD_eq_getElem?_getD, h1']
    have hg : R.P.getD (0 + ((i : Nat) : Int).toNat) default = R.P.getD i default := by simp
    refine wD <| cutG <| Tri.seq <| Tri.block <| Tri.of Tryz.mixed Tryz.T_ok ?_
    (refine xB ?_)
    refine wN ⟨by omega, by omega⟩ ?_
    (refine xG ?_)
    refine wN (by omega) ?_
    (refine xG ?_)
    (apply wP; exact (call_op rfl (entersB_of Tryz.func193 (by kernel_rfl)) rfl (lessPoint_spec (R.P.getD (0 + ((i : Nat) : Int).toNat) default) p _ _)); refine xZ ?_)
    refine wC (fun h2 => ?_) (fun h2 => ?_)
    · (refine xG ?_)
      refine wN ⟨by omega, by omega⟩ ?_
      (refine xG ?_)
      refine wN (by omega) ?_
      (refine xG ?_)
      (refine wP _ _ (eq_op ptE rfl (R.P.getD (0 + ((i : Nat) : Int).toNat) default) p rfl rfl) ?_; refine xZ ?_)
      simp only [Bool.not_eq_true'] at h2
      rw [hg] at h2
      have hp : R.pos p = i := by rw [hpos, hdrop, posIn, if_neg (by rw [h2]; simp)]; rfl
      refine wD <| blockR <| cutR <| loopR <| blockR <| cutR ⟨.inr rfl, _, Ent.refl _, ?_, fun j ch hj => ?_, fun j ch hj => by cases hj⟩
      · have hx : R.isAt p = decide (R.P.getD (0 + ((i : Nat) : Int).toNat) default = p) := by simp only [RC.isAt, hp, hg, h1', decide_true, Bool.true_and]
        rw [hx, hp]
        rfl
      · rcases RC.mem_get hj with ⟨rfl, rfl⟩ | ⟨rfl, rfl⟩ | ⟨rfl, rfl⟩ <;> exact ⟨by decide, rfl⟩
    · (refine xG ?_)
      simp only [Bool.not_eq_false'] at h2
      rw [hg] at h2
      have hw : IntKind.i64.wrap ((i : Int) + 1) = ((i + 1 : Nat) : Int) := by rw [wrap_i64 (by omega) (by omega)]; omega
      refine wD <| blockN <| cutG <| Tri.of Tryz.mixed Tryz.T_ok ?_
      (refine xB ?_)
      refine wD <| loopN ⟨⟨i + 1, h1', by rw [hpos, hdrop, posIn, if_pos h2]; omega⟩, by dsimp only; omega, ?_⟩
      exact Ent.ren [0, 1, 2, 3] (by decide) rfl hC0 hC1 rfl ⟨rfl, rfl, rfl, rfl, congrArg (fun n : Int => some (XV.int .i64 n)) hw, trivial⟩ ⟨⟨_, rfl, rfl, rfl⟩, ⟨_, rfl, rfl, rfl, Nat.le_refl _, fun _ _ => rfl⟩, ⟨_, rfl, rfl, rfl, Nat.le_refl _, fun _ _ => rfl⟩, ⟨_, rfl, rfl, rfl⟩, trivial⟩
  · (refine xG ?_)
    have h1' : i = R.P.length := by simp only [decide_eq_false_iff_not] at h1; omega
    have hp : R.pos p = R.P.length := by rw [hpos, h1', List.drop_length]; rfl
    refine wD <| cutE <| loopX <| blockX <| cutG <| Tri.of Tryz.mixed Tryz.T_ok ?_
    (refine xB ?_)
    refine wD ⟨.inr rfl, _, Ent.refl _, ?_, fun j ch hj => ?_, fun j ch hj => by cases hj⟩
    · have hx : R.isAt p = false := by simp [RC.isAt, hp]
      rw [hx, hp]
      rfl
    · rcases RC.mem_get hj with ⟨rfl, rfl⟩ | ⟨rfl, rfl⟩ | ⟨rfl, rfl⟩ <;> exact ⟨by decide, rfl⟩
end Go.Proofs.YtnpkdoggfnlapaaGreatDoor
namespace Go.Proofs.YtnpkdoggfnlapaaGreatDoor
set_option maxRecDepth 100000
open Go.Sx
theorem RC.opens {P : Program} {C : Ctx} {cd : Code} {slots : List (Option XV)} {mem : Mem} {nx : Nat} {Q : Exit → St → Prop} (R : RC) (c : Nat) (hc : mem.get c = some (.abs (rcP R)))
    (h : Tri P C cd ⟨slots, (c, R.root (nx + 1) (nx + 2)) :: (nx + 1, R.vecP) :: (nx + 2, R.vecC) :: mem.del c, nx + 3⟩ Q) : Tri P C cd ⟨slots, mem, nx⟩ Q :=
  Tri.opens (M := R.mem) (m := 3) (inv := True) (c := c) hc rfl fun _ => h
theorem RC.shuts {C : Ctx} {slots : List (Option XV)} {mem : Mem} {nx : Nat} (R : RC) (c : Nat) {i1 i2 m1 m2 n1 n2 : Nat} {f g : Nat → List Value}
    (k0 : mem.get c = some (.cells 78 [.slc i1 9 0 m1, .slc i2 11 0 m2])) (k1 : mem.get i1 = some (.vec 65 9 n1 f)) (k2 : mem.get i2 = some (.vec 162 11 n2 g))
    (hids : (Nat.beq c i1 || Nat.beq c i2 || Nat.beq i1 i2) = false) (hm1 : m1 = R.P.length) (hm2 : m2 = R.C.length) (hl1 : R.P.length ≤ n1) (hl2 : R.C.length ≤ n2) (hf : ∀ i, i < R.P.length → f i = (R.P.getD i default).cells) (hg : ∀ i, i < R.C.length → g i = (R.C.getD i default).cells) :
    Ent C ⟨slots, mem, nx⟩ ⟨slots, (c, .abs (rcP R)) :: mem.dels [c, i1, i2], nx⟩ := by
  subst hm1 hm2
  exact Ent.shut3 (S := ⟨slots, mem, nx⟩) (M := R.mem) (inv := True) hids trivial rfl rfl rfl rfl k0 k1 k2 rfl ⟨rfl, rfl⟩ ⟨rfl, rfl, hl1, hf⟩ ⟨rfl, rfl, hl2, hg⟩
end Go.Proofs.YtnpkdoggfnlapaaGreatDoor
namespace Go.Proofs.YtnpkdoggfnlapaaGreatDoor
set_option maxRecDepth 100000
open Go.Sx
theorem posIn_le (p : Pt) : ∀ l : List Pt, posIn p l ≤ l.length
  | [] => Nat.le_refl _
  | q :: r => by
    simp only [posIn]
    split
    · have := posIn_le p r; simp; omega
    · simp
theorem insRowF {E : Type} (cells : E → List Value) (dflt : E) (l : List E) (k : Nat) (hk : k ≤ l.length) (x : E) (i : Nat) (hi : i < l.length + 1) :
    joinF (snocF (joinF (fun _ => []) 0 (fun q => cells (l.getD (0 + q) dflt))) (0 + k) (cells x)) (0 + k + 1) (fun q => cells (l.getD (0 + k + q) dflt)) i = cells ((l.take k ++ x :: l.drop k).getD i dflt) := by
  simp only [joinF, snocF, nblt, Nat.zero_add]
  by_cases h1 : i < k
  · have h2 : i < k + 1 := by omega
    have h3 : ¬ i < 0 := by omega
    simp only [h1, h2, h3, decide_true, decide_false, cond_true, cond_false, Nat.sub_zero]
    have : (l.take k ++ x :: l.drop k)[i]? = l[i]? := by
      rw [List.getElem?_append_left (by rw [List.length_take]; omega), List.getElem?_take, if_pos h1]
    simp [List.getD_eq_getElem?_getD, this]
  · by_cases h2 : i < k + 1
    · have h4 : i = k := by omega
      subst h4
      simp only [h2, Nat.lt_irrefl, decide_true, decide_false, cond_true, cond_false]
      have : (l.take i ++ x :: l.drop i)[i]? = some x := by
        rw [List.getElem?_append_right (by rw [List.length_take]; omega), List.length_take]
        have : i - min i l.length = 0 := by omega
        rw [this]; rfl
      simp [List.getD_eq_getElem?_getD, this]
    · simp only [h2, decide_false, cond_false]
      have : (l.take k ++ x :: l.drop k)[i]? = l[k + (i - (k + 1))]? := by
        rw [List.getElem?_append_right (by rw [List.length_take]; omega), List.length_take]
        have : i - min k l.length = (i - (k + 1)) + 1 := by omega
        rw [this, List.getElem?_cons_succ, List.getElem?_drop]
      simp [List.getD_eq_getElem?_getD, this]
def RC.okB (R : RC) (p : Pt) (c : Coin) : Bool := !(R.isAt p) && !(decide (p.no.toInt < 0)) && !(decide (255 < p.no.toInt)) && !(decide (c.amt.toInt < 1)) && !(decide (1125899906842624 < c.amt.toInt)) && !(decide (IntKind.i64.wrap (1125899906842624 - c.amt.toInt) < R.sumN R.C.length))
def RC.add1 (R : RC) (p : Pt) (c : Coin) : RC := ⟨R.P.take (R.pos p) ++ p :: R.P.drop (R.pos p), R.C.take (R.pos p) ++ c :: R.C.drop (R.pos p)⟩
def RC.add (R : RC) (p : Pt) (c : Coin) : RC := if R.okB p c = true then R.add1 p c else R
theorem RC.ends {C : Ctx} {T : TyTab} {rs : List ResultVar} {X X' : XV} {e : Exit} {slots : List (Option XV)} {mem : Mem} {nx : Nat} {R0 : RC} (R : RC) {i1 i2 m1 m2 n1 n2 : Nat} {f g : Nat → List Value} (he : e = .normal ∨ e = .ret)
    (k0 : mem.get 0 = some (.cells 78 [.slc i1 9 0 m1, .slc i2 11 0 m2])) (k1 : mem.get i1 = some (.vec 65 9 n1 f)) (k2 : mem.get i2 = some (.vec 162 11 n2 g))
    (hids : (Nat.beq 0 i1 || Nat.beq 0 i2 || Nat.beq i1 i2) = false) (hr : resX T ⟨slots, (0, .abs (rcP R)) :: mem.dels [0, i1, i2], nx⟩ rs = some X') (hX : X' = X) (hR : R = R0) (hm1 : m1 = R.P.length) (hm2 : m2 = R.C.length) (hl1 : R.P.length ≤ n1) (hl2 : R.C.length ≤ n2)
    (hf : ∀ i, i < R.P.length → f i = (R.P.getD i default).cells) (hg : ∀ i, i < R.C.length → g i = (R.C.getD i default).cells) : Sx.Ends C T rs 1 1 ⟨X, [(0, .abs (rcP R0))], none⟩ e ⟨slots, mem, nx⟩ := by
  subst hX hR
  refine ⟨he, _, RC.shuts R 0 k0 k1 k2 hids hm1 hm2 hl1 hl2 hf hg, hr, fun i ch h => ?_, fun i ch h => by cases h⟩
  simp only [Mem.get, nbeq] at h
  by_cases hk : 0 = i
  · subst hk
    simp only [decide_true, cond_true, Option.some.injEq] at h
    exact ⟨by omega, by rw [← h]; rfl⟩
  · simp [hk] at h
set_option maxHeartbeats 2000000 in
set_option maxRecDepth 100000 in
theorem rcAdd_spec (R : RC) (p : Pt) (c : Coin) (hPC : R.P.length = R.C.length) (hlen : R.P.length < 1000000) {M : Mem} {c0 d : Nat} (hM : M.get c0 = some (.abs (rcP R))) (hd : Nat.beq d c0 = false) : CallSpec Tryz.prog 115 [.one (.ptr c0 0 0 0), p.cv, c.cv] M d { v := XV.bool (R.okB p c), upd := [(c0, .abs (rcP (R.add p c)))], wr := [c0] } [c0] := by
  refine spec_obj Tryz.T_ok Tryz.func115 rfl [p.cv, c.cv] (XV.bool (R.okB p c)) rfl rfl hM hd (fun C _ => ?_)
  refine RC.opens R 0 rfl ?_
  have hpl : R.pos p ≤ R.P.length := posIn_le p R.P
  (refine Tri.cut 3 Tryz.mixed Tryz.T_ok ?_; refine xZ ?_)
  (apply wP; exact (call_op rfl (entersB_of Tryz.func159 (by kernel_rfl)) rfl (rcAt_spec R p hlen rfl rfl rfl rfl rfl)); refine xZ ?_)
  refine wC (fun h1 => ?_) (fun h1 => ?_)
  · (refine xG ?_)
    refine wD <| cutR (RC.ends R (.inr rfl) rfl rfl rfl rfl rfl ?_ ?_ rfl rfl (Nat.le_refl _) (Nat.le_refl _) (fun _ _ => rfl) (fun _ _ => rfl))
    · simp [RC.okB, h1]
    · simp [RC.add, RC.okB, h1]
  (refine xG ?_)
  refine wC (fun h2 => ?_) (fun h2 => ?_)
  · (refine xG ?_)
    refine wD <| cutR (RC.ends R (.inr rfl) rfl rfl rfl rfl rfl ?_ ?_ rfl rfl (Nat.le_refl _) (Nat.le_refl _) (fun _ _ => rfl) (fun _ _ => rfl))
    · simp [RC.okB, h2]
    · simp [RC.add, RC.okB, h2]
  (refine xG ?_)
  refine wC (fun h3 => ?_) (fun h3 => ?_)
  · (refine xG ?_)
    refine wD <| cutR (RC.ends R (.inr rfl) rfl rfl rfl rfl rfl ?_ ?_ rfl rfl (Nat.le_refl _) (Nat.le_refl _) (fun _ _ => rfl) (fun _ _ => rfl))
    · simp [RC.okB, h3]
    · simp [RC.add, RC.okB, h3]
  (refine xG ?_)
  refine wC (fun h4 => ?_) (fun h4 => ?_)
  · (refine xG ?_)
    refine wD <| cutR (RC.ends R (.inr rfl) rfl rfl rfl rfl rfl ?_ ?_ rfl rfl (Nat.le_refl _) (Nat.le_refl _) (fun _ _ => rfl) (fun _ _ => rfl))
    · simp [RC.okB, h4]
    · simp [RC.add, RC.okB, h4]
  (refine xG ?_)
  refine wC (fun h5 => ?_) (fun h5 => ?_)
  · (refine xG ?_)
    refine wD <| cutR (RC.ends R (.inr rfl) rfl rfl rfl rfl rfl ?_ ?_ rfl rfl (Nat.le_refl _) (Nat.le_refl _) (fun _ _ => rfl) (fun _ _ => rfl))
    · simp [RC.okB, h5]
    · simp [RC.add, RC.okB, h5]
  (refine xG ?_)
  (apply wP; exact (call_op rfl (entersB_of Tryz.func80 (by kernel_rfl)) rfl (rcTotal_spec R (hPC ▸ hlen) rfl rfl rfl rfl rfl)); refine xZ ?_)
  refine wC (fun h6 => ?_) (fun h6 => ?_)
  · (refine xG ?_)
    refine wD <| cutR (RC.ends R (.inr rfl) rfl rfl rfl rfl rfl ?_ ?_ rfl rfl (Nat.le_refl _) (Nat.le_refl _) (fun _ _ => rfl) (fun _ _ => rfl))
    · simp [RC.okB, h6]
    · simp [RC.add, RC.okB, h6]
  (refine xG ?_)
  have hok : R.okB p c = true := by simp only [RC.okB, h1, h2, h3, h4, h5, h6]; rfl
  refine wD <| cutG <| Tri.of Tryz.mixed Tryz.T_ok ?_
  (refine xB ?_)
  refine wN ⟨by omega, by omega⟩ ?_
  (refine xG ?_)
  have hto : ((R.pos p : Nat) : Int).toNat = R.pos p := rfl
  have a1 : 0 + ((R.pos p : Nat) : Int).toNat ≤ maxLen := by simp only [maxLen]; omega
  have a2 : (0 + ((R.pos p : Nat) : Int).toNat) * 16 ≤ 140737488355328 := by omega
  have b1 : 0 + ((R.pos p : Nat) : Int).toNat + 1 ≤ maxLen := by simp only [maxLen]; omega
  have b2 : (0 + ((R.pos p : Nat) : Int).toNat + 1) * 16 ≤ 140737488355328 := by omega
  (refine wP _ _ (append_op Tryz.T_ok rfl rfl rfl rfl rfl [2] (old_nil rfl _ _ _ (fun _ => [])) (new_vec rfl rfl (by omega) rfl) rfl (fun _ _ => rfl) a1 a2) ?_; refine xZ ?_)
  (refine wP _ _ (append1_op Tryz.T_ok rfl rfl rfl rfl p.cells rfl rfl rfl (Nat.le_refl _) rfl rfl rfl rfl rfl b1 b2) ?_; refine xZ ?_)
  refine wN ⟨by omega, by omega⟩ ?_
  (refine xG ?_)
  have e1 : 0 + ((R.pos p : Nat) : Int).toNat + 1 + (R.P.length - ((R.pos p : Nat) : Int).toNat) ≤ maxLen := by simp only [maxLen]; omega
  have e2 : (0 + ((R.pos p : Nat) : Int).toNat + 1 + (R.P.length - ((R.pos p : Nat) : Int).toNat)) * 16 ≤ 140737488355328 := by omega
  (refine wP _ _ (append_op Tryz.T_ok rfl rfl rfl rfl rfl [57, 2] (old_vec rfl rfl (Nat.le_refl _) rfl) (new_vec rfl rfl (by omega) rfl) rfl (fun _ _ => rfl) e1 e2) ?_; refine xZ ?_)
  refine wN ⟨by omega, by omega⟩ ?_
  (refine xG ?_)
  have c2 : (0 + ((R.pos p : Nat) : Int).toNat) * 32 ≤ 140737488355328 := by omega
  have d2 : (0 + ((R.pos p : Nat) : Int).toNat + 1) * 32 ≤ 140737488355328 := by omega
  have f1 : 0 + ((R.pos p : Nat) : Int).toNat + 1 + (R.C.length - ((R.pos p : Nat) : Int).toNat) ≤ maxLen := by simp only [maxLen]; omega
  have f2 : (0 + ((R.pos p : Nat) : Int).toNat + 1 + (R.C.length - ((R.pos p : Nat) : Int).toNat)) * 32 ≤ 140737488355328 := by omega
  (refine wP _ _ (append_op Tryz.T_ok rfl rfl rfl rfl rfl [3] (old_nil rfl _ _ _ (fun _ => [])) (new_vec rfl rfl (by omega) rfl) rfl (fun _ _ => rfl) a1 c2) ?_; refine xZ ?_)
  (refine wP _ _ (append1_op Tryz.T_ok rfl rfl rfl rfl c.cells rfl rfl rfl (Nat.le_refl _) rfl rfl rfl rfl rfl b1 d2) ?_; refine xZ ?_)
  refine wN ⟨by omega, by omega⟩ ?_
  (refine xG ?_)
  (refine wP _ _ (append_op Tryz.T_ok rfl rfl rfl rfl rfl [78, 3] (old_vec rfl rfl (Nat.le_refl _) rfl) (new_vec rfl rfl (by omega) rfl) rfl (fun _ _ => rfl) f1 f2) ?_; refine xZ ?_)
  have hkC : R.pos p ≤ R.C.length := by omega
  refine wD (RC.ends (R.add1 p c) (.inr rfl) rfl rfl rfl rfl rfl ?_ ?_ ?_ ?_ ?_ ?_ ?_ ?_)
  · rw [hok]
  · rw [RC.add, if_pos hok]
  · simp only [RC.add1, List.length_append, List.length_take, List.length_cons, List.length_drop]; omega
  · simp only [RC.add1, List.length_append, List.length_take, List.length_cons, List.length_drop]; omega
  · simp only [RC.add1, List.length_append, List.length_take, List.length_cons, List.length_drop]; omega
  · simp only [RC.add1, List.length_append, List.length_take, List.length_cons, List.length_drop]; omega
  · intro i hi
    simp only [RC.add1, List.length_append, List.length_take, List.length_cons, List.length_drop] at hi
    exact insRowF Pt.cells default R.P (R.pos p) hpl p i (by omega)
  · intro i hi
    simp only [RC.add1, List.length_append, List.length_take, List.length_cons, List.length_drop] at hi
    exact insRowF Coin.cells default R.C (R.pos p) hkC c i (by omega)
end Go.Proofs.YtnpkdoggfnlapaaGreatDoor
namespace Go.Proofs.YtnpkdoggfnlapaaGreatDoor
set_option maxRecDepth 100000
open Go.Sx
def RC.get (R : RC) (p : Pt) : Coin := if R.isAt p = true then R.C.getD (R.pos p) default else coin0
end Go.Proofs.YtnpkdoggfnlapaaGreatDoor
namespace Go.Proofs.YtnpkdoggfnlapaaGreatDoor
set_option maxRecDepth 100000
open Go.Sx
def keysND (l : List (Pt × Coin)) : Prop := (l.map (·.1)).Nodup
theorem mput_perm : ∀ {l : List (Pt × Coin)} {k : Pt} {v : Coin}, keysND l → (mput l k v).Perm ((k, v) :: l.filter (fun x => x.1 ≠ k))
  | [], k, v, _ => List.Perm.refl _
  | x :: r, k, v, h => by
    simp only [keysND, List.map_cons, List.nodup_cons] at h
    simp only [mput]
    by_cases hk : x.1 = k
    · have hr : r.filter (fun x => x.1 ≠ k) = r := by
        rw [List.filter_eq_self]
        intro y hy
        have : y.1 ≠ k := fun e => h.1 (by rw [hk, ← e]; exact List.mem_map.2 ⟨y, hy, rfl⟩)
        simpa using this
      rw [if_pos hk, List.filter_cons_of_neg (by simpa using hk), hr]
    · rw [if_neg hk, List.filter_cons_of_pos (by simpa using hk)]
      exact ((mput_perm h.2).cons x).trans (List.Perm.swap _ _ _)
theorem nd_filter {l : List (Pt × Coin)} {k : Pt} (h : keysND l) : keysND (l.filter (fun x => x.1 ≠ k)) := by
  have := (List.filter_sublist (p := fun x : Pt × Coin => decide (x.1 ≠ k)) (l := l)).map (·.1)
  exact h.sublist this
theorem nd_mput {l : List (Pt × Coin)} {k : Pt} {v : Coin} (h : keysND l) : keysND (mput l k v) := by
  have hp := (mput_perm (k := k) (v := v) h).map (·.1)
  unfold keysND
  rw [hp.nodup_iff, List.map_cons, List.nodup_cons]
  refine ⟨fun hm => ?_, nd_filter h⟩
  obtain ⟨y, hy, he⟩ := List.mem_map.1 hm
  have := (List.mem_filter.1 hy).2
  simp [he] at this
theorem mget_key : ∀ {l : List (Pt × Coin)} {k : Pt}, (mget l k).isSome = false → ∀ x ∈ l, x.1 ≠ k
  | [], k, _, x, hx => by cases hx
  | y :: r, k, h, x, hx => by
    simp only [mget] at h
    by_cases hk : y.1 = k
    · rw [if_pos hk] at h; cases h
    · rw [if_neg hk] at h
      rcases List.mem_cons.1 hx with rfl | hx
      · exact hk
      · exact mget_key h x hx
theorem mget_mem : ∀ {l : List (Pt × Coin)} {k : Pt} {v : Coin}, mget l k = some v → (k, v) ∈ l
  | [], k, v, h => by cases h
  | y :: r, k, v, h => by
    simp only [mget] at h
    by_cases hk : y.1 = k
    · rw [if_pos hk] at h; cases h; rw [← hk]; simp
    · rw [if_neg hk] at h; exact List.mem_cons_of_mem _ (mget_mem h)
theorem wrap_add (a b : Int) : IntKind.i64.wrap (IntKind.i64.wrap a + b) = IntKind.i64.wrap (a + b) := by
  have e1 : IntKind.i64.bits = 64 := rfl
  have e2 : IntKind.i64.signed = true := rfl
  simp only [IntKind.wrap, e1, e2, Bool.true_and]
  split <;> split <;> split <;> rename_i h h' h'' <;> simp only [ge_iff_le, decide_eq_true_eq] at h h' h'' <;> omega
def sumC : List (Pt × Coin) → Int
  | [] => 0
  | x :: r => x.2.amt.toInt + sumC r
theorem sumC_perm {l l' : List (Pt × Coin)} (h : l.Perm l') : sumC l = sumC l' := by
  induction h with
  | nil => rfl
  | cons x _ ih => simp only [sumC, ih]
  | swap x y l => simp only [sumC]; omega
  | trans _ _ h1 h2 => rw [h1, h2]
theorem mget_of_mem : ∀ {l : List (Pt × Coin)} {k : Pt} {v : Coin}, keysND l → (k, v) ∈ l → mget l k = some v
  | x :: r, k, v, hn, h => by
    simp only [keysND, List.map_cons, List.nodup_cons] at hn
    simp only [mget]
    rcases List.mem_cons.1 h with rfl | h
    · simp
    · have : x.1 ≠ k := fun e => hn.1 (e ▸ List.mem_map.2 ⟨_, h, rfl⟩)
      rw [if_neg this]
      exact mget_of_mem hn.2 h
structure Inv (S : USet) : Prop where
  nd : keysND S.coins
  tot : S.total = IntKind.i64.wrap (sumC S.coins)
theorem Inv.empty : Inv USet.empty := ⟨List.nodup_nil, rfl⟩
theorem okB_has {S : USet} {p : Pt} {c : Coin} (h : S.okB p c = true) : S.has p = false := by
  simp only [USet.okB, Bool.and_eq_true, Bool.not_eq_true'] at h
  exact h.1.2
theorem Inv.add {S : USet} (h : Inv S) (p : Pt) (c : Coin) : Inv (S.add p c) := by
  unfold USet.add
  split
  · rename_i hok
    have hh := mget_key (okB_has hok)
    refine ⟨nd_mput h.nd, ?_⟩
    simp only [USet.add1, USet.put, h.tot, wrap_add]
    congr 1
    have hf : S.coins.filter (fun x => x.1 ≠ p) = S.coins := by
      rw [List.filter_eq_self]
      intro y hy
      simpa using hh y hy
    have := sumC_perm (mput_perm (k := p) (v := c) h.nd)
    rw [hf] at this
    rw [this]
    simp only [sumC]
    omega
  · exact h
theorem has_get {S : USet} {p : Pt} (h : S.has p = true) : mget S.coins p = some (S.get p) := by
  unfold USet.has at h
  unfold USet.get
  cases hm : mget S.coins p with
  | none => rw [hm] at h; cases h
  | some v => rfl
section
variable {S : USet} {R : RC} {zs : List (Pt × Coin)}
structure TwinZ (S : USet) (R : RC) (zs : List (Pt × Coin)) : Prop where
  P : R.P = zs.map (·.1)
  C : R.C = zs.map (·.2)
  perm : zs.Perm S.coins
  srt : zs.Pairwise fun a b => ltPt a.1 b.1 = true
  inv : Inv S
  amt : ∀ x ∈ zs, 1 ≤ x.2.amt.toInt
  most : sumC zs ≤ 1125899906842624
def Twin (S : USet) (R : RC) : Prop := ∃ zs, TwinZ S R zs
theorem sumC_append (a b : List (Pt × Coin)) : sumC (a ++ b) = sumC a + sumC b := by
  induction a with
  | nil => simp [sumC]
  | cons x r ih => simp only [List.cons_append, sumC, ih]; omega
theorem sumC_pos {l : List (Pt × Coin)} (h : ∀ x ∈ l, 1 ≤ x.2.amt.toInt) : 0 ≤ sumC l := by
  induction l with
  | nil => simp [sumC]
  | cons x r ih =>
    have := h x (by simp)
    have := ih (fun y hy => h y (by simp [hy]))
    simp only [sumC]; omega
theorem ltPt_trans {a b c : Pt} (h1 : ltPt a b = true) (h2 : ltPt b c = true) : ltPt a c = true := ltPt_swo.trans a b c h1 h2
theorem ltPt_irr (a : Pt) : ltPt a a = false := ltPt_swo.irrefl a
theorem ltPt_asymm {a b : Pt} (h : ltPt a b = true) : ltPt b a = false := by
  cases h2 : ltPt b a with
  | false => rfl
  | true => have := ltPt_trans h h2; rw [ltPt_irr] at this; cases this
theorem posIn_split {p : Pt} : ∀ {zs : List (Pt × Coin)}, zs.Pairwise (fun a b => ltPt a.1 b.1 = true) → posIn p (zs.map (·.1)) ≤ zs.length ∧ (∀ x ∈ zs.take (posIn p (zs.map (·.1))), ltPt x.1 p = true) ∧ (∀ x ∈ zs.drop (posIn p (zs.map (·.1))), ltPt x.1 p = false)
  | [], _ => by simp [posIn]
  | z :: r, h => by
    rw [List.pairwise_cons] at h
    obtain ⟨h1, h2, h3⟩ := posIn_split (p := p) h.2
    simp only [List.map_cons, posIn]
    by_cases hz : ltPt z.1 p = true
    · rw [if_pos hz]
      refine ⟨by simp; omega, fun x hx => ?_, fun x hx => ?_⟩
      · rw [List.take_succ_cons] at hx
        rcases List.mem_cons.1 hx with rfl | hx
        · exact hz
        · exact h2 x hx
      · rw [List.drop_succ_cons] at hx
        exact h3 x hx
    · rw [if_neg hz]
      have hz' : ltPt z.1 p = false := by simpa using hz
      refine ⟨by simp, fun x hx => by simp at hx, fun x hx => ?_⟩
      rw [List.drop_zero] at hx
      rcases List.mem_cons.1 hx with rfl | hx
      · exact hz'
      · cases hy : ltPt x.1 p with
        | false => rfl
        | true => have := ltPt_trans (h.1 x hx) hy; rw [hz'] at this; cases this
theorem TwinZ.len (h : TwinZ S R zs) : R.P.length = zs.length ∧ R.C.length = zs.length := by rw [h.P, h.C]; simp
theorem TwinZ.nd (h : TwinZ S R zs) : keysND zs := by
  have := h.perm.map (fun x : Pt × Coin => x.1)
  exact this.nodup_iff.2 h.inv.nd
theorem TwinZ.at (h : TwinZ S R zs) {i : Nat} (hi : i < zs.length) : R.P.getD i default = (zs[i]).1 ∧ R.C.getD i default = (zs[i]).2 ∧ mget S.coins (zs[i]).1 = some (zs[i]).2 := by
  refine ⟨?_, ?_, mget_of_mem h.inv.nd (h.perm.mem_iff.1 (List.getElem_mem hi))⟩
  · rw [h.P]; simp [List.getD_eq_getElem?_getD, hi]
  · rw [h.C]; simp [List.getD_eq_getElem?_getD, hi]
theorem TwinZ.total (h : TwinZ S R zs) : S.total = sumC zs ∧ 0 ≤ sumC zs := by
  have h0 := sumC_pos h.amt
  have := h.most
  refine ⟨?_, h0⟩
  rw [h.inv.tot, ← sumC_perm h.perm]
  exact wrap_i64 (by omega) (by omega)
theorem TwinZ.sumN (h : TwinZ S R zs) : ∀ i, i ≤ zs.length → R.sumN i = IntKind.i64.wrap (sumC (zs.take i))
  | 0, _ => by simp [RC.sumN, sumC]; rfl
  | i + 1, hi => by
    have hil : i < zs.length := by omega
    rw [RC.sumN, h.sumN i (by omega), wrap_add, (h.at hil).2.1, List.take_succ_eq_append_getElem hil, sumC_append]
    simp [sumC]
theorem TwinZ.sum (h : TwinZ S R zs) : R.sumN R.C.length = S.total := by
  rw [h.len.2, h.sumN _ (Nat.le_refl _), List.take_length, h.inv.tot, sumC_perm h.perm]
theorem mget_some_iff : ∀ {l : List (Pt × Coin)} {k : Pt}, (mget l k).isSome = true ↔ k ∈ l.map (·.1)
  | [], _ => by simp [mget]
  | x :: r, k => by
    rw [mget]
    by_cases e : x.1 = k
    · rw [if_pos e]; simp [e]
    · rw [if_neg e, mget_some_iff, List.map_cons, List.mem_cons]
      exact ⟨Or.inr, fun h => h.resolve_left fun h => e h.symm⟩
theorem TwinZ.has_iff (h : TwinZ S R zs) (p : Pt) : S.has p = true ↔ p ∈ zs.map (·.1) := by
  rw [USet.has, mget_some_iff]
  exact (h.perm.map (·.1)).mem_iff.symm
theorem TwinZ.pos (h : TwinZ S R zs) (p : Pt) : R.pos p = posIn p (zs.map (·.1)) := by rw [RC.pos, h.P]
theorem TwinZ.isAt_iff (h : TwinZ S R zs) (p : Pt) : R.isAt p = true ↔ p ∈ zs.map (·.1) := by
  obtain ⟨h1, h2, h3⟩ := posIn_split (p := p) h.srt
  have hp := h.pos p
  unfold RC.isAt
  simp only [Bool.and_eq_true, decide_eq_true_eq, hp, h.len.1]
  constructor
  · rintro ⟨hl, he⟩
    rw [(h.at hl).1] at he
    exact List.mem_map.2 ⟨_, List.getElem_mem hl, he⟩
  · intro hm
    obtain ⟨x, hx, rfl⟩ := List.mem_map.1 hm
    have hx' : x ∈ zs.drop (posIn x.1 (zs.map (·.1))) := by
      rw [← List.take_append_drop (posIn x.1 (zs.map (·.1))) zs] at hx
      rcases List.mem_append.1 hx with hx | hx
      · have := h2 x hx; rw [ltPt_irr] at this; cases this
      · exact hx
    have hl : posIn x.1 (zs.map (·.1)) < zs.length := by
      have := List.length_pos_of_mem hx'
      rw [List.length_drop] at this; omega
    refine ⟨hl, ?_⟩
    rw [(h.at hl).1]
    have hd := List.drop_eq_getElem_cons hl
    rw [hd] at hx'
    rcases List.mem_cons.1 hx' with e | hx'
    · rw [← e]
    · have hs := h.srt.drop (i := posIn x.1 (zs.map (·.1)))
      rw [hd, List.pairwise_cons] at hs
      have h4 := hs.1 x hx'
      have h5 := h3 _ (by rw [hd]; exact List.mem_cons_self ..)
      rw [h5] at h4; cases h4
theorem TwinZ.isAt (h : TwinZ S R zs) (p : Pt) : R.isAt p = S.has p := by
  rw [Bool.eq_iff_iff, h.isAt_iff, h.has_iff]
theorem TwinZ.okB (h : TwinZ S R zs) (p : Pt) (c : Coin) : R.okB p c = S.okB p c := by
  have ht := h.total
  have hm := h.most
  rw [Bool.eq_iff_iff]
  simp only [RC.okB, USet.okB, h.isAt, h.sum, bothB, mayB, Bool.and_eq_true, Bool.not_eq_true', decide_eq_false_iff_not, decide_eq_true_eq, ht.1]
  have hc := c.amt.toInt_lt
  by_cases ha : 1 ≤ c.amt.toInt ∧ c.amt.toInt ≤ 1125899906842624
  · rw [wrap_i64 (n := 1125899906842624 - c.amt.toInt) (by omega) (by omega), wrap_i64 (n := sumC zs + c.amt.toInt) (by omega) (by omega)]
    constructor
    · rintro ⟨⟨⟨⟨⟨a1, a2⟩, a3⟩, a4⟩, a5⟩, a6⟩; exact ⟨⟨⟨⟨by omega, by omega⟩, by omega⟩, a1⟩, ⟨⟨⟨by omega, by omega⟩, ⟨by omega, by omega⟩⟩, ⟨by omega, by omega⟩⟩⟩
    · rintro ⟨⟨⟨⟨a1, a2⟩, a3⟩, a4⟩, ⟨⟨⟨a5, a6⟩, ⟨a7, a8⟩⟩, ⟨a9, a10⟩⟩⟩; exact ⟨⟨⟨⟨⟨a4, by omega⟩, by omega⟩, by omega⟩, by omega⟩, by omega⟩
  · constructor
    · rintro ⟨⟨⟨⟨⟨a1, a2⟩, a3⟩, a4⟩, a5⟩, a6⟩; omega
    · rintro ⟨⟨⟨⟨a1, a2⟩, a3⟩, a4⟩, ⟨⟨⟨a5, a6⟩, ⟨a7, a8⟩⟩, ⟨a9, a10⟩⟩⟩; omega
theorem TwinZ.get (h : TwinZ S R zs) (p : Pt) : R.get p = S.get p := by
  unfold RC.get
  by_cases hp : R.isAt p = true
  · rw [if_pos hp]
    have hp' := hp
    simp only [RC.isAt, Bool.and_eq_true, decide_eq_true_eq] at hp'
    have hl : R.pos p < zs.length := by rw [← h.len.1]; exact hp'.1
    have ha := h.at hl
    rw [hp'.2] at ha
    have h2 := ha.2.2
    rw [← ha.1] at h2
    unfold USet.get
    rw [h2, ha.2.1]
    rfl
  · rw [if_neg hp]
    rw [h.isAt] at hp
    unfold USet.has at hp
    unfold USet.get
    cases hm : mget S.coins p with
    | none => rfl
    | some v => rw [hm] at hp; exact absurd rfl hp
theorem TwinZ.add1 (h : TwinZ S R zs) {p : Pt} {c : Coin} (hok : S.okB p c = true) : Twin (S.add1 p c) (R.add1 p c) := by
  obtain ⟨h1, h2, h3⟩ := posIn_split (p := p) h.srt
  have hhas := okB_has hok
  have hnot : p ∉ zs.map (·.1) := fun hm => by rw [(h.has_iff p).2 hm] at hhas; cases hhas
  have hokR := hok
  rw [← h.okB] at hokR
  simp only [RC.okB, h.sum, Bool.and_eq_true, Bool.not_eq_true', decide_eq_false_iff_not, h.total.1] at hokR
  obtain ⟨⟨⟨⟨⟨_, _⟩, _⟩, a4⟩, a5⟩, a6⟩ := hokR
  have h0 := h.total.2
  have hm := h.most
  rw [wrap_i64 (by omega) (by omega)] at a6
  have hzp : (zs.take (R.pos p) ++ (p, c) :: zs.drop (R.pos p)).Perm ((p, c) :: zs) := by
    refine List.perm_middle.trans ?_
    rw [List.take_append_drop]
  have hinv : Inv (S.add1 p c) := by
    have := h.inv.add p c
    unfold USet.add at this
    rwa [if_pos hok] at this
  refine ⟨zs.take (R.pos p) ++ (p, c) :: zs.drop (R.pos p), ?_, ?_, ?_, ?_, hinv, ?_, ?_⟩
  · simp only [RC.add1, h.P, List.map_append, List.map_cons, List.map_take, List.map_drop]
  · simp only [RC.add1, h.C, List.map_append, List.map_cons, List.map_take, List.map_drop]
  · have hc : (S.add1 p c).coins = S.coins ++ [(p, c)] := by
      simp only [USet.add1, USet.put]
      exact mput_none (mget_key hhas)
    rw [hc]
    exact (hzp.trans (h.perm.cons _)).trans (List.perm_append_singleton _ _).symm
  · rw [h.pos]
    have hsplit := h.srt
    rw [← List.take_append_drop (posIn p (zs.map (·.1))) zs, List.pairwise_append] at hsplit
    obtain ⟨s1, s2, s3⟩ := hsplit
    rw [List.pairwise_append]
    refine ⟨s1, ?_, fun x hx y hy => ?_⟩
    · rw [List.pairwise_cons]
      refine ⟨fun y hy => ?_, s2⟩
      have hy1 := h3 y hy
      have hne : y.1 ≠ p := fun e => hnot (List.mem_map.2 ⟨y, List.mem_of_mem_drop hy, e⟩)
      show ltPt p y.1 = true
      cases hl : ltPt p y.1 with
      | true => rfl
      | false => exact absurd (ltPt_total _ _ hl hy1).symm hne
    · rcases List.mem_cons.1 hy with rfl | hy
      · exact h2 x hx
      · exact s3 x hx y hy
  · intro x hx
    rcases List.mem_cons.1 (hzp.mem_iff.1 hx) with rfl | hx
    · show 1 ≤ c.amt.toInt; omega
    · exact h.amt x hx
  · rw [sumC_perm hzp]
    simp only [sumC]
    omega
theorem Twin.empty : Twin USet.empty RC.empty := ⟨[], rfl, rfl, List.Perm.refl _, List.Pairwise.nil, Inv.empty, fun _ h => (by cases h), by decide⟩
theorem Twin.add {S : USet} {R : RC} (h : Twin S R) (p : Pt) (c : Coin) : Twin (S.add p c) (R.add p c) := by
  obtain ⟨zs, h⟩ := h
  unfold USet.add RC.add
  rw [h.okB]
  split
  · rename_i hok; exact h.add1 hok
  · exact ⟨zs, h⟩
end
end Go.Proofs.YtnpkdoggfnlapaaGreatDoor
namespace Go.Proofs.YtnpkdoggfnlapaaGreatDoor
set_option maxRecDepth 100000
open Go.Sx
def u32 (x : Int) : Value := .int .u32 x
theorem bitI_u64_nonneg (op : BinOp) (a b : Int) : 0 ≤ bitI op .u64 a b := by
  unfold bitI
  split <;> (rw [IntKind.wrap_u64]; omega)
def rotS (k : Int) : Int := bitI .and .u64 (IntKind.u64.wrap k) 31
def rotL (x k : Int) : Int := bitI .or .u32 (shlI .u32 x (rotS k)) (shrI .u32 x (IntKind.u64.wrap (32 - rotS k)))
theorem rotl_spec (x k : Int) (M : Mem) (d : Nat) : CallSpec Tryz.prog 245 [.one (.raw (.int .u32 x)), .one (.raw (.int .i64 k))] M d { v := XV.int .u32 (rotL x k) } [] := by
  refine spec_pure Tryz.mixed Tryz.T_ok Tryz.func245 rfl _ _ rfl rfl (fun C _ => ?_) M d
  (refine xB ?_)
  refine wN (bitI_u64_nonneg _ _ _) ?_
  (refine xG ?_)
  refine wN (by rw [IntKind.wrap_u64]; omega) ?_
  (refine xG ?_)
  exact Ends.plain (.inr rfl) rfl rfl
def rotR (x n : Int) : Int := rotL x (IntKind.i64.wrap (0 - n))
theorem right_spec (x n : Int) (M : Mem) (d : Nat) : CallSpec Tryz.prog 232 [.one (.raw (.int .u32 x)), .one (.raw (.int .i64 n))] M d { v := XV.int .u32 (rotR x n) } [] := by
  refine spec_pure Tryz.mixed Tryz.T_ok Tryz.func232 rfl _ _ rfl rfl (fun C _ => ?_) M d
  (refine xB ?_)
  (apply wP; exact (call_op rfl (entersB_of Tryz.func245 (by kernel_rfl)) rfl (rotl_spec _ _ _ _)); refine xZ ?_)
  exact Ends.plain (.inr rfl) rfl rfl
def turn (x n : Int) : Int := bitI .or .u32 (shrI .u32 x n) (shlI .u32 x (IntKind.u64.wrap (32 - n)))
theorem turned_spec (x n : Int) (hn : 0 ≤ n) (M : Mem) (d : Nat) : CallSpec Tryz.prog 151 [.one (.raw (.int .u32 x)), .one (.raw (.int .u64 n))] M d { v := XV.int .u32 (turn x n) } [] := by
  refine spec_pure Tryz.mixed Tryz.T_ok Tryz.func151 rfl _ _ rfl rfl (fun C _ => ?_) M d
  (refine xB ?_)
  refine wN hn ?_
  (refine xG ?_)
  refine wN (by rw [IntKind.wrap_u64]; omega) ?_
  (refine xG ?_)
  exact Ends.plain (.inr rfl) rfl rfl
theorem bitI_or_comm (k : IntKind) (a b : Int) : bitI .or k a b = bitI .or k b a := by simp only [bitI, BitVec.or_comm]
theorem turn_eq (x : Int) {n : Int} (h : rotS (IntKind.i64.wrap (0 - n)) = IntKind.u64.wrap (32 - n)) (h2 : IntKind.u64.wrap (32 - rotS (IntKind.i64.wrap (0 - n))) = n) : turn x n = rotR x n := by
  unfold rotR rotL turn
  rw [h2, h]
  exact bitI_or_comm _ _ _
theorem turn2 (x : Int) : turn x 2 = rotR x 2 := turn_eq x (by decide) (by decide)
theorem turn6 (x : Int) : turn x 6 = rotR x 6 := turn_eq x (by decide) (by decide)
theorem turn7 (x : Int) : turn x 7 = rotR x 7 := turn_eq x (by decide) (by decide)
theorem turn11 (x : Int) : turn x 11 = rotR x 11 := turn_eq x (by decide) (by decide)
theorem turn13 (x : Int) : turn x 13 = rotR x 13 := turn_eq x (by decide) (by decide)
theorem turn17 (x : Int) : turn x 17 = rotR x 17 := turn_eq x (by decide) (by decide)
theorem turn18 (x : Int) : turn x 18 = rotR x 18 := turn_eq x (by decide) (by decide)
theorem turn19 (x : Int) : turn x 19 = rotR x 19 := turn_eq x (by decide) (by decide)
theorem turn22 (x : Int) : turn x 22 = rotR x 22 := turn_eq x (by decide) (by decide)
theorem turn25 (x : Int) : turn x 25 = rotR x 25 := turn_eq x (by decide) (by decide)
def w32 (a b : Int) : Int := IntKind.u32.wrap (a + b)
def sg0 (x : Int) : Int := bitI .xor .u32 (bitI .xor .u32 (rotR x 7) (rotR x 18)) (shrI .u32 x 3)
def sg1 (x : Int) : Int := bitI .xor .u32 (bitI .xor .u32 (rotR x 17) (rotR x 19)) (shrI .u32 x 10)
def push (w : Int) (x : UInt8) : Int := bitI .or .u32 (shlI .u32 w 8) (IntKind.u32.wrap (x.toNat : Int))
def word (b : Nat → UInt8) (i : Nat) : Int := push (push (push (push 0 (b (4 * i))) (b (4 * i + 1))) (b (4 * i + 2))) (b (4 * i + 3))
def mix (w : Nat → Int) (n : Nat) : Int := w32 (w32 (w32 (w (n - 16)) (w (n - 7))) (sg0 (w (n - 15)))) (sg1 (w (n - 2)))
def sched (b : Nat → UInt8) : Nat → Nat → Int
  | 0 => fun _ => 0
  | n + 1 => fun k => if k = n then (if n < 16 then word b n else mix (sched b n) n) else sched b n k
theorem sched_step (b : Nat → UInt8) (n k : Nat) : sched b (n + 1) k = if k = n then (if n < 16 then word b n else mix (sched b n) n) else sched b n k := rfl
theorem sched_fresh (b : Nat → UInt8) : ∀ n k, n ≤ k → sched b n k = 0
  | 0, k, _ => rfl
  | n + 1, k, h => by rw [sched_step, if_neg (by omega)]; exact sched_fresh b n k (by omega)
theorem bv_of (x : BitVec 32) : BitVec.ofInt 32 (x.toNat : Int) = x := by
  apply BitVec.eq_of_toInt_eq
  rw [BitVec.toInt_ofInt, BitVec.toInt_eq_toNat_bmod]
theorem or_bv (x y : BitVec 32) : bitI .or .u32 (x.toNat : Int) (y.toNat : Int) = ((x ||| y).toNat : Int) := by
  show IntKind.u32.wrap (((BitVec.ofInt 32 (x.toNat : Int) ||| BitVec.ofInt 32 (y.toNat : Int)).toNat : Int)) = _
  rw [bv_of, bv_of, IntKind.wrap_u32]
  have := (x ||| y).isLt
  exact Int.emod_eq_of_lt (by omega) (by omega)
theorem shl_bv (x : BitVec 32) (n : Nat) (hn : n < 32) : shlI .u32 (x.toNat : Int) (n : Int) = ((x <<< n).toNat : Int) := by
  show IntKind.u32.wrap ((x.toNat : Int) * 2 ^ (min ((n : Int).toNat) 32)) = _
  have e : min ((n : Int).toNat) 32 = n := by omega
  rw [e, IntKind.wrap_u32, BitVec.toNat_shiftLeft, Nat.shiftLeft_eq, Int.natCast_emod, Int.natCast_mul, Int.natCast_pow]
  rfl
def b32 (x : UInt8) : BitVec 32 := BitVec.ofNat 32 x.toNat
theorem b32_int (x : UInt8) : IntKind.u32.wrap (x.toNat : Int) = ((b32 x).toNat : Int) := by
  have := x.toNat_lt
  rw [IntKind.wrap_u32, b32, BitVec.toNat_ofNat]
  omega
def word4 (b : Nat → UInt8) (i : Nat) : Int :=
  bitI .or .u32 (bitI .or .u32 (bitI .or .u32 (shlI .u32 (IntKind.u32.wrap ((b (4 * i)).toNat : Int)) 24) (shlI .u32 (IntKind.u32.wrap ((b (4 * i + 1)).toNat : Int)) 16)) (shlI .u32 (IntKind.u32.wrap ((b (4 * i + 2)).toNat : Int)) 8)) (IntKind.u32.wrap ((b (4 * i + 3)).toNat : Int))
theorem word4_eq (b : Nat → UInt8) (i : Nat) : word4 b i = word b i := by
  have h8 : ∀ x : BitVec 32, shlI .u32 (x.toNat : Int) 8 = ((x <<< 8).toNat : Int) := fun x => shl_bv x 8 (by decide)
  have h16 : ∀ x : BitVec 32, shlI .u32 (x.toNat : Int) 16 = ((x <<< 16).toNat : Int) := fun x => shl_bv x 16 (by decide)
  have h24 : ∀ x : BitVec 32, shlI .u32 (x.toNat : Int) 24 = ((x <<< 24).toNat : Int) := fun x => shl_bv x 24 (by decide)
  have h0 : (0 : Int) = ((0 : BitVec 32).toNat : Int) := rfl
  simp only [word4, word, push, b32_int]
  rw [h0]
  simp only [h8, h16, h24, or_bv]
  congr 2
  generalize b32 (b (4 * i)) = p
  generalize b32 (b (4 * i + 1)) = q
  generalize b32 (b (4 * i + 2)) = r
  generalize b32 (b (4 * i + 3)) = s
  apply BitVec.eq_of_getLsbD_eq
  intro j hj
  simp only [BitVec.getLsbD_or, BitVec.getLsbD_shiftLeft]
  by_cases c8 : j < 8
  · simp [c8, show j < 16 by omega, show j < 24 by omega]
  · by_cases c16 : j < 16
    · simp [c8, c16, show j < 24 by omega, hj, show j - 8 < 8 by omega, show j - 8 < 32 by omega]
    · by_cases c24 : j < 24
      · simp [c8, c16, c24, hj, show ¬ j - 8 < 8 by omega, show j - 16 < 8 by omega, show j - 8 < 32 by omega, show j - 8 - 8 = j - 16 by omega]
      · simp [c8, c16, c24, hj, show ¬ j - 8 < 8 by omega, show ¬ j - 16 < 8 by omega, show j - 8 < 32 by omega, show j - 16 < 32 by omega, show j - 8 - 8 = j - 16 by omega, show j - 16 - 8 = j - 24 by omega, Bool.or_assoc]
theorem w32_comm (a b : Int) : w32 a b = w32 b a := by unfold w32; rw [Int.add_comm]
theorem w32_assoc (a b c : Int) : w32 (w32 a b) c = w32 a (w32 b c) := by
  unfold w32
  simp only [IntKind.wrap_u32]
  omega
theorem mix_ref (a b c d : Int) : w32 (w32 (w32 a c) b) d = w32 (w32 (w32 a b) c) d := by
  rw [w32_assoc a c b, w32_comm c b, ← w32_assoc]
end Go.Proofs.YtnpkdoggfnlapaaGreatDoor

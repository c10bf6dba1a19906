/- Parts Re Rf Zg Zh Zi Px Ur Ui Uj Uk Um Pd Pn Pq Zm Zo Zp Bb Bc Bd Be. -/
import Derived.Test.YtnpkdoggfnlapaaGreatDoorG21
import Derived.Test.YtnpkdoggfnlapaaGreatDoorG20
import Derived.Test.YtnpkdoggfnlapaaGreatDoorG15
import Derived.Test.YtnpkdoggfnlapaaGreatDoorG13
import Derived.Test.YtnpkdoggfnlapaaGreatDoorG06
import Derived.Test.YtnpkdoggfnlapaaGreatDoorG17
import Derived.Test.YtnpkdoggfnlapaaGreatDoorG12
import Derived.Test.YtnpkdoggfnlapaaGreatDoorG19
import Derived.Sort.Statements
set_option linter.unusedSimpArgs false
set_option linter.unusedVariables false
namespace Go.Proofs.YtnpkdoggfnlapaaGreatDoor
set_option maxRecDepth 100000
open Go.Sx
theorem rowB_joinL {a b : List UInt8} {f g : Nat → List Value} {m : Nat} (hm : m = a.length) (hf : ∀ i, i < a.length → f i = rowB a i) (hg : ∀ i, i < b.length → g i = rowB b i) : ∀ i, i < (a ++ b).length → joinF f m g i = rowB (a ++ b) i := fun i hi => rowB_join hm hf hg (by rw [← List.length_append]; exact hi)
theorem zadd {f : Nat → List Value} {n : Nat} : ∀ i, i < n → f (0 + i) = f i := fun i _ => by rw [Nat.zero_add]
def outsB (l : List OutM) (i : Nat) : List UInt8 := (numL (l.length : Int) 1 :: (l.take i).flatMap OutM.parts).flatten
theorem outsB_succ {l : List OutM} {i : Nat} (hi : i < l.length) : outsB l (i + 1) = outsB l i ++ (l.getD i default).to.l ++ numL (l.getD i default).amt.toInt 7 := by
  rw [outsB, outsB, flatMap_take_succ _ hi]
  simp [OutM.parts]
theorem outsB_all (l : List OutM) : outsB l l.length = (outsParts l).flatten := by rw [outsB, List.take_length, outsParts]
theorem outsB_len (l : List OutM) : ∀ i, i ≤ l.length → (outsB l i).length = 1 + 15 * i
  | 0, _ => by simp [outsB, numL_length]
  | i + 1, h => by rw [outsB_succ h, List.length_append, List.length_append, outsB_len l i (by omega), numL_length, H8.l_len]; omega
set_option maxHeartbeats 1000000 in
theorem routsB_can (l : List OutM) (hn : l.length ≤ 1000) : Makes Tryz.prog 89 [.row 9 l.length (outsF l)] [] (XV.sv (.slc 0 1 0 (outsParts l).flatten.length)) (.vec 5 1 (outsParts l).flatten.length (rowB (outsParts l).flatten)) := by
  refine Makes.of Tryz.T_ok Tryz.func89 rfl _ _ _ _ rfl rfl rfl rfl 1 (fun C hC => ?_)
  (replace hC : C.n0 = 1 := hC; change Tri _ _ _ ⟨_, _, 1⟩ _)
  (refine Tri.cut 2 Tryz.mixed Tryz.T_ok ?_; refine xZ ?_)
  (apply wP; exact (call_op rfl (entersB_of Tryz.func72 (by kernel_rfl)) rfl ((num_can (l.length : Int) 1 (by decide)).at [] ⟨lend_plain rfl, lend_plain rfl, trivial⟩ trivial)); refine xZ ?_)
  refine wD <| cutG <| Tri.seq ?_
  (refine Tri.cut 1 Tryz.mixed Tryz.T_ok ?_; refine xZ ?_)
  refine wD <| cutG <| Tri.block ?_
  refine Tri.loop (α := { i : Nat // i ≤ l.length }) (fun i => ⟨[some (XV.sv (.slc 0 9 0 l.length)), none, none, some (XV.sv (.slc 1 1 0 (outsB l i.1).length)), some (XV.int .i64 i.1)] ++ List.replicate 24 none, [(0, .ro 9 l.length (outsF l)), (1, .vec 5 1 (outsB l i.1).length (rowB (outsB l i.1)))], 2⟩) (fun i => l.length - i.1) ⟨0, Nat.zero_le _⟩ ?_ ?_
  · dsimp only
    rw [outsB_len l 0 (Nat.zero_le _)]
    ((try dsimp only); refine Ent.renC [0, 4] hC ?_ ?_ <;> repeat' (first | exact trivial | exact rfl | exact ⟨_, rfl, rfl, rfl, Nat.le_refl _, fun _ _ => rfl⟩ | exact ⟨_, rfl, rfl, rfl, fun _ _ => rfl⟩ | exact ⟨_, rfl, rfl, rfl⟩ | exact ⟨_, rfl, rfl⟩ | refine ⟨_, rfl, rfl, rfl, by omega, fun k hk => ?_⟩ | refine ⟨?_, ?_⟩ | fail))
  rintro ⟨i, hi⟩
  dsimp only
  have hl := outsB_len l i hi
  (refine Tri.cut 1 Tryz.mixed Tryz.T_ok ?_; refine xZ ?_)
  refine wC (fun h1 => ?_) (fun h1 => ?_)
  · (refine xG ?_)
    have h1' : i < l.length := xW
    have hw : IntKind.i64.wrap ((i : Int) + 1) = ((i + 1 : Nat) : Int) := xW
    refine wD <| cutG <| Tri.seq <| Tri.block <| Tri.of Tryz.mixed Tryz.T_ok ?_
    (refine xB ?_)
    (repeat (refine wN ?_ ?_; exact xW; refine xG ?_))
    simp only [Nat.zero_add, Int.toNat_natCast]
    (refine wP _ _ (append_op Tryz.T_ok rfl rfl rfl rfl rfl [1, 0] (old_vec rfl rfl (Nat.le_refl _) rfl) (new_elem (i := i) (j := 0) (g := rowB (l.getD i default).to.l) rfl rfl rfl (by omega) h1' (fun _ _ => rfl) rfl) rfl (fun _ _ => rfl) (by simp only [maxLen]; omega) (by dsimp only; omega)) ?_; refine xZ ?_)
    (repeat (refine wN ?_ ?_; exact xW; refine xG ?_))
    simp only [Nat.zero_add, Int.toNat_natCast]
    (apply wP; exact (call_op rfl (entersB_of Tryz.func72 (by kernel_rfl)) rfl ((num_can (l.getD i default).amt.toInt 7 (by decide)).at [] ⟨lend_plain rfl, lend_plain rfl, trivial⟩ trivial)); refine xZ ?_)
    (refine wP _ _ (append_op Tryz.T_ok rfl rfl rfl rfl rfl [12, 18] (old_vec rfl rfl (Nat.le_refl _) rfl) (new_vec (lo := 0) rfl rfl (Nat.le_refl _) rfl) rfl (fun _ _ => rfl) (by simp only [maxLen]; omega) (by dsimp only; omega)) ?_; refine xZ ?_)
    refine wD <| blockN <| cutG <| Tri.of Tryz.mixed Tryz.T_ok ?_
    (refine xB ?_)
    refine wD <| loopN ⟨⟨i + 1, h1'⟩, by dsimp only; omega, ?_⟩
    rw [hw]
    dsimp only
    rw [outsB_succ h1', List.length_append, List.length_append]
    ((try dsimp only); refine Ent.renC [0, 19] hC ?_ ?_ <;> repeat' (first | exact trivial | exact rfl | exact ⟨_, rfl, rfl, rfl, Nat.le_refl _, fun _ _ => rfl⟩ | exact ⟨_, rfl, rfl, rfl, fun _ _ => rfl⟩ | exact ⟨_, rfl, rfl, rfl⟩ | exact ⟨_, rfl, rfl⟩ | refine ⟨_, rfl, rfl, rfl, by omega, fun k hk => ?_⟩ | refine ⟨?_, ?_⟩ | fail))
    · exact Nat.le_refl _
    rw [← List.length_append, ← List.length_append]
    exact rowB_joinL (by rw [List.length_append]; rfl) (rowB_joinL rfl (fun _ _ => rfl) (fun _ _ => rfl)) zadd
  · (refine xG ?_)
    have h1' : i = l.length := xW
    subst h1'
    rw [outsB_all]
    refine wD <| cutE <| loopX <| blockX <| cutG <| Tri.of Tryz.mixed Tryz.T_ok ?_
    (refine xB ?_)
    exact wD (Ends.made (.inr rfl) (Ent.refl _) rfl (Nat.le_of_ble_eq_true rfl) rfl)
end Go.Proofs.YtnpkdoggfnlapaaGreatDoor
namespace Go.Proofs.YtnpkdoggfnlapaaGreatDoor
set_option maxRecDepth 100000
open Go.Sx
end Go.Proofs.YtnpkdoggfnlapaaGreatDoor
namespace Go.Proofs.YtnpkdoggfnlapaaGreatDoor
set_option maxRecDepth 100000
open Go.Sx
end Go.Proofs.YtnpkdoggfnlapaaGreatDoor
namespace Go.Proofs.YtnpkdoggfnlapaaGreatDoor
set_option maxRecDepth 100000
open Go.Sx
theorem noPar0 : Reads Tryz.prog 108 [.box par0.ac] [] (XV.bool true) := noPar_can par0 (Nat.zero_le _)
end Go.Proofs.YtnpkdoggfnlapaaGreatDoor
namespace Go.Proofs.YtnpkdoggfnlapaaGreatDoor
set_option maxRecDepth 100000
open Go.Sx
end Go.Proofs.YtnpkdoggfnlapaaGreatDoor
namespace Go.Proofs.YtnpkdoggfnlapaaGreatDoor
set_option maxRecDepth 100000
open Go.Lib Go.Sort
def bigL : List UInt8 → Nat
  | [] => 0
  | x :: r => x.toNat * 256 ^ r.length + bigL r
theorem bigL_lt : ∀ l : List UInt8, bigL l < 256 ^ l.length
  | [] => by simp [bigL]
  | x :: r => by
    have := bigL_lt r
    have h := x.toNat_lt
    simp only [bigL, List.length_cons, Nat.pow_succ]
    have : (x.toNat + 1) * 256 ^ r.length ≤ 256 * 256 ^ r.length := Nat.mul_le_mul_right _ (by omega)
    rw [Nat.add_mul, Nat.one_mul] at this
    omega
theorem num_step (x y : UInt8) (m a b : Nat) (ha : a < m) (hb : b < m) : (x.toNat * m + a < y.toNat * m + b ↔ x.toNat < y.toNat ∨ (x = y ∧ a < b)) ∧ (x.toNat * m + a = y.toNat * m + b ↔ x = y ∧ a = b) := by
  rcases Nat.lt_trichotomy x.toNat y.toNat with h | h | h
  · have h1 : (x.toNat + 1) * m ≤ y.toNat * m := Nat.mul_le_mul_right _ h
    rw [Nat.add_mul, Nat.one_mul] at h1
    have hne : x ≠ y := fun e => by rw [e] at h; omega
    exact ⟨⟨fun _ => .inl h, fun _ => by omega⟩, ⟨fun e => by omega, fun e => absurd e.1 hne⟩⟩
  · have e : x = y := UInt8.toNat_inj.1 h
    subst e
    exact ⟨⟨fun h => .inr ⟨rfl, by omega⟩, fun h => by rcases h with h | h <;> omega⟩, ⟨fun h => ⟨rfl, by omega⟩, fun h => by omega⟩⟩
  · have h1 : (y.toNat + 1) * m ≤ x.toNat * m := Nat.mul_le_mul_right _ h
    rw [Nat.add_mul, Nat.one_mul] at h1
    have hne : x ≠ y := fun e => by rw [e] at h; omega
    exact ⟨⟨fun _ => by omega, fun e => by rcases e with e | e; omega; exact absurd e.1 hne⟩, ⟨fun e => by omega, fun e => absurd e.1 hne⟩⟩
theorem bigL_inj : ∀ {a b : List UInt8}, a.length = b.length → bigL a = bigL b → a = b
  | [], [], _, _ => rfl
  | x :: a, y :: b, hl, h => by
    have hl' : a.length = b.length := by simpa using hl
    simp only [bigL, hl'] at h
    obtain ⟨rfl, h2⟩ := (num_step x y _ _ _ (hl' ▸ bigL_lt a) (bigL_lt b)).2.1 h
    rw [bigL_inj hl' h2]
theorem ltL_num : ∀ {a b : List UInt8}, a.length = b.length → (ltL a b = true ↔ bigL a < bigL b)
  | [], [], _ => by simp [ltL, bigL]
  | x :: a, y :: b, hl => by
    have hl' : a.length = b.length := by simpa using hl
    have h := (num_step x y _ _ _ (hl' ▸ bigL_lt a) (bigL_lt b)).1
    simp only [ltL, bigL, hl', h]
    by_cases e : x = y
    · subst e; simp [ltL_num hl']
    · simp [e, UInt8.lt_iff_toNat_lt]
def Pt.num (p : Pt) : Nat := bigL p.tx.l
theorem Pt.num_tx {p q : Pt} : p.num = q.num ↔ p.tx = q.tx := by
  constructor
  · intro h
    have h := bigL_inj (a := p.tx.l) (b := q.tx.l) rfl h
    obtain ⟨⟨_, _, _, _, _, _, _, _⟩, _⟩ := p
    obtain ⟨⟨_, _, _, _, _, _, _, _⟩, _⟩ := q
    simp only [H8.l, List.cons.injEq, and_true] at h
    obtain ⟨rfl, rfl, rfl, rfl, rfl, rfl, rfl, rfl⟩ := h
    rfl
  · intro h; simp only [Pt.num, h]
theorem ltPt_num (p q : Pt) : ltPt p q = true ↔ p.num < q.num ∨ (p.num = q.num ∧ p.no.toInt < q.no.toInt) := by
  unfold ltPt
  simp only [Bool.or_eq_true, Bool.and_eq_true, decide_eq_true_eq, ltL_num (a := p.tx.l) (b := q.tx.l) rfl, Pt.num_tx]
  rfl
theorem ltPt_false (p q : Pt) : ltPt p q = false ↔ ¬ (p.num < q.num ∨ (p.num = q.num ∧ p.no.toInt < q.no.toInt)) := by
  rw [← ltPt_num]; simp
theorem ltPt_swo : SWO ltPt where
  irrefl x := by rw [ltPt_false]; omega
  trans x y z h1 h2 := by rw [ltPt_num] at *; omega
  ntrans x y z h1 h2 := by rw [ltPt_false] at *; omega
theorem Pt.eq_of {p q : Pt} (h1 : p.num = q.num) (h2 : p.no.toInt = q.no.toInt) : p = q := by
  have h1 := Pt.num_tx.1 h1
  have h2 := Int64.toInt_inj.1 h2
  obtain ⟨_, _⟩ := p
  obtain ⟨_, _⟩ := q
  subst h1 h2
  rfl
theorem ltPt_total (x y : Pt) (h1 : ltPt x y = false) (h2 : ltPt y x = false) : x = y := by
  rw [ltPt_false] at *
  exact Pt.eq_of (by omega) (by omega)
end Go.Proofs.YtnpkdoggfnlapaaGreatDoor
namespace Go.Proofs.YtnpkdoggfnlapaaGreatDoor
set_option maxRecDepth 100000
open Go.Sx
theorem wrap_i64 {n : Int} (h1 : -9223372036854775808 ≤ n) (h2 : n < 9223372036854775808) : IntKind.i64.wrap n = n := by
  have e1 : IntKind.i64.bits = 64 := rfl
  have e2 : IntKind.i64.signed = true := rfl
  simp only [IntKind.wrap, e1, e2, Bool.true_and]
  split <;> rename_i h <;> simp only [ge_iff_le, decide_eq_true_eq] at h <;> omega
structure RC where
  P : List Pt
  C : List Coin
def RC.mem (R : RC) : Mem := [(0, .cells 78 [.slc 1 9 0 R.P.length, .slc 2 11 0 R.C.length]), (1, .vec 65 9 R.P.length fun i => (R.P.getD i default).cells), (2, .vec 162 11 R.C.length fun i => (R.C.getD i default).cells)]
def rcP (R : RC) : AbsP := packP R.mem True
def RC.empty : RC := ⟨[], []⟩
end Go.Proofs.YtnpkdoggfnlapaaGreatDoor
namespace Go.Proofs.YtnpkdoggfnlapaaGreatDoor
set_option maxRecDepth 100000
open Go.Sx
def RC.root (R : RC) (i1 i2 : Nat) : Chunk := .cells 78 [.slc i1 9 0 R.P.length, .slc i2 11 0 R.C.length]
def RC.vecP (R : RC) : Chunk := .vec 65 9 R.P.length fun i => (R.P.getD i default).cells
def RC.vecC (R : RC) : Chunk := .vec 162 11 R.C.length fun i => (R.C.getD i default).cells
def RC.sumN (R : RC) : Nat → Int
  | 0 => 0
  | i + 1 => IntKind.i64.wrap (R.sumN i + (R.C.getD i default).amt.toInt)
def posIn (p : Pt) : List Pt → Nat
  | [] => 0
  | q :: r => if ltPt q p = true then posIn p r + 1 else 0
def RC.pos (R : RC) (p : Pt) : Nat := posIn p R.P
def RC.isAt (R : RC) (p : Pt) : Bool := decide (R.pos p < R.P.length) && decide (R.P.getD (R.pos p) default = p)
end Go.Proofs.YtnpkdoggfnlapaaGreatDoor
namespace Go.Proofs.YtnpkdoggfnlapaaGreatDoor
set_option maxRecDepth 100000
open Go.Sx
theorem RC.opens {P : Program} {C : Ctx} {cd : Code} {slots : List (Option XV)} {mem : Mem} {nx : Nat} {Q : Exit → St → Prop} (R : RC) (c : Nat) (hc : mem.get c = some (.abs (rcP R)))
    (h : Tri P C cd ⟨slots, (c, R.root (nx + 1) (nx + 2)) :: (nx + 1, R.vecP) :: (nx + 2, R.vecC) :: mem.del c, nx + 3⟩ Q) : Tri P C cd ⟨slots, mem, nx⟩ Q :=
  Tri.opens (M := R.mem) (m := 3) (inv := True) (c := c) hc rfl fun _ => h
theorem RC.shuts {C : Ctx} {slots : List (Option XV)} {mem : Mem} {nx : Nat} (R : RC) (c : Nat) {i1 i2 m1 m2 n1 n2 : Nat} {f g : Nat → List Value}
    (k0 : mem.get c = some (.cells 78 [.slc i1 9 0 m1, .slc i2 11 0 m2])) (k1 : mem.get i1 = some (.vec 65 9 n1 f)) (k2 : mem.get i2 = some (.vec 162 11 n2 g))
    (hids : (Nat.beq c i1 || Nat.beq c i2 || Nat.beq i1 i2) = false) (hm1 : m1 = R.P.length) (hm2 : m2 = R.C.length) (hl1 : R.P.length ≤ n1) (hl2 : R.C.length ≤ n2) (hf : ∀ i, i < R.P.length → f i = (R.P.getD i default).cells) (hg : ∀ i, i < R.C.length → g i = (R.C.getD i default).cells) :
    Ent C ⟨slots, mem, nx⟩ ⟨slots, (c, .abs (rcP R)) :: mem.dels [c, i1, i2], nx⟩ := by
  subst hm1 hm2
  exact Ent.shut3 (S := ⟨slots, mem, nx⟩) (M := R.mem) (inv := True) hids trivial rfl rfl rfl rfl k0 k1 k2 rfl ⟨rfl, rfl⟩ ⟨rfl, rfl, hl1, hf⟩ ⟨rfl, rfl, hl2, hg⟩
end Go.Proofs.YtnpkdoggfnlapaaGreatDoor
namespace Go.Proofs.YtnpkdoggfnlapaaGreatDoor
set_option maxRecDepth 100000
open Go.Sx
def RC.okB (R : RC) (p : Pt) (c : Coin) : Bool := !(R.isAt p) && !(decide (p.no.toInt < 0)) && !(decide (255 < p.no.toInt)) && !(decide (c.amt.toInt < 1)) && !(decide (1125899906842624 < c.amt.toInt)) && !(decide (IntKind.i64.wrap (1125899906842624 - c.amt.toInt) < R.sumN R.C.length))
def RC.add1 (R : RC) (p : Pt) (c : Coin) : RC := ⟨R.P.take (R.pos p) ++ p :: R.P.drop (R.pos p), R.C.take (R.pos p) ++ c :: R.C.drop (R.pos p)⟩
def RC.add (R : RC) (p : Pt) (c : Coin) : RC := if R.okB p c = true then R.add1 p c else R
theorem RC.ends {C : Ctx} {T : TyTab} {rs : List ResultVar} {X X' : XV} {e : Exit} {slots : List (Option XV)} {mem : Mem} {nx : Nat} {R0 : RC} (R : RC) {i1 i2 m1 m2 n1 n2 : Nat} {f g : Nat → List Value} (he : e = .normal ∨ e = .ret)
    (k0 : mem.get 0 = some (.cells 78 [.slc i1 9 0 m1, .slc i2 11 0 m2])) (k1 : mem.get i1 = some (.vec 65 9 n1 f)) (k2 : mem.get i2 = some (.vec 162 11 n2 g))
    (hids : (Nat.beq 0 i1 || Nat.beq 0 i2 || Nat.beq i1 i2) = false) (hr : resX T ⟨slots, (0, .abs (rcP R)) :: mem.dels [0, i1, i2], nx⟩ rs = some X') (hX : X' = X) (hR : R = R0) (hm1 : m1 = R.P.length) (hm2 : m2 = R.C.length) (hl1 : R.P.length ≤ n1) (hl2 : R.C.length ≤ n2)
    (hf : ∀ i, i < R.P.length → f i = (R.P.getD i default).cells) (hg : ∀ i, i < R.C.length → g i = (R.C.getD i default).cells) : Sx.Ends C T rs 1 1 ⟨X, [(0, .abs (rcP R0))], none⟩ e ⟨slots, mem, nx⟩ := by
  subst hX hR
  refine ⟨he, _, RC.shuts R 0 k0 k1 k2 hids hm1 hm2 hl1 hl2 hf hg, hr, fun i ch h => ?_, fun i ch h => by cases h⟩
  simp only [Mem.get, nbeq] at h
  by_cases hk : 0 = i
  · subst hk
    simp only [decide_true, cond_true, Option.some.injEq] at h
    exact ⟨by omega, by rw [← h]; rfl⟩
  · simp [hk] at h
end Go.Proofs.YtnpkdoggfnlapaaGreatDoor
namespace Go.Proofs.YtnpkdoggfnlapaaGreatDoor
set_option maxRecDepth 100000
open Go.Sx
def RC.get (R : RC) (p : Pt) : Coin := if R.isAt p = true then R.C.getD (R.pos p) default else coin0
end Go.Proofs.YtnpkdoggfnlapaaGreatDoor
namespace Go.Proofs.YtnpkdoggfnlapaaGreatDoor
set_option maxRecDepth 100000
open Go.Sx
def keysND (l : List (Pt × Coin)) : Prop := (l.map (·.1)).Nodup
theorem mput_perm : ∀ {l : List (Pt × Coin)} {k : Pt} {v : Coin}, keysND l → (mput l k v).Perm ((k, v) :: l.filter (fun x => x.1 ≠ k))
  | [], k, v, _ => List.Perm.refl _
  | x :: r, k, v, h => by
    simp only [keysND, List.map_cons, List.nodup_cons] at h
    simp only [mput]
    by_cases hk : x.1 = k
    · have hr : r.filter (fun x => x.1 ≠ k) = r := by
        rw [List.filter_eq_self]
        intro y hy
        have : y.1 ≠ k := fun e => h.1 (by rw [hk, ← e]; exact List.mem_map.2 ⟨y, hy, rfl⟩)
        simpa using this
      rw [if_pos hk, List.filter_cons_of_neg (by simpa using hk), hr]
    · rw [if_neg hk, List.filter_cons_of_pos (by simpa using hk)]
      exact ((mput_perm h.2).cons x).trans (List.Perm.swap _ _ _)
theorem nd_filter {l : List (Pt × Coin)} {k : Pt} (h : keysND l) : keysND (l.filter (fun x => x.1 ≠ k)) := by
  have := (List.filter_sublist (p := fun x : Pt × Coin => decide (x.1 ≠ k)) (l := l)).map (·.1)
  exact h.sublist this
theorem nd_mput {l : List (Pt × Coin)} {k : Pt} {v : Coin} (h : keysND l) : keysND (mput l k v) := by
  have hp := (mput_perm (k := k) (v := v) h).map (·.1)
  unfold keysND
  rw [hp.nodup_iff, List.map_cons, List.nodup_cons]
  refine ⟨fun hm => ?_, nd_filter h⟩
  obtain ⟨y, hy, he⟩ := List.mem_map.1 hm
  have := (List.mem_filter.1 hy).2
  simp [he] at this
theorem mget_key : ∀ {l : List (Pt × Coin)} {k : Pt}, (mget l k).isSome = false → ∀ x ∈ l, x.1 ≠ k
  | [], k, _, x, hx => by cases hx
  | y :: r, k, h, x, hx => by
    simp only [mget] at h
    by_cases hk : y.1 = k
    · rw [if_pos hk] at h; cases h
    · rw [if_neg hk] at h
      rcases List.mem_cons.1 hx with rfl | hx
      · exact hk
      · exact mget_key h x hx
theorem wrap_add (a b : Int) : IntKind.i64.wrap (IntKind.i64.wrap a + b) = IntKind.i64.wrap (a + b) := by
  have e1 : IntKind.i64.bits = 64 := rfl
  have e2 : IntKind.i64.signed = true := rfl
  simp only [IntKind.wrap, e1, e2, Bool.true_and]
  split <;> split <;> split <;> rename_i h h' h'' <;> simp only [ge_iff_le, decide_eq_true_eq] at h h' h'' <;> omega
def sumC : List (Pt × Coin) → Int
  | [] => 0
  | x :: r => x.2.amt.toInt + sumC r
theorem sumC_perm {l l' : List (Pt × Coin)} (h : l.Perm l') : sumC l = sumC l' := by
  induction h with
  | nil => rfl
  | cons x _ ih => simp only [sumC, ih]
  | swap x y l => simp only [sumC]; omega
  | trans _ _ h1 h2 => rw [h1, h2]
theorem mget_of_mem : ∀ {l : List (Pt × Coin)} {k : Pt} {v : Coin}, keysND l → (k, v) ∈ l → mget l k = some v
  | x :: r, k, v, hn, h => by
    simp only [keysND, List.map_cons, List.nodup_cons] at hn
    simp only [mget]
    rcases List.mem_cons.1 h with rfl | h
    · simp
    · have : x.1 ≠ k := fun e => hn.1 (e ▸ List.mem_map.2 ⟨_, h, rfl⟩)
      rw [if_neg this]
      exact mget_of_mem hn.2 h
structure Inv (S : USet) : Prop where
  nd : keysND S.coins
  tot : S.total = IntKind.i64.wrap (sumC S.coins)
theorem Inv.empty : Inv USet.empty := ⟨List.nodup_nil, rfl⟩
theorem okB_has {S : USet} {p : Pt} {c : Coin} (h : S.okB p c = true) : S.has p = false := by
  simp only [USet.okB, Bool.and_eq_true, Bool.not_eq_true'] at h
  exact h.1.2
theorem Inv.add {S : USet} (h : Inv S) (p : Pt) (c : Coin) : Inv (S.add p c) := by
  unfold USet.add
  split
  · rename_i hok
    have hh := mget_key (okB_has hok)
    refine ⟨nd_mput h.nd, ?_⟩
    simp only [USet.add1, USet.put, h.tot, wrap_add]
    congr 1
    have hf : S.coins.filter (fun x => x.1 ≠ p) = S.coins := by
      rw [List.filter_eq_self]
      intro y hy
      simpa using hh y hy
    have := sumC_perm (mput_perm (k := p) (v := c) h.nd)
    rw [hf] at this
    rw [this]
    simp only [sumC]
    omega
  · exact h
section
variable {S : USet} {R : RC} {zs : List (Pt × Coin)}
structure TwinZ (S : USet) (R : RC) (zs : List (Pt × Coin)) : Prop where
  P : R.P = zs.map (·.1)
  C : R.C = zs.map (·.2)
  perm : zs.Perm S.coins
  srt : zs.Pairwise fun a b => ltPt a.1 b.1 = true
  inv : Inv S
  amt : ∀ x ∈ zs, 1 ≤ x.2.amt.toInt
  most : sumC zs ≤ 1125899906842624
def Twin (S : USet) (R : RC) : Prop := ∃ zs, TwinZ S R zs
theorem sumC_append (a b : List (Pt × Coin)) : sumC (a ++ b) = sumC a + sumC b := by
  induction a with
  | nil => simp [sumC]
  | cons x r ih => simp only [List.cons_append, sumC, ih]; omega
theorem sumC_pos {l : List (Pt × Coin)} (h : ∀ x ∈ l, 1 ≤ x.2.amt.toInt) : 0 ≤ sumC l := by
  induction l with
  | nil => simp [sumC]
  | cons x r ih =>
    have := h x (by simp)
    have := ih (fun y hy => h y (by simp [hy]))
    simp only [sumC]; omega
theorem ltPt_trans {a b c : Pt} (h1 : ltPt a b = true) (h2 : ltPt b c = true) : ltPt a c = true := ltPt_swo.trans a b c h1 h2
theorem ltPt_irr (a : Pt) : ltPt a a = false := ltPt_swo.irrefl a
theorem posIn_split {p : Pt} : ∀ {zs : List (Pt × Coin)}, zs.Pairwise (fun a b => ltPt a.1 b.1 = true) → posIn p (zs.map (·.1)) ≤ zs.length ∧ (∀ x ∈ zs.take (posIn p (zs.map (·.1))), ltPt x.1 p = true) ∧ (∀ x ∈ zs.drop (posIn p (zs.map (·.1))), ltPt x.1 p = false)
  | [], _ => by simp [posIn]
  | z :: r, h => by
    rw [List.pairwise_cons] at h
    obtain ⟨h1, h2, h3⟩ := posIn_split (p := p) h.2
    simp only [List.map_cons, posIn]
    by_cases hz : ltPt z.1 p = true
    · rw [if_pos hz]
      refine ⟨by simp; omega, fun x hx => ?_, fun x hx => ?_⟩
      · rw [List.take_succ_cons] at hx
        rcases List.mem_cons.1 hx with rfl | hx
        · exact hz
        · exact h2 x hx
      · rw [List.drop_succ_cons] at hx
        exact h3 x hx
    · rw [if_neg hz]
      have hz' : ltPt z.1 p = false := by simpa using hz
      refine ⟨by simp, fun x hx => by simp at hx, fun x hx => ?_⟩
      rw [List.drop_zero] at hx
      rcases List.mem_cons.1 hx with rfl | hx
      · exact hz'
      · cases hy : ltPt x.1 p with
        | false => rfl
        | true => have := ltPt_trans (h.1 x hx) hy; rw [hz'] at this; cases this
theorem TwinZ.len (h : TwinZ S R zs) : R.P.length = zs.length ∧ R.C.length = zs.length := by rw [h.P, h.C]; simp
theorem TwinZ.nd (h : TwinZ S R zs) : keysND zs := by
  have := h.perm.map (fun x : Pt × Coin => x.1)
  exact this.nodup_iff.2 h.inv.nd
theorem TwinZ.at (h : TwinZ S R zs) {i : Nat} (hi : i < zs.length) : R.P.getD i default = (zs[i]).1 ∧ R.C.getD i default = (zs[i]).2 ∧ mget S.coins (zs[i]).1 = some (zs[i]).2 := by
  refine ⟨?_, ?_, mget_of_mem h.inv.nd (h.perm.mem_iff.1 (List.getElem_mem hi))⟩
  · rw [h.P]; simp [List.getD_eq_getElem?_getD, hi]
  · rw [h.C]; simp [List.getD_eq_getElem?_getD, hi]
theorem TwinZ.total (h : TwinZ S R zs) : S.total = sumC zs ∧ 0 ≤ sumC zs := by
  have h0 := sumC_pos h.amt
  have := h.most
  refine ⟨?_, h0⟩
  rw [h.inv.tot, ← sumC_perm h.perm]
  exact wrap_i64 (by omega) (by omega)
theorem TwinZ.sumN (h : TwinZ S R zs) : ∀ i, i ≤ zs.length → R.sumN i = IntKind.i64.wrap (sumC (zs.take i))
  | 0, _ => by simp [RC.sumN, sumC]; rfl
  | i + 1, hi => by
    have hil : i < zs.length := by omega
    rw [RC.sumN, h.sumN i (by omega), wrap_add, (h.at hil).2.1, List.take_succ_eq_append_getElem hil, sumC_append]
    simp [sumC]
theorem TwinZ.sum (h : TwinZ S R zs) : R.sumN R.C.length = S.total := by
  rw [h.len.2, h.sumN _ (Nat.le_refl _), List.take_length, h.inv.tot, sumC_perm h.perm]
theorem mget_some_iff : ∀ {l : List (Pt × Coin)} {k : Pt}, (mget l k).isSome = true ↔ k ∈ l.map (·.1)
  | [], _ => by simp [mget]
  | x :: r, k => by
    rw [mget]
    by_cases e : x.1 = k
    · rw [if_pos e]; simp [e]
    · rw [if_neg e, mget_some_iff, List.map_cons, List.mem_cons]
      exact ⟨Or.inr, fun h => h.resolve_left fun h => e h.symm⟩
theorem TwinZ.has_iff (h : TwinZ S R zs) (p : Pt) : S.has p = true ↔ p ∈ zs.map (·.1) := by
  rw [USet.has, mget_some_iff]
  exact (h.perm.map (·.1)).mem_iff.symm
theorem TwinZ.pos (h : TwinZ S R zs) (p : Pt) : R.pos p = posIn p (zs.map (·.1)) := by rw [RC.pos, h.P]
theorem TwinZ.isAt_iff (h : TwinZ S R zs) (p : Pt) : R.isAt p = true ↔ p ∈ zs.map (·.1) := by
  obtain ⟨h1, h2, h3⟩ := posIn_split (p := p) h.srt
  have hp := h.pos p
  unfold RC.isAt
  simp only [Bool.and_eq_true, decide_eq_true_eq, hp, h.len.1]
  constructor
  · rintro ⟨hl, he⟩
    rw [(h.at hl).1] at he
    exact List.mem_map.2 ⟨_, List.getElem_mem hl, he⟩
  · intro hm
    obtain ⟨x, hx, rfl⟩ := List.mem_map.1 hm
    have hx' : x ∈ zs.drop (posIn x.1 (zs.map (·.1))) := by
      rw [← List.take_append_drop (posIn x.1 (zs.map (·.1))) zs] at hx
      rcases List.mem_append.1 hx with hx | hx
      · have := h2 x hx; rw [ltPt_irr] at this; cases this
      · exact hx
    have hl : posIn x.1 (zs.map (·.1)) < zs.length := by
      have := List.length_pos_of_mem hx'
      rw [List.length_drop] at this; omega
    refine ⟨hl, ?_⟩
    rw [(h.at hl).1]
    have hd := List.drop_eq_getElem_cons hl
    rw [hd] at hx'
    rcases List.mem_cons.1 hx' with e | hx'
    · rw [← e]
    · have hs := h.srt.drop (i := posIn x.1 (zs.map (·.1)))
      rw [hd, List.pairwise_cons] at hs
      have h4 := hs.1 x hx'
      have h5 := h3 _ (by rw [hd]; exact List.mem_cons_self ..)
      rw [h5] at h4; cases h4
theorem TwinZ.isAt (h : TwinZ S R zs) (p : Pt) : R.isAt p = S.has p := by
  rw [Bool.eq_iff_iff, h.isAt_iff, h.has_iff]
theorem TwinZ.okB (h : TwinZ S R zs) (p : Pt) (c : Coin) : R.okB p c = S.okB p c := by
  have ht := h.total
  have hm := h.most
  rw [Bool.eq_iff_iff]
  simp only [RC.okB, USet.okB, h.isAt, h.sum, bothB, mayB, Bool.and_eq_true, Bool.not_eq_true', decide_eq_false_iff_not, decide_eq_true_eq, ht.1]
  have hc := c.amt.toInt_lt
  by_cases ha : 1 ≤ c.amt.toInt ∧ c.amt.toInt ≤ 1125899906842624
  · rw [wrap_i64 (n := 1125899906842624 - c.amt.toInt) (by omega) (by omega), wrap_i64 (n := sumC zs + c.amt.toInt) (by omega) (by omega)]
    constructor
    · rintro ⟨⟨⟨⟨⟨a1, a2⟩, a3⟩, a4⟩, a5⟩, a6⟩; exact ⟨⟨⟨⟨by omega, by omega⟩, by omega⟩, a1⟩, ⟨⟨⟨by omega, by omega⟩, ⟨by omega, by omega⟩⟩, ⟨by omega, by omega⟩⟩⟩
    · rintro ⟨⟨⟨⟨a1, a2⟩, a3⟩, a4⟩, ⟨⟨⟨a5, a6⟩, ⟨a7, a8⟩⟩, ⟨a9, a10⟩⟩⟩; exact ⟨⟨⟨⟨⟨a4, by omega⟩, by omega⟩, by omega⟩, by omega⟩, by omega⟩
  · constructor
    · rintro ⟨⟨⟨⟨⟨a1, a2⟩, a3⟩, a4⟩, a5⟩, a6⟩; omega
    · rintro ⟨⟨⟨⟨a1, a2⟩, a3⟩, a4⟩, ⟨⟨⟨a5, a6⟩, ⟨a7, a8⟩⟩, ⟨a9, a10⟩⟩⟩; omega
theorem TwinZ.get (h : TwinZ S R zs) (p : Pt) : R.get p = S.get p := by
  unfold RC.get
  by_cases hp : R.isAt p = true
  · rw [if_pos hp]
    have hp' := hp
    simp only [RC.isAt, Bool.and_eq_true, decide_eq_true_eq] at hp'
    have hl : R.pos p < zs.length := by rw [← h.len.1]; exact hp'.1
    have ha := h.at hl
    rw [hp'.2] at ha
    have h2 := ha.2.2
    rw [← ha.1] at h2
    unfold USet.get
    rw [h2, ha.2.1]
    rfl
  · rw [if_neg hp]
    rw [h.isAt] at hp
    unfold USet.has at hp
    unfold USet.get
    cases hm : mget S.coins p with
    | none => rfl
    | some v => rw [hm] at hp; exact absurd rfl hp
theorem TwinZ.add1 (h : TwinZ S R zs) {p : Pt} {c : Coin} (hok : S.okB p c = true) : Twin (S.add1 p c) (R.add1 p c) := by
  obtain ⟨h1, h2, h3⟩ := posIn_split (p := p) h.srt
  have hhas := okB_has hok
  have hnot : p ∉ zs.map (·.1) := fun hm => by rw [(h.has_iff p).2 hm] at hhas; cases hhas
  have hokR := hok
  rw [← h.okB] at hokR
  simp only [RC.okB, h.sum, Bool.and_eq_true, Bool.not_eq_true', decide_eq_false_iff_not, h.total.1] at hokR
  obtain ⟨⟨⟨⟨⟨_, _⟩, _⟩, a4⟩, a5⟩, a6⟩ := hokR
  have h0 := h.total.2
  have hm := h.most
  rw [wrap_i64 (by omega) (by omega)] at a6
  have hzp : (zs.take (R.pos p) ++ (p, c) :: zs.drop (R.pos p)).Perm ((p, c) :: zs) := by
    refine List.perm_middle.trans ?_
    rw [List.take_append_drop]
  have hinv : Inv (S.add1 p c) := by
    have := h.inv.add p c
    unfold USet.add at this
    rwa [if_pos hok] at this
  refine ⟨zs.take (R.pos p) ++ (p, c) :: zs.drop (R.pos p), ?_, ?_, ?_, ?_, hinv, ?_, ?_⟩
  · simp only [RC.add1, h.P, List.map_append, List.map_cons, List.map_take, List.map_drop]
  · simp only [RC.add1, h.C, List.map_append, List.map_cons, List.map_take, List.map_drop]
  · have hc : (S.add1 p c).coins = S.coins ++ [(p, c)] := by
      simp only [USet.add1, USet.put]
      exact mput_none (mget_key hhas)
    rw [hc]
    exact (hzp.trans (h.perm.cons _)).trans (List.perm_append_singleton _ _).symm
  · rw [h.pos]
    have hsplit := h.srt
    rw [← List.take_append_drop (posIn p (zs.map (·.1))) zs, List.pairwise_append] at hsplit
    obtain ⟨s1, s2, s3⟩ := hsplit
    rw [List.pairwise_append]
    refine ⟨s1, ?_, fun x hx y hy => ?_⟩
    · rw [List.pairwise_cons]
      refine ⟨fun y hy => ?_, s2⟩
      have hy1 := h3 y hy
      have hne : y.1 ≠ p := fun e => hnot (List.mem_map.2 ⟨y, List.mem_of_mem_drop hy, e⟩)
      show ltPt p y.1 = true
      cases hl : ltPt p y.1 with
      | true => rfl
      | false => exact absurd (ltPt_total _ _ hl hy1).symm hne
    · rcases List.mem_cons.1 hy with rfl | hy
      · exact h2 x hx
      · exact s3 x hx y hy
  · intro x hx
    rcases List.mem_cons.1 (hzp.mem_iff.1 hx) with rfl | hx
    · show 1 ≤ c.amt.toInt; omega
    · exact h.amt x hx
  · rw [sumC_perm hzp]
    simp only [sumC]
    omega
theorem Twin.empty : Twin USet.empty RC.empty := ⟨[], rfl, rfl, List.Perm.refl _, List.Pairwise.nil, Inv.empty, fun _ h => (by cases h), by decide⟩
theorem Twin.add {S : USet} {R : RC} (h : Twin S R) (p : Pt) (c : Coin) : Twin (S.add p c) (R.add p c) := by
  obtain ⟨zs, h⟩ := h
  unfold USet.add RC.add
  rw [h.okB]
  split
  · rename_i hok; exact h.add1 hok
  · exact ⟨zs, h⟩
end
end Go.Proofs.YtnpkdoggfnlapaaGreatDoor
namespace Go.Proofs.YtnpkdoggfnlapaaGreatDoor
set_option maxRecDepth 100000
open Go.Sx
def AlikeR (S : USet) (R : RC) : Prop := ∀ p, R.isAt p = S.has p ∧ R.get p = S.get p
end Go.Proofs.YtnpkdoggfnlapaaGreatDoor
namespace Go.Proofs.YtnpkdoggfnlapaaGreatDoor
set_option maxRecDepth 100000
open Go.Sx
theorem Twin.look {S : USet} {R : RC} (h : Twin S R) : AlikeR S R := fun p => by
  obtain ⟨zs, hz⟩ := h
  exact ⟨hz.isAt p, hz.get p⟩
theorem Twin.okB {S : USet} {R : RC} (h : Twin S R) (p : Pt) (c : Coin) : R.okB p c = S.okB p c := by
  obtain ⟨zs, hz⟩ := h
  exact hz.okB p c
theorem Twin.add1 {S : USet} {R : RC} (h : Twin S R) {p : Pt} {c : Coin} (hok : S.okB p c = true) : Twin (S.add1 p c) (R.add1 p c) := by
  obtain ⟨zs, hz⟩ := h
  exact hz.add1 hok
end Go.Proofs.YtnpkdoggfnlapaaGreatDoor
namespace Go.Proofs.YtnpkdoggfnlapaaGreatDoor
set_option maxRecDepth 100000
open Go.Sx
end Go.Proofs.YtnpkdoggfnlapaaGreatDoor
namespace Go.Proofs.YtnpkdoggfnlapaaGreatDoor
set_option maxRecDepth 100000
open Go.Sx
theorem join_ints {l : List Int} {a : Int} {f g : Nat → List Value} {n : Nat} (hn : n = l.length) (hf : ∀ i, i < l.length → f i = intsF l i) (hg : g 0 = [.int .i64 a]) {i : Nat} (hi : i < n + 1) : joinF f n g i = intsF (l ++ [a]) i := by
  subst hn
  by_cases h : i < l.length
  · have e : Nat.blt i l.length = true := by rw [nblt]; exact decide_eq_true h
    simp only [joinF, e, cond_true]
    rw [hf i h, intsF, intsF, List.getD_eq_getElem?_getD, List.getD_eq_getElem?_getD, List.getElem?_append_left h]
  · have e : Nat.blt i l.length = false := by rw [nblt]; exact decide_eq_false h
    obtain rfl : i = l.length := by omega
    simp only [joinF, e, cond_false]
    rw [Nat.sub_self, hg, intsF, List.getD_eq_getElem?_getD, List.getElem?_append_right (Nat.le_refl _), Nat.sub_self]; rfl
end Go.Proofs.YtnpkdoggfnlapaaGreatDoor
namespace Go.Proofs.YtnpkdoggfnlapaaGreatDoor
set_option maxRecDepth 100000
open Go.Sx
section
variable {C : Ctx} {slots : List (Option XV)} {mem : Mem} {nx : Nat}
end
theorem cut1_one {n : Int} : ∀ i, i < 1 → ((cutF [Value.int .i64 n] 1 (0 + i)).all fun v => v.oneCell') = true := fun i hi => by
  obtain rfl := Nat.lt_one_iff.1 hi
  rfl
end Go.Proofs.YtnpkdoggfnlapaaGreatDoor
namespace Go.Proofs.YtnpkdoggfnlapaaGreatDoor
set_option maxRecDepth 100000
open Go.Sx
def outAmts (l : List OutM) (i : Nat) : List Int := (l.take i).map fun o => o.amt.toInt
theorem outAmts_len {l : List OutM} {i : Nat} (hi : i ≤ l.length) : (outAmts l i).length = i := by rw [outAmts, List.length_map, List.length_take]; omega
theorem outAmts_succ {l : List OutM} {i : Nat} (hi : i < l.length) : outAmts l (i + 1) = outAmts l i ++ [(l.getD i default).amt.toInt] := by
  rw [outAmts, List.take_add_one, List.getElem?_eq_getElem hi, List.map_append, List.getD_eq_getElem?_getD, List.getElem?_eq_getElem hi]; rfl
def csSt (c : CertM) (i : Nat) : St :=
  ⟨[none, none, none, none, some (XV.sv (.slc 2 1 0 i)), none, none, none, some (XV.sv (.slc 0 9 0 c.outs.length)), some (XV.int .i64 c.outs.length), some (XV.int .i64 i)] ++ List.replicate 13 none,
   [(0, .ro 9 c.outs.length (outsF c.outs)), (2, .vec 3 1 i (intsF (outAmts c.outs i)))], 3⟩
set_option maxHeartbeats 4000000 in
theorem csum_can (c : CertM) (hl : c.outs.length ≤ 1000000) : Reads Tryz.prog 125 [.box c.ac] [] (sumX (outAmts c.outs c.outs.length)) := by
  have hsum := msum_can (outAmts c.outs c.outs.length) (by rw [outAmts_len (Nat.le_refl _)]; omega)
  rw [outAmts_len (Nat.le_refl _)] at hsum
  refine Reads.of Tryz.T_ok Tryz.func125 rfl _ _ _ rfl rfl (fun C hC => ?_)
  (replace hC : C.n0 = 2 := hC; change Tri _ _ _ ⟨_, _, 2⟩ _)
  (refine Tri.cut 2 Tryz.mixed Tryz.T_ok ?_; refine xZ ?_)
  refine wD <| cutG <| Tri.ent (Ent.nils (t := 4) rfl 3 1) <| Tri.seq ?_
  (refine Tri.cut 1 Tryz.mixed Tryz.T_ok ?_; refine xZ ?_)
  refine wD <| cutG <| Tri.block ?_
  refine Tri.loop (α := { i : Nat // i ≤ c.outs.length }) (fun i => csSt c i.1) (fun i => c.outs.length - i.1) ⟨0, Nat.zero_le _⟩ ?_ ?_
  · unfold csSt
    ((try dsimp only); refine Ent.renC [0, 1, 6] hC ?_ ?_ <;> repeat' (first | exact trivial | exact rfl | exact ⟨_, rfl, rfl, rfl, Nat.le_refl _, fun _ _ => rfl⟩ | exact ⟨_, rfl, rfl, rfl, fun _ _ => rfl⟩ | exact ⟨_, rfl, rfl, rfl⟩ | exact ⟨_, rfl, rfl⟩ | refine ⟨_, rfl, rfl, rfl, by omega, fun k hk => ?_⟩ | refine ⟨?_, ?_⟩ | fail))
    all_goals exact absurd ‹_ < 0› (Nat.not_lt_zero _)
  rintro ⟨i, hi⟩
  dsimp only
  unfold csSt
  (refine Tri.cut 2 Tryz.mixed Tryz.T_ok ?_; refine xZ ?_)
  refine wC (fun h1 => ?_) (fun h1 => ?_)
  · (refine xG ?_)
    have h1' : i < c.outs.length := xW
    have hw : IntKind.i64.wrap ((i : Int) + 1) = ((i + 1 : Nat) : Int) := xW
    have hal := outAmts_len (l := c.outs) hi
    refine wD <| cutG <| Tri.seq <| Tri.block <| Tri.of Tryz.mixed Tryz.T_ok ?_
    (refine xB ?_)
    (repeat (refine wN ?_ ?_; exact xW; refine xG ?_))
    simp only [Nat.zero_add, Int.toNat_natCast]
    (refine wP _ _ (append_op Tryz.T_ok rfl rfl rfl rfl rfl [2, 11] (old_vec rfl rfl (Nat.le_refl _) rfl) (new_vec (lo := 0) rfl rfl (Nat.le_of_eq (Nat.zero_add _)) rfl) rfl cut1_one (by simp only [maxLen]; omega) (by dsimp only; omega)) ?_; refine xZ ?_)
    refine wD <| blockN <| cutG <| Tri.of Tryz.mixed Tryz.T_ok ?_
    (refine xB ?_)
    refine wD <| loopN ⟨⟨i + 1, h1'⟩, by dsimp only; omega, ?_⟩
    rw [hw]
    dsimp only
    rw [outAmts_succ h1']
    ((try dsimp only); refine Ent.renC [0, 1, 12] hC ?_ ?_ <;> repeat' (first | exact trivial | exact rfl | exact ⟨_, rfl, rfl, rfl, Nat.le_refl _, fun _ _ => rfl⟩ | exact ⟨_, rfl, rfl, rfl, fun _ _ => rfl⟩ | exact ⟨_, rfl, rfl, rfl⟩ | exact ⟨_, rfl, rfl⟩ | refine ⟨_, rfl, rfl, rfl, by omega, fun k hk => ?_⟩ | refine ⟨?_, ?_⟩ | fail))
    all_goals exact join_ints hal.symm (fun _ _ => rfl) rfl ‹_ < i + 1›
  · (refine xG ?_)
    have h1' : i = c.outs.length := xW
    subst h1'
    refine wD <| cutE <| loopX <| blockX <| cutG <| Tri.of Tryz.mixed Tryz.T_ok ?_
    (refine xB ?_)
    (apply wP; exact (call_op rfl (entersB_of Tryz.func167 (by kernel_rfl)) rfl (hsum.at [2] ⟨lend_vecN (lo := 0) rfl rfl rfl (Nat.le_of_eq (Nat.zero_add _)) (fun i _ => by rw [Nat.zero_add]; rfl), trivial⟩ trivial)); refine xZ ?_)
    exact wD (Ends.plain (.inr rfl) rfl rfl)
end Go.Proofs.YtnpkdoggfnlapaaGreatDoor
namespace Go.Proofs.YtnpkdoggfnlapaaGreatDoor
set_option maxRecDepth 100000
open Go.Sx
def openX (x : SideM) (e h : Int) : Bool := timedB x && (withinB e 0 400 && (decide (endsX x e < h) && decide (h ≤ wr (endsX x e + x.par.win))))
set_option maxHeartbeats 4000000 in
theorem sopen_can (x : SideM) (e h : Int) : Reads Tryz.prog 163 [.box x.ac, .plain (.one (.raw (.int .i64 e))), .plain (.one (.raw (.int .i64 h)))] [] (XV.bool (openX x e h)) := by
  refine Reads.of Tryz.T_ok Tryz.func163 rfl _ _ _ rfl rfl (fun C hC => ?_)
  (replace hC : C.n0 = 6 := hC; change Tri _ _ _ ⟨_, _, 6⟩ _)
  have hn := ends_can x e
  have ht := timed_can x
  have hx : openX x e h = (timedB x && (withinB e 0 400 && (decide (endsX x e < h) && decide (h ≤ wr (endsX x e + x.par.win))))) := rfl
  rw [hx]
  obtain ⟨E, hE⟩ : ∃ E, endsX x e = E := ⟨_, rfl⟩
  obtain ⟨tb, htb⟩ : ∃ tb, timedB x = tb := ⟨_, rfl⟩
  rw [hE] at hn ⊢
  rw [htb] at ht ⊢
  refine Tri.of Tryz.mixed Tryz.T_ok ?_
  (refine xB ?_)
  (apply wP; exact (call_op rfl (entersB_of Tryz.func28 (by kernel_rfl)) rfl (hn.at [0, 1, 2, 3] ⟨lend_side (x := x) (lend_ro0 rfl rfl) (lend_ro0 rfl rfl) (lend_ro0 rfl rfl) (lend_ro0 rfl rfl), lend_plain rfl, trivial⟩ trivial)); refine xZ ?_)
  (apply wP; exact (call_op rfl (entersB_of Tryz.func60 (by kernel_rfl)) rfl (ht.at [0, 1, 2, 3] ⟨lend_side (x := x) (lend_ro0 rfl rfl) (lend_ro0 rfl rfl) (lend_ro0 rfl rfl) (lend_ro0 rfl rfl), trivial⟩ trivial)); refine xZ ?_)
  refine wC (fun h1 => ?_) (fun h1 => ?_)
  rotate_left
  · (refine xG ?_)
    exact wD (Ends.plain (.inr rfl) rfl (by rw [h1]; rfl))
  (refine xG ?_)
  (apply wP; exact (call_op rfl (entersB_of Tryz.func61 (by kernel_rfl)) rfl ((rwithin_can e 0 400).at [] ⟨lend_plain rfl, lend_plain rfl, lend_plain rfl, trivial⟩ trivial)); refine xZ ?_)
  refine wC (fun h2 => ?_) (fun h2 => ?_)
  rotate_left
  · (refine xG ?_)
    exact wD (Ends.plain (.inr rfl) rfl (by rw [h1, h2]; rfl))
  (refine xG ?_)
  refine wC (fun h3 => ?_) (fun h3 => ?_)
  rotate_left
  · (refine xG ?_)
    exact wD (Ends.plain (.inr rfl) rfl (by rw [h1, h2, h3]; rfl))
  (refine xG ?_)
  exact wD (Ends.plain (.inr rfl) rfl (by rw [h1, h2, h3]; rfl))
def fitsX (x : SideM) (c : CertM) (h : Int) (fin : H8) : Int :=
  if x.ceased = true then 14
  else if (!openX x c.ep h || decide (c.fin ≠ fin)) = true then 9
  else if (x.pend && decide (c.qual ≤ x.cert.qual)) = true then 10
  else if (!(sumM 0 (outAmts c.outs c.outs.length)).isSome || decide (x.bal < (sumM 0 (outAmts c.outs c.outs.length)).getD 0)) = true then 5
  else 0
set_option maxHeartbeats 8000000 in
theorem fits_can (x : SideM) (c : CertM) (h : Int) (fin : H8) (hl : c.outs.length ≤ 1000000) : Reads Tryz.prog 121 [.box x.ac, .box c.ac, .plain (.one (.raw (.int .i64 h))), .plain fin.x] [] (XV.int .i64 (fitsX x c h fin)) := by
  refine Reads.of Tryz.T_ok Tryz.func121 rfl _ _ _ rfl rfl (fun C hC => ?_)
  (replace hC : C.n0 = 8 := hC; change Tri _ _ _ ⟨_, _, 8⟩ _)
  have hsm := csum_can c hl
  have hop := sopen_can x c.ep h
  have hfx : fitsX x c h fin = if x.ceased = true then 14 else if (!openX x c.ep h || decide (c.fin ≠ fin)) = true then 9 else if (x.pend && decide (c.qual ≤ x.cert.qual)) = true then 10 else if (!(sumM 0 (outAmts c.outs c.outs.length)).isSome || decide (x.bal < (sumM 0 (outAmts c.outs c.outs.length)).getD 0)) = true then 5 else 0 := rfl
  rw [hfx]
  unfold sumX at hsm
  obtain ⟨n, hn⟩ : ∃ n, (sumM 0 (outAmts c.outs c.outs.length)).getD 0 = n := ⟨_, rfl⟩
  obtain ⟨ok, hok⟩ : ∃ ok, (sumM 0 (outAmts c.outs c.outs.length)).isSome = ok := ⟨_, rfl⟩
  obtain ⟨ob, hob⟩ : ∃ ob, openX x c.ep h = ob := ⟨_, rfl⟩
  rw [hn, hok] at hsm ⊢
  rw [hob] at hop ⊢
  refine Tri.of Tryz.mixed Tryz.T_ok ?_
  (refine xB ?_)
  (apply wP; exact (call_op rfl (entersB_of Tryz.func125 (by kernel_rfl)) rfl (hsm.at [4, 5] ⟨lend_cert (c := c) (lend_ro0 rfl rfl) (lend_ro0 rfl rfl), trivial⟩ trivial)); refine xZ ?_)
  refine wC (fun h1 => ?_) (fun h1 => ?_)
  · (refine xG ?_)
    exact wD (Ends.plain (.inr rfl) rfl (by rw [if_pos h1]))
  (refine xG ?_)
  rw [if_neg (by rw [h1]; simp)]
  (apply wP; exact (call_op rfl (entersB_of Tryz.func163 (by kernel_rfl)) rfl (hop.at [0, 1, 2, 3] ⟨lend_side (x := x) (lend_ro0 rfl rfl) (lend_ro0 rfl rfl) (lend_ro0 rfl rfl) (lend_ro0 rfl rfl), lend_plain rfl, lend_plain rfl, trivial⟩ trivial)); refine xZ ?_)
  refine wC (fun h2 => ?_) (fun h2 => ?_)
  · (refine xG ?_)
    exact wD (Ends.plain (.inr rfl) rfl (by rw [if_pos (by rw [h2]; rfl)]))
  (refine xG ?_)
  (refine wP _ _ (neq_op hashE rfl c.fin fin rfl rfl) ?_; refine xZ ?_)
  refine wC (fun h3 => ?_) (fun h3 => ?_)
  · (refine xG ?_)
    exact wD (Ends.plain (.inr rfl) rfl (by rw [if_pos (by rw [h2, Bool.false_or]; simpa using h3)]))
  (refine xG ?_)
  rw [if_neg (by rw [h2, Bool.false_or]; simpa using h3)]
  refine wC (fun h4 => ?_) (fun h4 => ?_)
  · (refine xG ?_)
    refine wC (fun h5 => ?_) (fun h5 => ?_)
    · (refine xG ?_)
      exact wD (Ends.plain (.inr rfl) rfl (by rw [if_pos (by rw [h4, Bool.true_and]; exact h5)]))
    (refine xG ?_)
    rw [if_neg (by rw [h4, Bool.true_and, h5]; simp)]
    refine wC (fun h6 => ?_) (fun h6 => ?_)
    · (refine xG ?_)
      exact wD (Ends.plain (.inr rfl) rfl (by rw [if_pos (by rw [h6]; rfl)]))
    (refine xG ?_)
    refine wC (fun h7 => ?_) (fun h7 => ?_)
    · (refine xG ?_)
      exact wD (Ends.plain (.inr rfl) rfl (by rw [if_pos (by rw [h6, Bool.false_or]; exact h7)]))
    (refine xG ?_)
    exact wD (Ends.plain (.inr rfl) rfl (by rw [if_neg (by rw [h6, Bool.false_or, h7]; simp)]))
  (refine xG ?_)
  rw [if_neg (by rw [h4, Bool.false_and]; simp)]
  refine wC (fun h6 => ?_) (fun h6 => ?_)
  · (refine xG ?_)
    exact wD (Ends.plain (.inr rfl) rfl (by rw [if_pos (by rw [h6]; rfl)]))
  (refine xG ?_)
  refine wC (fun h7 => ?_) (fun h7 => ?_)
  · (refine xG ?_)
    exact wD (Ends.plain (.inr rfl) rfl (by rw [if_pos (by rw [h6, Bool.false_or]; exact h7)]))
  (refine xG ?_)
  exact wD (Ends.plain (.inr rfl) rfl (by rw [if_neg (by rw [h6, Bool.false_or, h7]; simp)]))
end Go.Proofs.YtnpkdoggfnlapaaGreatDoor
namespace Go.Proofs.YtnpkdoggfnlapaaGreatDoor
set_option maxRecDepth 100000
open Go.Sx
def SgdM.x (s : SgdM) : CV := .agg (s.cells.map .raw)
def rightB (p : ParM) (m : H8) (s : SgdM) : Bool := decide (0 ≤ s.key) && (decide (s.key < p.keys.length) && chkT (p.keys.getD s.key.toNat default) m s.sig)
set_option maxHeartbeats 8000000 in
theorem right_can (p : ParM) (m : H8) (s : SgdM) : Reads Tryz.prog 164 [.box p.ac, .plain m.x, .plain s.x] [stepsP] (XV.bool (rightB p m s)) := by
  refine Reads.of Tryz.T_ok Tryz.func164 rfl _ _ _ rfl rfl (fun C hC => ?_)
  (replace hC : C.n0 = 4 := hC; change Tri _ _ _ ⟨_, _, 4⟩ _)
  have hk := kcheck_can (p.keys.getD s.key.toNat default) m s.sig
  have hr : rightB p m s = (decide (0 ≤ s.key) && (decide (s.key < p.keys.length) && chkT (p.keys.getD s.key.toNat default) m s.sig)) := rfl
  rw [hr]
  obtain ⟨b, hb⟩ : ∃ b, chkT (p.keys.getD s.key.toNat default) m s.sig = b := ⟨_, rfl⟩
  rw [hb] at hk ⊢
  refine Tri.of Tryz.mixed Tryz.T_ok ?_
  (refine xB ?_)
  refine wC (fun h1 => ?_) (fun h1 => ?_)
  rotate_left
  · (refine xG ?_)
    exact wD (Ends.plain (.inr rfl) rfl (by rw [h1]; rfl))
  (refine xG ?_)
  refine wC (fun h2 => ?_) (fun h2 => ?_)
  rotate_left
  · (refine xG ?_)
    exact wD (Ends.plain (.inr rfl) rfl (by rw [h1, h2]; rfl))
  have h1' := of_decide_eq_true h1
  have h2' := of_decide_eq_true h2
  (refine xG ?_)
  refine wN ⟨h1', h2'⟩ ?_
  (refine xG ?_)
  simp only [Nat.zero_add]
  refine wN (show s.key.toNat < p.keys.length by omega) ?_
  (refine xG ?_)
  (apply wP; exact (call_op rfl (entersB_of Tryz.func197 (by kernel_rfl)) rfl (hk.at [3] ⟨lend_plain rfl, lend_plain rfl, lend_plain rfl, trivial⟩ ⟨lend_ext (c := 3) rfl rfl, trivial⟩)); refine xZ ?_)
  exact wD (Ends.plain (.inr rfl) rfl (by rw [h1, h2]; rfl))
def ordG (p : ParM) (m : H8) : Int → List SgdM → Bool
  | _, [] => true
  | last, s :: r => !(decide (s.key ≤ last)) && (rightB p m s && ordG p m s.key r)
def quorB (p : ParM) (m : H8) (l : List SgdM) : Bool := parB p && (!(decide ((l.length : Int) < p.need)) && ordG p m (-1) l)
def quSt (p : ParM) (m : H8) (l : List SgdM) (last : Int) (i : Nat) : St :=
  ⟨[none, none, none, some (XV.sv (.ptr 4 0 0 0)), some (XV.sv (.ptr 5 0 0 0)), none, none, some (XV.int .i64 last)] ++ List.replicate 12 none ++ [some (XV.sv (.slc 2 282 0 l.length)), some (XV.int .i64 l.length), some (XV.int .i64 i)] ++ List.replicate 17 none,
   [(0, .ro 8 p.keys.length (keysF p.keys)), (2, .ro 282 l.length (sgdsF l)), (3, .ext stepsP), (4, .cells 40 (boxC 0 p.ac)), (5, .cells 29 (m.cells.map .raw))], 6⟩
set_option maxHeartbeats 8000000 in
theorem quor_can (p : ParM) (m : H8) (l : List SgdM) (hp : p.keys.length ≤ 1000000000) (hl : l.length ≤ 1000000) : Reads Tryz.prog 122 [.box p.ac, .plain m.x, .row 282 l.length (sgdsF l)] [stepsP] (XV.bool (quorB p m l)) := by
  refine Reads.of Tryz.T_ok Tryz.func122 rfl _ _ _ rfl rfl (fun C hC => ?_)
  (replace hC : C.n0 = 4 := hC; change Tri _ _ _ ⟨_, _, 4⟩ _)
  have hq := qmay_can p hp
  have hx : quorB p m l = (parB p && (!(decide ((l.length : Int) < p.need)) && ordG p m (-1) l)) := rfl
  rw [hx]
  obtain ⟨pb, hpb⟩ : ∃ pb, parB p = pb := ⟨_, rfl⟩
  rw [hpb] at hq ⊢
  (refine Tri.cut 3 Tryz.mixed Tryz.T_ok ?_; refine xZ ?_)
  (apply wP; exact (call_op rfl (entersB_of Tryz.func116 (by kernel_rfl)) rfl (hq.at [0] ⟨lend_par (p := p) (lend_ro0 rfl rfl), trivial⟩ trivial)); refine xZ ?_)
  refine wC (fun h1 => ?_) (fun h1 => ?_)
  · have h1' : pb = false := by simpa using h1
    (refine xG ?_)
    exact wD <| cutR <| Ends.plain (.inr rfl) rfl (by rw [h1']; rfl)
  have h1' : pb = true := by simpa using h1
  (refine xG ?_)
  refine wC (fun h2 => ?_) (fun h2 => ?_)
  · (refine xG ?_)
    exact wD <| cutR <| Ends.plain (.inr rfl) rfl (by rw [h1', h2]; rfl)
  rw [h1', h2, Bool.true_and, Bool.not_false, Bool.true_and]
  (refine xG ?_)
  refine wD <| cutG <| Tri.seq ?_
  (refine Tri.cut 1 Tryz.mixed Tryz.T_ok ?_; refine xZ ?_)
  refine wD <| cutG <| Tri.block ?_
  refine Tri.loop (α := { x : Nat × Int // x.1 ≤ l.length ∧ ordG p m (-1) l = ordG p m x.2 (l.drop x.1) }) (fun x => quSt p m l x.1.2 x.1.1) (fun x => l.length - x.1.1) ⟨(0, -1), Nat.zero_le _, by rw [List.drop_zero]⟩ ?_ ?_
  · unfold quSt
    ((try dsimp only); refine Ent.renC [0, 1, 2, 3, 4, 5] hC ?_ ?_ <;> repeat' (first | exact trivial | exact rfl | exact ⟨_, rfl, rfl, rfl, Nat.le_refl _, fun _ _ => rfl⟩ | exact ⟨_, rfl, rfl, rfl, fun _ _ => rfl⟩ | exact ⟨_, rfl, rfl, rfl⟩ | exact ⟨_, rfl, rfl⟩ | refine ⟨_, rfl, rfl, rfl, by omega, fun k hk => ?_⟩ | refine ⟨?_, ?_⟩ | fail))
  rintro ⟨⟨i, last⟩, hi, hg⟩
  dsimp only at hi hg ⊢
  unfold quSt
  (refine Tri.cut 2 Tryz.mixed Tryz.T_ok ?_; refine xZ ?_)
  refine wC (fun h3 => ?_) (fun h3 => ?_)
  · (refine xG ?_)
    have h3' : i < l.length := xW
    have hw : IntKind.i64.wrap ((i : Int) + 1) = ((i + 1 : Nat) : Int) := xW
    rw [dropD_cons h3', ordG] at hg
    obtain ⟨s, hs⟩ : ∃ s, l.getD i default = s := ⟨_, rfl⟩
    rw [hs] at hg
    have hrt := right_can p m s
    obtain ⟨rb, hrb⟩ : ∃ rb, rightB p m s = rb := ⟨_, rfl⟩
    rw [hrb] at hrt hg
    refine wD <| cutG <| Tri.seq <| Tri.block <| Tri.of Tryz.mixed Tryz.T_ok ?_
    (refine xB ?_)
    (repeat (refine wN ?_ ?_; exact xW; refine xG ?_))
    simp only [Nat.zero_add, Int.toNat_natCast, hs]
    refine wC (fun h4 => ?_) (fun h4 => ?_)
    · rw [h4, Bool.not_true, Bool.false_and] at hg
      (refine xG ?_)
      exact wD <| blockR <| cutR <| loopR <| blockR <| cutR <| Ends.plain (.inr rfl) rfl (by rw [hg])
    rw [h4, Bool.not_false, Bool.true_and] at hg
    (refine xG ?_)
    (apply wP; exact (call_op rfl (entersB_of Tryz.func164 (by kernel_rfl)) rfl (hrt.at [0, 3] ⟨lend_par (p := p) (lend_ro0 rfl rfl), lend_plain rfl, lend_plain rfl, trivial⟩ ⟨lend_ext (c := 3) rfl rfl, trivial⟩)); refine xZ ?_)
    refine wC (fun h5 => ?_) (fun h5 => ?_)
    · have h5' : rb = false := by simpa using h5
      rw [h5', Bool.false_and] at hg
      (refine xG ?_)
      exact wD <| blockR <| cutR <| loopR <| blockR <| cutR <| Ends.plain (.inr rfl) rfl (by rw [hg])
    have h5' : rb = true := by simpa using h5
    rw [h5', Bool.true_and] at hg
    (refine xG ?_)
    refine wD <| blockN <| cutG <| Tri.of Tryz.mixed Tryz.T_ok ?_
    (refine xB ?_)
    refine wD <| loopN ⟨⟨(i + 1, s.key), h3', hg⟩, by dsimp only; omega, ?_⟩
    rw [hw]
    ((try dsimp only); refine Ent.renC [0, 1, 2, 3, 4, 5] hC ?_ ?_ <;> repeat' (first | exact trivial | exact rfl | exact ⟨_, rfl, rfl, rfl, Nat.le_refl _, fun _ _ => rfl⟩ | exact ⟨_, rfl, rfl, rfl, fun _ _ => rfl⟩ | exact ⟨_, rfl, rfl, rfl⟩ | exact ⟨_, rfl, rfl⟩ | refine ⟨_, rfl, rfl, rfl, by omega, fun k hk => ?_⟩ | refine ⟨?_, ?_⟩ | fail))
  · (refine xG ?_)
    have h3' : i = l.length := xW
    subst h3'
    rw [List.drop_length, ordG] at hg
    refine wD <| cutE <| loopX <| blockX <| cutG <| Tri.of Tryz.mixed Tryz.T_ok ?_
    (refine xB ?_)
    exact wD (Ends.plain (.inr rfl) rfl (by rw [hg]))
end Go.Proofs.YtnpkdoggfnlapaaGreatDoor
namespace Go.Proofs.YtnpkdoggfnlapaaGreatDoor
set_option maxRecDepth 100000
open Go.Sx
def certTx (c : CertM) : TxM := ⟨4, 0, [], [], [], par0, c, claim0⟩
theorem certTx_sized {c : CertM} (h1 : c.outs.length ≤ 1000000000) (h2 : c.sigs.length ≤ 1000000000) : Sized (certTx c) := ⟨Nat.zero_le _, Nat.zero_le _, Nat.zero_le _, Nat.zero_le _, h1, h2⟩
theorem certTx_bare (c : CertM) : emptyB (certTx c).bare4 = true := by
  show emptyB (⟨4, 0, [], [], [], par0, cert0, claim0⟩ : TxM) = true
  decide
theorem mayCert_can (c : CertM) (h1 : c.outs.length ≤ 1000000000) (h2 : c.sigs.length ≤ 1000000000) : Reads Tryz.prog 82 [.box (certTx c).ac] [] (XV.bool (certOK c)) := by
  have h := may4_can (certTx c) rfl (certTx_sized h1 h2) claim0_wf
  change Reads Tryz.prog _ _ _ (XV.bool (certOK c && (emptyB (certTx c).bare4 && claimZ claim0 claim0_wf))) at h
  rw [claimZ_zero, certTx_bare, Bool.and_true, Bool.and_true] at h
  exact h
def bareCert (c : CertM) : CertM := { c with sigs := [default] }
def certMsg (c : CertM) : H8 := if certOK (bareCert c) = true then dig 99 [certEnc (certTx (bareCert c))] else zeroH
set_option maxHeartbeats 4000000 in
theorem certMsg_can (c : CertM) (h1 : c.outs.length ≤ 1000000) : Reads Tryz.prog 120 [.box c.ac] [stepsP] (.tup [(certMsg c).x, .one (.raw (.bool (certOK (bareCert c))))]) := by
  have hm := mayCert_can (bareCert c) (by show c.outs.length ≤ _; omega) (by show 1 ≤ 1000000000; decide)
  refine Reads.of Tryz.T_ok Tryz.func120 rfl _ _ _ rfl rfl (fun C hC => ?_)
  (replace hC : C.n0 = 3 := hC; change Tri _ _ _ ⟨_, _, 3⟩ _)
  refine Tri.of Tryz.mixed Tryz.T_ok ?_
  (refine xB ?_)
  cases hb : certOK (bareCert c) with
  | false =>
    rw [hb] at hm
    have hd := digest_no 99 (t := certTx (bareCert c)) [] (enc_bad hm)
    have hc : certMsg c = zeroH := by rw [certMsg, if_neg (by rw [hb]; simp)]
    rw [hc]
    (apply wP; exact (call_op rfl (entersB_of Tryz.func98 (by kernel_rfl)) rfl (hd.at [0, 6, 2] ⟨lend_plain rfl, lend_tx (t := certTx (bareCert c)) (lend_nil _ _) (lend_nil _ _) (lend_nil _ _) (lend_nil _ _) (lend_ro0 rfl rfl) (lend_vecN (lo := 0) rfl rfl rfl (Nat.le_refl _) (fun i hi => by obtain rfl := Nat.lt_one_iff.1 hi; rfl)), lend_rows_nil _ _ _, trivial⟩ ⟨lend_ext (c := 2) rfl rfl, trivial⟩)); refine xZ ?_)
    exact wD (Ends.plain (.inr rfl) rfl rfl)
  | true =>
    rw [hb] at hm
    have he := enc4 (t := certTx (bareCert c)) rfl hb hm
    have hlen := certEnc_len (t := certTx (bareCert c)) hb
    have hd := digest_of 99 [] he (by decide) (short1 _ _ (by omega))
    have hc : certMsg c = dig 99 [certEnc (certTx (bareCert c))] := by rw [certMsg, if_pos hb]
    rw [hc]
    (apply wP; exact (call_op rfl (entersB_of Tryz.func98 (by kernel_rfl)) rfl (hd.at [0, 6, 2] ⟨lend_plain rfl, lend_tx (t := certTx (bareCert c)) (lend_nil _ _) (lend_nil _ _) (lend_nil _ _) (lend_nil _ _) (lend_ro0 rfl rfl) (lend_vecN (lo := 0) rfl rfl rfl (Nat.le_refl _) (fun i hi => by obtain rfl := Nat.lt_one_iff.1 hi; rfl)), lend_rows_nil _ _ _, trivial⟩ ⟨lend_ext (c := 2) rfl rfl, trivial⟩)); refine xZ ?_)
    exact wD (Ends.plain (.inr rfl) rfl rfl)
end Go.Proofs.YtnpkdoggfnlapaaGreatDoor

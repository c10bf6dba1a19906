/- Parts Yq Ys Yu Yv. -/
import Derived.Test.YtnpkdoggfnlapaaGreatDoorG21
import Derived.Test.YtnpkdoggfnlapaaGreatDoorG18
import Derived.Test.YtnpkdoggfnlapaaGreatDoorG19
import Derived.Test.YtnpkdoggfnlapaaGreatDoorG20
set_option linter.unusedSimpArgs false
set_option linter.unusedVariables false
namespace Go.Proofs.YtnpkdoggfnlapaaGreatDoor
set_option maxRecDepth 100000
open Go.Sx
theorem top_can (l : LvM) (hl : l.length ≤ 1000000) (hp : Placed l) : Acts Tryz.prog 48 (.abs (lvP l)) (.abs (lvP l)) [] [] (hashX (nodeH l 0 16)) := by
  refine Acts.of Tryz.T_ok Tryz.func48 rfl _ _ _ _ _ rfl rfl rfl (fun C hC => ?_)
  (replace hC : C.n0 = 1 := hC; change Tri _ _ _ ⟨_, _, 1⟩ _)
  refine Tri.of Tryz.mixed Tryz.T_ok ?_
  (refine wBegin ?_; ((conv => arg 5; whnf); repeat (refine xS ?_; conv => arg 5; whnf)))
  (apply wP; exact (call_op rfl (entersB_of Tryz.func97 (by kernel_rfl)) rfl ((node_can l hl hp 16 (by decide) 0 (by decide)).at [] rfl rfl rfl ⟨lend_plain rfl, lend_plain rfl, trivial⟩ trivial)); ((conv => arg 5; whnf); repeat (refine xS ?_; conv => arg 5; whnf)))
  exact wD (Ends.shutN (.inr rfl) (Ent.refl _) rfl rfl rfl)
theorem nxor1 (y : Nat) : y ^^^ 1 = sibN y := by
  have h := @Nat.xor_mod_two_pow y 1 1
  simp only [Nat.pow_one] at h
  have h2 : (y ^^^ 1) % 2 = 1 - y % 2 := by
    rw [h]
    rcases Nat.mod_two_eq_zero_or_one y with h | h <;> rw [h] <;> rfl
  have h1 := @Nat.xor_div_two y 1
  have h3 : y / 2 ^^^ 1 / 2 = y / 2 := by simp
  rw [h3] at h1
  unfold sibN
  split <;> omega
theorem sibN_le (y : Nat) : sibN y ≤ y + 1 := by unfold sibN; split <;> omega
theorem xor1_i64 (y : Nat) (hy : y < 9223372036854775000) : bitI .xor .i64 (y : Int) 1 = ((sibN y : Nat) : Int) := by
  have e1 : BitVec.ofInt 64 (y : Int) = BitVec.ofNat 64 y := ofInt_nat 64 y
  have e2 : (BitVec.ofNat 64 y ^^^ BitVec.ofInt 64 1).toNat = sibN y := by
    rw [BitVec.toNat_xor, BitVec.toNat_ofNat, show (BitVec.ofInt 64 1).toNat = 1 from rfl, Nat.mod_eq_of_lt (by omega), nxor1]
  show IntKind.i64.wrap (((BitVec.ofInt 64 (y : Int) ^^^ BitVec.ofInt 64 1).toNat : Nat) : Int) = _
  rw [e1, e2, IntKind.wrap_i64]
  have : sibN y ≤ y + 1 := by unfold sibN; split <;> omega
  omega
def prvSt (l : LvM) (i k : Nat) : St :=
  ⟨[some (XV.sv (.ptr 0 0 0 0)), some (XV.int .i64 i), none, none, some (XV.sv (.ptr 2 0 0 0)), some (XV.bool false), some (XV.sv (.ptr 3 0 0 0)), some (XV.int .i64 k)] ++ List.replicate 27 none,
   [(0, .abs (lvP l)), (2, .cells 44 ((List.replicate 128 (u8 0)).map .raw)), (3, .vec 44 8 16 (hashF (uptoH (provS l i) k)))], 4⟩
set_option maxHeartbeats 4000000 in
theorem prv_can (l : LvM) (hl : l.length ≤ 1000000) (hp : Placed l) (i : Nat) (hi : i < 65536) : Acts Tryz.prog 47 (.abs (lvP l)) (.abs (lvP l)) [.plain (.one (.raw (.int .i64 i)))] [] (.tup [rowX (provS l i) 16, .one (.raw (.bool true))]) := by
  refine Acts.of Tryz.T_ok Tryz.func47 rfl _ _ _ _ _ rfl rfl (by simp only [XV.ok, List.all_cons, List.all_nil, Bool.and_true, Bool.and_eq_true]; exact ⟨raws_ok _ _, rfl⟩) (fun C hC => ?_)
  (replace hC : C.n0 = 2 := hC; change Tri _ _ _ ⟨_, _, 2⟩ _)
  (refine Tri.cut 3 Tryz.mixed Tryz.T_ok ?_; ((conv => arg 5; whnf); repeat (refine xS ?_; conv => arg 5; whnf)))
  (refine wFd ?_ ?_; (first | refine decide_eq_false ?_ | rw [beq_eq_false_iff_ne] | rw [bne_eq_false_iff_eq]); exact (by (try simp only [ww] at *); omega); refine wGo ?_; ((conv => arg 5; whnf); repeat (refine xS ?_; conv => arg 5; whnf)))
  (refine wFd ?_ ?_; (first | refine decide_eq_false ?_ | rw [beq_eq_false_iff_ne] | rw [bne_eq_false_iff_eq]); exact (by (try simp only [ww] at *); omega); refine wGo ?_; ((conv => arg 5; whnf); repeat (refine xS ?_; conv => arg 5; whnf)))
  refine wD <| cutG <| Tri.ent (Ent.arr0 (c := 4) 8 16 (u8 0) (f := hashF (uptoH (provS l i) 0)) rfl rfl rfl (by decide) rfl (by rw [hC]; decide) (fun _ _ => rfl)) <| Tri.seq ?_
  (refine Tri.cut 1 Tryz.mixed Tryz.T_ok ?_; ((conv => arg 5; whnf); repeat (refine xS ?_; conv => arg 5; whnf)))
  refine wD <| cutG <| Tri.block ?_
  refine Tri.loop (α := { k : Nat // k ≤ 16 }) (fun k => prvSt l i k.1) (fun k => 16 - k.1) ⟨0, Nat.zero_le _⟩ ?_ ?_
  · unfold prvSt
    ((try dsimp only); refine Ent.renC [0, 1, 2, 4] hC ?_ ?_ <;> repeat' (first | exact trivial | exact rfl | exact ⟨_, rfl, rfl, rfl, Nat.le_refl _, fun _ _ => rfl⟩ | exact ⟨_, rfl, rfl, rfl, fun _ _ => rfl⟩ | exact ⟨_, rfl, rfl, rfl⟩ | exact ⟨_, rfl, rfl⟩ | refine ⟨_, rfl, rfl, rfl, by omega, fun k hk => ?_⟩ | refine ⟨?_, ?_⟩ | fail))
  rintro ⟨k, hk⟩
  unfold prvSt
  dsimp only
  (refine Tri.cut 1 Tryz.mixed Tryz.T_ok ?_; ((conv => arg 5; whnf); repeat (refine xS ?_; conv => arg 5; whnf)))
  refine wC (fun h1 => ?_) (fun h1 => ?_)
  · (refine wGo ?_; ((conv => arg 5; whnf); repeat (refine xS ?_; conv => arg 5; whnf)))
    have h1' : k < 16 := (by (try simp only [ww] at *); omega)
    have hw : IntKind.i64.wrap ((k : Int) + 1) = ((k + 1 : Nat) : Int) := (by (try simp only [ww] at *); omega)
    have hu : IntKind.u64.wrap (k : Int) = (k : Int) := (by (try simp only [ww] at *); omega)
    have h2k : 2 ^ k ≤ 2 ^ 15 := Nat.pow_le_pow_right (by decide) (by omega)
    have hdm : i / 2 ^ k * 2 ^ k ≤ i := Nat.div_mul_le_self i (2 ^ k)
    have hdl : i / 2 ^ k ≤ i := Nat.div_le_self i (2 ^ k)
    have hsl : sibN (i / 2 ^ k) ≤ i / 2 ^ k + 1 := sibN_le _
    have hsm : sibN (i / 2 ^ k) * 2 ^ k ≤ i + 2 ^ k := by
      have h3 := Nat.mul_le_mul_right (2 ^ k) hsl
      rw [Nat.add_mul, Nat.one_mul] at h3
      omega
    have hshr : shrI .i64 (i : Int) (k : Int) = ((i / 2 ^ k : Nat) : Int) := shr_nat _ _ _ (Nat.le_of_lt (show k < 64 by omega))
    have hxor : bitI .xor .i64 ((i / 2 ^ k : Nat) : Int) 1 = ((sibN (i / 2 ^ k) : Nat) : Int) := xor1_i64 _ (by omega)
    have hshl : shlI .i64 ((sibN (i / 2 ^ k) : Nat) : Int) (k : Int) = ((sibN (i / 2 ^ k) * 2 ^ k : Nat) : Int) := shl_nat _ k _ (by omega) rfl (by omega)
    refine wD <| cutG <| Tri.seq <| Tri.block <| Tri.of Tryz.mixed Tryz.T_ok ?_
    (refine wBegin ?_; ((conv => arg 5; whnf); repeat (refine xS ?_; conv => arg 5; whnf)))
    simp only [hu]
    (repeat (refine wN ?_ ?_; exact (by (try simp only [ww] at *); omega); refine wGo ?_; ((conv => arg 5; whnf); repeat (refine xS ?_; conv => arg 5; whnf))))
    simp only [hshr, hxor, hu]
    (repeat (refine wN ?_ ?_; exact (by (try simp only [ww] at *); omega); refine wGo ?_; ((conv => arg 5; whnf); repeat (refine xS ?_; conv => arg 5; whnf))))
    simp only [hshl]
    (apply wP; exact (call_op rfl (entersB_of Tryz.func97 (by kernel_rfl)) rfl ((node_can l hl hp k (by omega) (sibN (i / 2 ^ k) * 2 ^ k) (by omega)).at [] rfl rfl rfl ⟨lend_plain rfl, lend_plain rfl, trivial⟩ trivial)); ((conv => arg 5; whnf); repeat (refine xS ?_; conv => arg 5; whnf)))
    (repeat (refine wN ?_ ?_; exact (by (try simp only [ww] at *); omega); refine wGo ?_; ((conv => arg 5; whnf); repeat (refine xS ?_; conv => arg 5; whnf))))
    refine wD <| blockN <| cutG <| Tri.of Tryz.mixed Tryz.T_ok ?_
    (refine wBegin ?_; ((conv => arg 5; whnf); repeat (refine xS ?_; conv => arg 5; whnf)))
    refine wD <| loopN ⟨⟨k + 1, h1'⟩, by dsimp only; omega, ?_⟩
    rw [hw]
    ((try dsimp only); refine Ent.renC [0, 1, 2, 3] hC ?_ ?_ <;> repeat' (first | exact trivial | exact rfl | exact ⟨_, rfl, rfl, rfl, Nat.le_refl _, fun _ _ => rfl⟩ | exact ⟨_, rfl, rfl, rfl, fun _ _ => rfl⟩ | exact ⟨_, rfl, rfl, rfl⟩ | exact ⟨_, rfl, rfl⟩ | refine ⟨_, rfl, rfl, rfl, by omega, fun k hk => ?_⟩ | refine ⟨?_, ?_⟩ | fail))
    rename_i j hj
    simp only [Int.toNat_natCast, Nat.zero_add]
    refine (updH (uptoH (provS l i) j) j k (nodeH l (sibN (i / 2 ^ j) * 2 ^ j) j)).trans ?_
    exact congrFun (congrArg hashF (funext fun k => uptoH_step (provS l i) j k)) k
  · (refine wGo ?_; ((conv => arg 5; whnf); repeat (refine xS ?_; conv => arg 5; whnf)))
    have h1' : k = 16 := (by (try simp only [ww] at *); omega)
    subst h1'
    have hf : ∀ k, k < 16 → hashF (uptoH (provS l i) 16) k = hashF (provS l i) k := fun k hk => by simp [hashF, uptoH, hk]
    refine wD <| cutE <| loopX <| blockX <| cutG <| Tri.ent (Ent.chg0 (c := 3) (g := hashF (provS l i)) rfl hf) <| Tri.of Tryz.mixed Tryz.T_ok ?_
    (refine wBegin ?_; ((conv => arg 5; whnf); repeat (refine xS ?_; conv => arg 5; whnf)))
    (repeat (refine wN ?_ ?_; exact (by (try simp only [ww] at *); omega); refine wGo ?_; ((conv => arg 5; whnf); repeat (refine xS ?_; conv => arg 5; whnf))))
    exact wD (Ends.shutN (.inr rfl) (Ent.refl _) rfl rfl rfl)
theorem lend_acs {M : Mem} {rd : List Nat} {a : AcsM} {x y : SV} (h1 : Lends M rd (.one x) (.row 1 a.pl.length (rowW a.pl))) (h2 : Lends M rd (.one y) (.row 1 a.am.length (rowW a.am))) : Lends M rd (.agg [x, y]) (.box a.ac) := lend_box ⟨h1, h2, trivial⟩
theorem state_can (a : AcsM) (i : Nat) (hi : i < a.am.length) (h12 : i < 12) : Reads Tryz.prog 15 [.box a.ac, .plain (.one (.raw (.int .i64 i)))] [] (.cv (accA a i).x) := by
  have e1 : IntKind.i64.wrap ((i : Int) + 1) = (i : Int) + 1 := (by (try simp only [ww] at *); omega)
  have hw := (a.am.getD i 0).toNat_lt
  have e2 : IntKind.i64.wrap (((a.am.getD i 0).toNat : Nat) : Int) = (((a.am.getD i 0).toNat : Nat) : Int) := (by (try simp only [ww] at *); omega)
  have e3 : IntKind.i64.wrap (1 + (((a.am.getD i 0).toNat : Nat) : Int)) = 1 + (((a.am.getD i 0).toNat : Nat) : Int) := (by (try simp only [ww] at *); omega)
  have e4 : bitI .and .i64 (i : Int) 7 = ((i % 8 : Nat) : Int) := by
    have : ∀ j, j < 12 → bitI .and .i64 ((j : Nat) : Int) 7 = ((j % 8 : Nat) : Int) := by decide
    exact this i h12
  refine Reads.of Tryz.T_ok Tryz.func15 rfl _ _ _ rfl rfl (fun C hC => ?_)
  (replace hC : C.n0 = 3 := hC; change Tri _ _ _ ⟨_, _, 3⟩ _)
  refine Tri.of Tryz.mixed Tryz.T_ok ?_
  (refine wBegin ?_; ((conv => arg 5; whnf); repeat (refine xS ?_; conv => arg 5; whnf)))
  (repeat (refine wN ?_ ?_; exact (by (try simp only [ww] at *); omega); refine wGo ?_; ((conv => arg 5; whnf); repeat (refine xS ?_; conv => arg 5; whnf))))
  simp only [Nat.zero_add, Int.toNat_natCast, e1, e2, e3, e4]
  refine wD (Ends.plain (.inr rfl) rfl ?_)
  show _ = XV.cv (.agg [.raw (u8 119), .raw (u8 (byteI (IntKind.u8.wrap ((i : Int) + 1)))), .raw (u8 0), .raw (u8 0), .raw (u8 0), .raw (u8 0), .raw (u8 0), .raw (u8 0), .raw (.int .i64 (1 + (((a.am.getD i 0).toNat : Nat) : Int))), .raw (.int .i64 ((i % 8 : Nat) : Int))])
  rw [u8_byteI]; rfl
theorem leafA_ok (a : AcsM) (i : Nat) (h12 : i < 12) : LeafOK (plA a i : Int) (accA a i) := by
  have h1 := plA_lt a i
  have h2 := accA_amt a i
  refine ⟨⟨Int.natCast_nonneg _, by omega⟩, accA_owner a i, ⟨by omega, by omega⟩, ?_⟩
  show 0 ≤ ((i % 8 : Nat) : Int) ∧ ((i % 8 : Nat) : Int) ≤ 255
  omega
theorem putGo_placed {i : Nat} (hi : i < 65536) {h : H8} : ∀ (l : LvM) (d : Bool), Placed l → Placed (putGo i h l d)
  | [], d, _ => by cases d <;> intro x hx <;> simp [putGo] at hx; subst hx; exact hi
  | (a, z) :: r, d, hp => by
    have ih := putGo_placed hi (h := h) r (d || decide (i ≤ a)) (fun x hx => hp x (List.mem_cons_of_mem _ hx))
    intro x hx
    rw [putGo, List.mem_append, List.mem_append] at hx
    rcases hx with hx | hx | hx
    · split at hx
      · simp only [List.mem_singleton] at hx; subst hx; exact hi
      · simp at hx
    · split at hx
      · simp at hx
      · simp only [List.mem_singleton] at hx; subst hx; exact hp _ (List.mem_cons_self ..)
    · exact ih x hx
theorem treeN_placed (a : AcsM) : ∀ n, Placed (treeN a n)
  | 0 => fun x hx => by simp [treeN] at hx
  | n + 1 => putGo_placed (plA_lt a n) _ _ (treeN_placed a n)
def acsM (a : AcsM) : Mem := [(0, .ro 1 a.pl.length (rowW a.pl)), (1, .ro 1 a.am.length (rowW a.am))]
def treeSt (a : AcsM) (i : Nat) : St :=
  ⟨[none, some (XV.sv (.ptr 2 0 0 0)), none, some (XV.sv (.ptr 3 0 0 0)), some (XV.int .i64 i)] ++ List.replicate 28 none, acsM a ++ [(2, .cells 24 [.slc 0 1 0 a.pl.length, .slc 1 1 0 a.am.length]), (3, .abs (lvP (treeN a i)))], 4⟩
set_option maxHeartbeats 4000000 in
theorem tree16_can (a : AcsM) (hf : Fair a) : Makes Tryz.prog 46 [.box a.ac] [] (XV.sv (.ptr 0 0 0 0)) (.abs (lvP (treeN a a.pl.length))) := by
  have f1 := hf.few
  have f2 := hf.le
  refine Makes.of Tryz.T_ok Tryz.func46 rfl _ _ _ _ rfl rfl rfl rfl 3 (fun C hC => ?_)
  (replace hC : C.n0 = 2 := hC; change Tri _ _ _ ⟨_, _, 2⟩ _)
  (refine Tri.cut 2 Tryz.mixed Tryz.T_ok ?_; ((conv => arg 5; whnf); repeat (refine xS ?_; conv => arg 5; whnf)))
  refine wD <| cutG <| Tri.ent (Ent.nilc (c := 5) (e := lvT) (cs := [.raw (.slice none 0 0), .raw (.slice none 0 0)]) (j := 0) rfl rfl 3 1) <| Tri.ent (Ent.nilc (c := 5) (e := lvT) (cs := [.slc 7 1 0 0, .raw (.slice none 0 0)]) (j := 1) rfl rfl 29 8) <|
    Tri.ent (Lv.shuts [] 5 (i1 := 7) (i2 := 8) rfl rfl rfl rfl rfl rfl (Nat.le_refl _) (Nat.le_refl _) (fun i hi => absurd hi (Nat.not_lt_zero _)) (fun i hi => absurd hi (Nat.not_lt_zero _))) <| Tri.seq ?_
  (refine Tri.cut 1 Tryz.mixed Tryz.T_ok ?_; ((conv => arg 5; whnf); repeat (refine xS ?_; conv => arg 5; whnf)))
  refine wD <| cutG <| Tri.block ?_
  refine Tri.loop (α := { i : Nat // i ≤ a.pl.length }) (fun i => treeSt a i.1) (fun i => a.pl.length - i.1) ⟨0, Nat.zero_le _⟩ ?_ ?_
  · unfold treeSt acsM
    ((try dsimp only); refine Ent.renC [0, 1, 2, 5] hC ?_ ?_ <;> repeat' (first | exact trivial | exact rfl | exact ⟨_, rfl, rfl, rfl, Nat.le_refl _, fun _ _ => rfl⟩ | exact ⟨_, rfl, rfl, rfl, fun _ _ => rfl⟩ | exact ⟨_, rfl, rfl, rfl⟩ | exact ⟨_, rfl, rfl⟩ | refine ⟨_, rfl, rfl, rfl, by omega, fun k hk => ?_⟩ | refine ⟨?_, ?_⟩ | fail))
  rintro ⟨i, hi⟩
  unfold treeSt acsM
  dsimp only
  (refine Tri.cut 1 Tryz.mixed Tryz.T_ok ?_; ((conv => arg 5; whnf); repeat (refine xS ?_; conv => arg 5; whnf)))
  refine wC (fun h1 => ?_) (fun h1 => ?_)
  · (refine wGo ?_; ((conv => arg 5; whnf); repeat (refine xS ?_; conv => arg 5; whnf)))
    have h1' : i < a.pl.length := (by (try simp only [ww] at *); omega)
    have hw : IntKind.i64.wrap ((i : Int) + 1) = ((i + 1 : Nat) : Int) := (by (try simp only [ww] at *); omega)
    have hpl := (a.pl.getD i 0).toNat_lt
    have e2 : IntKind.i64.wrap (((a.pl.getD i 0).toNat : Nat) : Int) = ((plA a i : Nat) : Int) := by
      show IntKind.i64.wrap (((a.pl.getD i 0).toNat : Nat) : Int) = (((a.pl.getD i 0).toNat : Nat) : Int)
      exact (by (try simp only [ww] at *); omega)
    have htl := treeN_len a i
    refine wD <| cutG <| Tri.seq <| Tri.block <| Tri.of Tryz.mixed Tryz.T_ok ?_
    (refine wBegin ?_; ((conv => arg 5; whnf); repeat (refine xS ?_; conv => arg 5; whnf)))
    (repeat (refine wN ?_ ?_; exact (by (try simp only [ww] at *); omega); refine wGo ?_; ((conv => arg 5; whnf); repeat (refine xS ?_; conv => arg 5; whnf))))
    simp only [Nat.zero_add, Int.toNat_natCast, e2]
    (apply wP; exact (call_op rfl (entersB_of Tryz.func15 (by kernel_rfl)) rfl ((state_can a i (by omega) (by omega)).at [0, 1] ⟨lend_acs (lend_ro0 rfl rfl) (lend_ro0 rfl rfl), lend_plain rfl, trivial⟩ trivial)); ((conv => arg 5; whnf); repeat (refine xS ?_; conv => arg 5; whnf)))
    (apply wP; exact (call_op rfl (entersB_of Tryz.func88 (by kernel_rfl)) rfl ((leafR_can (plA a i : Int) (accA a i) (leafA_ok a i (by omega))).at [] ⟨lend_plain rfl, lend_plain rfl, trivial⟩ trivial)); ((conv => arg 5; whnf); repeat (refine xS ?_; conv => arg 5; whnf)))
    (apply wP; exact (call_op rfl (entersB_of Tryz.func96 (by kernel_rfl)) rfl ((put_can2 (treeN a i) (plA a i) (plA_lt a i) (leafN a i) (by omega)).at [] rfl rfl rfl ⟨lend_plain rfl, lend_plain rfl, trivial⟩ trivial)); ((conv => arg 5; whnf); repeat (refine xS ?_; conv => arg 5; whnf)))
    refine wD <| blockN <| cutG <| Tri.of Tryz.mixed Tryz.T_ok ?_
    (refine wBegin ?_; ((conv => arg 5; whnf); repeat (refine xS ?_; conv => arg 5; whnf)))
    refine wD <| loopN ⟨⟨i + 1, h1'⟩, by dsimp only; omega, ?_⟩
    rw [hw]
    ((try dsimp only); refine Ent.renC [0, 1, 2, 3] hC ?_ ?_ <;> repeat' (first | exact trivial | exact rfl | exact ⟨_, rfl, rfl, rfl, Nat.le_refl _, fun _ _ => rfl⟩ | exact ⟨_, rfl, rfl, rfl, fun _ _ => rfl⟩ | exact ⟨_, rfl, rfl, rfl⟩ | exact ⟨_, rfl, rfl⟩ | refine ⟨_, rfl, rfl, rfl, by omega, fun k hk => ?_⟩ | refine ⟨?_, ?_⟩ | fail))
  · (refine wGo ?_; ((conv => arg 5; whnf); repeat (refine xS ?_; conv => arg 5; whnf)))
    have h1' : i = a.pl.length := (by (try simp only [ww] at *); omega)
    subst h1'
    refine wD <| cutE <| loopX <| blockX <| cutG <| Tri.of Tryz.mixed Tryz.T_ok ?_
    (refine wBegin ?_; ((conv => arg 5; whnf); repeat (refine xS ?_; conv => arg 5; whnf)))
    exact wD (Ends.made (.inr rfl) (Ent.refl _) rfl (Nat.le_of_ble_eq_true rfl) rfl)
end Go.Proofs.YtnpkdoggfnlapaaGreatDoor
namespace Go.Proofs.YtnpkdoggfnlapaaGreatDoor
set_option maxRecDepth 100000
open Go.Sx
theorem u8_is {b c : UInt8} {n : Int} (h : n = (c.toNat : Int)) : (((b.toNat : Nat) : Int) == n) = decide (b = c) := by
  rw [Bool.eq_iff_iff, beq_iff_eq, decide_eq_true_eq, h, ← UInt8.toNat_inj]
  omega
def claimTx (c : ClaimM) : TxM := ⟨5, 0, [], [], [], par0, cert0, c⟩
def claimTxC (c : ClaimM) : List SV := txCells (claimTx c) nilV nilV nilV nilV nilV nilV
theorem raws_all (vs : List Value) (p : Nat → Bool) : (vs.map SV.raw).all (SV.ok p) = true := by
  rw [List.all_map, List.all_eq_true]; intro x _; rfl
theorem claimTxC_ok (c : ClaimM) : (claimTxC c).all (SV.ok fun _ => false) = true := by
  unfold claimTxC txCells parCells certCells
  simp only [List.all_cons, List.all_append, List.all_nil, raws_all, SV.ok, Bool.and_true]
theorem claimTxX_ok (c : ClaimM) : XV.ok (fun _ => false) (.cv (.agg (claimTxC c))) = true := claimTxC_ok c
def clSt (b : UInt8) (c : ClaimM) : St :=
  ⟨[none, none, some (XV.val (u8 b)), none, none, none, some (XV.sv (.ptr 4 0 0 0)), some (XV.sv (.ptr 5 0 0 0))] ++ List.replicate 71 none, [(4, .cells 48 (txCells ⟨0, 0, [], [], [], par0, cert0, claim0⟩ nilV nilV nilV nilV nilV nilV)), (5, .cells 46 (c.cells.map .raw))], 6⟩
def txC5 (vs : List Value) : List SV := .raw (.int .i64 5) :: .raw (.int .i64 0) :: nilV :: nilV :: nilV :: (parCells par0 nilV ++ (certCells cert0 nilV nilV ++ vs.map .raw))
theorem bend3 (c : ClaimM) : (bendC 3 c).cells = c.cells.set 36 (.int .u8 (bitI .xor .u8 ((c.proof 3).b0.toNat : Int) 1)) := by
  have e : u8 (byteI (bitI .xor .u8 ((c.proof 3).b0.toNat : Int) 1)) = .int .u8 (bitI .xor .u8 ((c.proof 3).b0.toNat : Int) 1) := u8_byteI _
  rw [← e]; rfl
theorem bend4 (c : ClaimM) : (bendC 4 c).cells = c.cells.set 4 (.int .u8 (bitI .xor .u8 (c.st.owner.b2.toNat : Int) 1)) := by
  have e : u8 (byteI (bitI .xor .u8 (c.st.owner.b2.toNat : Int) 1)) = .int .u8 (bitI .xor .u8 (c.st.owner.b2.toNat : Int) 1) := u8_byteI _
  rw [← e]; rfl
set_option maxHeartbeats 8000000 in
theorem claim16_can (a : AcsM) (hf : Fair a) (i : Nat) (hi : i < 1000) (b : UInt8) : Reads Tryz.prog 17 [.box a.ac, .plain (.one (.raw (.int .i64 i))), .plain (.one (.raw (u8 b)))] [] (.cv (.agg (claimTxC (bendC b (claimN a i))))) := by
  have f1 := hf.few
  have f2 := hf.le
  refine Reads.of Tryz.T_ok Tryz.func17 rfl _ _ _ rfl (claimTxX_ok (bendC b (claimN a i))) (fun C hC => ?_)
  (replace hC : C.n0 = 4 := hC; change Tri _ _ _ ⟨_, _, 4⟩ _)
  (refine Tri.cut 2 Tryz.mixed Tryz.T_ok ?_; ((conv => arg 5; whnf); repeat (refine xS ?_; conv => arg 5; whnf)))
  refine wD <| cutG <| Tri.merge (clSt b (claimN a i)) (Tri.of Tryz.mixed Tryz.T_ok ?_) ?_
  · (refine wBegin ?_; ((conv => arg 5; whnf); repeat (refine xS ?_; conv => arg 5; whnf)))
    refine wC (fun h1 => ?_) (fun h1 => ?_)
    · have h1' : i < a.pl.length := (by (try simp only [ww] at *); omega)
      have hpl := (a.pl.getD i 0).toNat_lt
      have e2 : IntKind.i64.wrap (((a.pl.getD i 0).toNat : Nat) : Int) = ((plA a i : Nat) : Int) := by
        show IntKind.i64.wrap (((a.pl.getD i 0).toNat : Nat) : Int) = (((a.pl.getD i 0).toNat : Nat) : Int)
        exact (by (try simp only [ww] at *); omega)
      have htl := treeN_len a a.pl.length
      (refine wGo ?_; ((conv => arg 5; whnf); repeat (refine xS ?_; conv => arg 5; whnf)))
      (repeat (refine wN ?_ ?_; exact (by (try simp only [ww] at *); omega); refine wGo ?_; ((conv => arg 5; whnf); repeat (refine xS ?_; conv => arg 5; whnf))))
      simp only [Nat.zero_add, Int.toNat_natCast, e2]
      (apply wP; exact (call_op rfl (entersB_of Tryz.func15 (by kernel_rfl)) rfl ((state_can a i (by omega) (by omega)).at [0, 1] ⟨lend_acs (lend_ro0 rfl rfl) (lend_ro0 rfl rfl), lend_plain rfl, trivial⟩ trivial)); ((conv => arg 5; whnf); repeat (refine xS ?_; conv => arg 5; whnf)))
      (apply wP; exact (call_op rfl (entersB_of Tryz.func46 (by kernel_rfl)) rfl ((tree16_can a hf).at [0, 1] ⟨lend_acs (lend_ro0 rfl rfl) (lend_ro0 rfl rfl), trivial⟩ trivial)); ((conv => arg 5; whnf); repeat (refine xS ?_; conv => arg 5; whnf)))
      (apply wP; exact (call_op rfl (entersB_of Tryz.func47 (by kernel_rfl)) rfl ((prv_can (treeN a a.pl.length) (by omega) (treeN_placed a _) (plA a i) (plA_lt a i)).at [] rfl rfl rfl ⟨lend_plain rfl, trivial⟩ trivial)); ((conv => arg 5; whnf); repeat (refine xS ?_; conv => arg 5; whnf)))
      refine wD ⟨rfl, ?_⟩
      rw [claimN, if_pos h1']
      unfold clSt
      ((try dsimp only); refine Ent.renC [0, 1, 2, 3, 5, 7] hC ?_ ?_ <;> repeat' (first | exact trivial | exact rfl | exact ⟨_, rfl, rfl, rfl, Nat.le_refl _, fun _ _ => rfl⟩ | exact ⟨_, rfl, rfl, rfl, fun _ _ => rfl⟩ | exact ⟨_, rfl, rfl, rfl⟩ | exact ⟨_, rfl, rfl⟩ | refine ⟨_, rfl, rfl, rfl, by omega, fun k hk => ?_⟩ | refine ⟨?_, ?_⟩ | fail))
    · have h1' : ¬ i < a.pl.length := (by (try simp only [ww] at *); omega)
      (refine wGo ?_; ((conv => arg 5; whnf); repeat (refine xS ?_; conv => arg 5; whnf)))
      refine wD ⟨rfl, ?_⟩
      rw [claimN, if_neg h1']
      unfold clSt
      ((try dsimp only); refine Ent.renC [0, 1, 2, 3, 5, 7] hC ?_ ?_ <;> repeat' (first | exact trivial | exact rfl | exact ⟨_, rfl, rfl, rfl, Nat.le_refl _, fun _ _ => rfl⟩ | exact ⟨_, rfl, rfl, rfl, fun _ _ => rfl⟩ | exact ⟨_, rfl, rfl, rfl⟩ | exact ⟨_, rfl, rfl⟩ | refine ⟨_, rfl, rfl, rfl, by omega, fun k hk => ?_⟩ | refine ⟨?_, ?_⟩ | fail))
  · generalize claimN a i = c
    unfold clSt
    refine Tri.of Tryz.mixed Tryz.T_ok ?_
    (refine wBegin ?_; ((conv => arg 5; whnf); repeat (refine xS ?_; conv => arg 5; whnf)))
    simp only [u8_is (show (1 : Int) = (((1 : UInt8).toNat : Nat) : Int) from rfl)]
    refine wC (fun h1 => ?_) (fun h1 => ?_)
    · obtain rfl := of_decide_eq_true h1
      (refine wGo ?_; ((conv => arg 5; whnf); repeat (refine xS ?_; conv => arg 5; whnf)))
      exact wD (Ends.plain (.inr rfl) rfl rfl)
    (refine wGo ?_; ((conv => arg 5; whnf); repeat (refine xS ?_; conv => arg 5; whnf)))
    simp only [u8_is (show (2 : Int) = (((2 : UInt8).toNat : Nat) : Int) from rfl)]
    refine wC (fun h2 => ?_) (fun h2 => ?_)
    · obtain rfl := of_decide_eq_true h2
      (refine wGo ?_; ((conv => arg 5; whnf); repeat (refine xS ?_; conv => arg 5; whnf)))
      exact wD (Ends.plain (.inr rfl) rfl rfl)
    (refine wGo ?_; ((conv => arg 5; whnf); repeat (refine xS ?_; conv => arg 5; whnf)))
    simp only [u8_is (show (3 : Int) = (((3 : UInt8).toNat : Nat) : Int) from rfl)]
    refine wC (fun h3 => ?_) (fun h3 => ?_)
    · obtain rfl := of_decide_eq_true h3
      (refine wGo ?_; ((conv => arg 5; whnf); repeat (refine xS ?_; conv => arg 5; whnf)))
      (repeat (refine wN ?_ ?_; exact (by (try simp only [ww] at *); omega); refine wGo ?_; ((conv => arg 5; whnf); repeat (refine xS ?_; conv => arg 5; whnf))))
      exact wD (Ends.plain (.inr rfl) rfl (congrArg (fun vs => XV.cv (.agg (txC5 vs))) (bend3 c).symm))
    (refine wGo ?_; ((conv => arg 5; whnf); repeat (refine xS ?_; conv => arg 5; whnf)))
    simp only [u8_is (show (4 : Int) = (((4 : UInt8).toNat : Nat) : Int) from rfl)]
    refine wC (fun h4 => ?_) (fun h4 => ?_)
    · obtain rfl := of_decide_eq_true h4
      (refine wGo ?_; ((conv => arg 5; whnf); repeat (refine xS ?_; conv => arg 5; whnf)))
      (repeat (refine wN ?_ ?_; exact (by (try simp only [ww] at *); omega); refine wGo ?_; ((conv => arg 5; whnf); repeat (refine xS ?_; conv => arg 5; whnf))))
      exact wD (Ends.plain (.inr rfl) rfl (congrArg (fun vs => XV.cv (.agg (txC5 vs))) (bend4 c).symm))
    (refine wGo ?_; ((conv => arg 5; whnf); repeat (refine xS ?_; conv => arg 5; whnf)))
    simp only [u8_is (show (5 : Int) = (((5 : UInt8).toNat : Nat) : Int) from rfl)]
    refine wC (fun h5 => ?_) (fun h5 => ?_)
    · obtain rfl := of_decide_eq_true h5
      (refine wGo ?_; ((conv => arg 5; whnf); repeat (refine xS ?_; conv => arg 5; whnf)))
      exact wD (Ends.plain (.inr rfl) rfl rfl)
    · have hb : bendC b c = c := by
        rw [bendC, if_neg (of_decide_eq_false h1), if_neg (of_decide_eq_false h2), if_neg (of_decide_eq_false h3), if_neg (of_decide_eq_false h4), if_neg (of_decide_eq_false h5)]
      rw [hb]
      (refine wGo ?_; ((conv => arg 5; whnf); repeat (refine xS ?_; conv => arg 5; whnf)))
      exact wD (Ends.plain (.inr rfl) rfl rfl)
def fairN (a : AcsM) : Bool := decide (a.pl.length ≤ 12) && (decide (a.pl.length ≤ a.am.length) && decide (a.am.length ≤ 50))
theorem fairB_eq (a : AcsM) : fairB a = (fairN a && (List.range a.pl.length).all (apartB a)) := by
  rw [fairB, fairN, Bool.and_assoc, Bool.and_assoc]
theorem u16_eq (a : AcsM) (i k : Nat) : (((a.pl.getD k 0).toNat : Int) == ((a.pl.getD i 0).toNat : Int)) = decide (plA a k = plA a i) := by
  rw [Bool.eq_iff_iff, beq_iff_eq, decide_eq_true_eq]
  show ((plA a k : Nat) : Int) = ((plA a i : Nat) : Int) ↔ _
  omega
def fairM (a : AcsM) : Mem := acsM a ++ [(2, .cells 24 [.slc 0 1 0 a.pl.length, .slc 1 1 0 a.am.length])]
set_option maxHeartbeats 4000000 in
theorem fair_can (a : AcsM) (hl1 : a.pl.length ≤ maxLen) (hl2 : a.am.length ≤ maxLen) : Reads Tryz.prog 14 [.box a.ac] [] (XV.bool (fairB a)) := by
  refine Reads.of Tryz.T_ok Tryz.func14 rfl _ _ _ rfl rfl (fun C hC => ?_)
  (replace hC : C.n0 = 2 := hC; change Tri _ _ _ ⟨_, _, 2⟩ _)
  rw [fairB_eq]
  have no : fairN a = false → XV.bool false = XV.bool (fairN a && (List.range a.pl.length).all (apartB a)) := fun h => by rw [h, Bool.false_and]
  simp only [maxLen] at hl1 hl2
  (refine Tri.cut 2 Tryz.mixed Tryz.T_ok ?_; ((conv => arg 5; whnf); repeat (refine xS ?_; conv => arg 5; whnf)))
  refine wC (fun h1 => ?_) (fun h1 => ?_)
  · (refine wGo ?_; ((conv => arg 5; whnf); repeat (refine xS ?_; conv => arg 5; whnf)))
    exact wD <| cutR <| Ends.plain (.inr rfl) rfl (no (by rw [fairN, decide_eq_false (show ¬ a.pl.length ≤ 12 by simp only [decide_eq_true_eq] at h1; omega), Bool.false_and]))
  (refine wGo ?_; ((conv => arg 5; whnf); repeat (refine xS ?_; conv => arg 5; whnf)))
  refine wC (fun h2 => ?_) (fun h2 => ?_)
  · (refine wGo ?_; ((conv => arg 5; whnf); repeat (refine xS ?_; conv => arg 5; whnf)))
    exact wD <| cutR <| Ends.plain (.inr rfl) rfl (no (by rw [fairN, decide_eq_false (show ¬ a.pl.length ≤ a.am.length by simp only [decide_eq_true_eq] at h2; omega), Bool.false_and, Bool.and_false]))
  (refine wGo ?_; ((conv => arg 5; whnf); repeat (refine xS ?_; conv => arg 5; whnf)))
  refine wC (fun h3 => ?_) (fun h3 => ?_)
  · (refine wGo ?_; ((conv => arg 5; whnf); repeat (refine xS ?_; conv => arg 5; whnf)))
    exact wD <| cutR <| Ends.plain (.inr rfl) rfl (no (by rw [fairN, decide_eq_false (show ¬ a.am.length ≤ 50 by simp only [decide_eq_true_eq] at h3; omega), Bool.and_false, Bool.and_false]))
  have hN : fairN a = true := by
    simp only [decide_eq_false_iff_not] at h1 h2 h3
    rw [fairN, decide_eq_true (show a.pl.length ≤ 12 by omega), decide_eq_true (show a.pl.length ≤ a.am.length by omega), decide_eq_true (show a.am.length ≤ 50 by omega)]; rfl
  have hpl : a.pl.length ≤ 12 := by simp only [decide_eq_false_iff_not] at h1; omega
  rw [hN, Bool.true_and]
  (refine wGo ?_; ((conv => arg 5; whnf); repeat (refine xS ?_; conv => arg 5; whnf)))
  refine wD <| cutG <| Tri.seq ?_
  (refine Tri.cut 1 Tryz.mixed Tryz.T_ok ?_; ((conv => arg 5; whnf); repeat (refine xS ?_; conv => arg 5; whnf)))
  refine wD <| cutG <| Tri.block ?_
  refine Tri.loop (α := { i : Nat // i ≤ a.pl.length ∧ (List.range i).all (apartB a) = true }) (fun i => ⟨[none, some (XV.sv (.ptr 2 0 0 0)), none, some (XV.int .i64 i.1)] ++ List.replicate 43 none, fairM a, 3⟩) (fun i => a.pl.length - i.1) ⟨0, Nat.zero_le _, rfl⟩ ?_ ?_
  · unfold fairM acsM
    ((try dsimp only); refine Ent.renC [0, 1, 2] hC ?_ ?_ <;> repeat' (first | exact trivial | exact rfl | exact ⟨_, rfl, rfl, rfl, Nat.le_refl _, fun _ _ => rfl⟩ | exact ⟨_, rfl, rfl, rfl, fun _ _ => rfl⟩ | exact ⟨_, rfl, rfl, rfl⟩ | exact ⟨_, rfl, rfl⟩ | refine ⟨_, rfl, rfl, rfl, by omega, fun k hk => ?_⟩ | refine ⟨?_, ?_⟩ | fail))
  rintro ⟨i, hi, ha⟩
  dsimp only
  unfold fairM acsM
  (refine Tri.cut 1 Tryz.mixed Tryz.T_ok ?_; ((conv => arg 5; whnf); repeat (refine xS ?_; conv => arg 5; whnf)))
  refine wC (fun k1 => ?_) (fun k1 => ?_)
  · (refine wGo ?_; ((conv => arg 5; whnf); repeat (refine xS ?_; conv => arg 5; whnf)))
    have h1' : i < a.pl.length := (by (try simp only [ww] at *); omega)
    have hs := range_all_succ (apartB a) i
    have hw : IntKind.i64.wrap ((i : Int) + 1) = ((i + 1 : Nat) : Int) := (by (try simp only [ww] at *); omega)
    have bad : apartB a i = false → XV.bool false = XV.bool ((List.range a.pl.length).all (apartB a)) := fun h => by rw [range_all_false h1' h]
    refine wD <| cutG <| Tri.seq <| Tri.block ?_
    refine Tri.seq (Tri.of Tryz.mixed Tryz.T_ok ?_)
    (refine wBegin ?_; ((conv => arg 5; whnf); repeat (refine xS ?_; conv => arg 5; whnf)))
    refine wD <| cutG <| Tri.block ?_
    refine Tri.loop (α := { k : Nat // k ≤ i ∧ (List.range k).all (fun k => !decide (plA a k = plA a i)) = true }) (fun k => ⟨[none, some (XV.sv (.ptr 2 0 0 0)), none, some (XV.int .i64 i), some (XV.int .i64 k.1)] ++ List.replicate 42 none, fairM a, 3⟩) (fun k => i - k.1) ⟨0, Nat.zero_le _, rfl⟩ ?_ ?_
    · unfold fairM acsM
      ((try dsimp only); refine Ent.renC [0, 1, 2] hC ?_ ?_ <;> repeat' (first | exact trivial | exact rfl | exact ⟨_, rfl, rfl, rfl, Nat.le_refl _, fun _ _ => rfl⟩ | exact ⟨_, rfl, rfl, rfl, fun _ _ => rfl⟩ | exact ⟨_, rfl, rfl, rfl⟩ | exact ⟨_, rfl, rfl⟩ | refine ⟨_, rfl, rfl, rfl, by omega, fun k hk => ?_⟩ | refine ⟨?_, ?_⟩ | fail))
    rintro ⟨k, hk, hka⟩
    dsimp only
    unfold fairM acsM
    (refine Tri.cut 1 Tryz.mixed Tryz.T_ok ?_; ((conv => arg 5; whnf); repeat (refine xS ?_; conv => arg 5; whnf)))
    refine wC (fun k2 => ?_) (fun k2 => ?_)
    · (refine wGo ?_; ((conv => arg 5; whnf); repeat (refine xS ?_; conv => arg 5; whnf)))
      have h2' : k < i := (by (try simp only [ww] at *); omega)
      have hw2 : IntKind.i64.wrap ((k : Int) + 1) = ((k + 1 : Nat) : Int) := (by (try simp only [ww] at *); omega)
      have hsk := range_all_succ (fun k => !decide (plA a k = plA a i)) k
      refine wD <| cutG <| Tri.seq <| Tri.block <| Tri.of Tryz.mixed Tryz.T_ok ?_
      (refine wBegin ?_; ((conv => arg 5; whnf); repeat (refine xS ?_; conv => arg 5; whnf)))
      (repeat (refine wN ?_ ?_; exact (by (try simp only [ww] at *); omega); refine wGo ?_; ((conv => arg 5; whnf); repeat (refine xS ?_; conv => arg 5; whnf))))
      simp only [Nat.zero_add, Int.toNat_natCast, u16_eq]
      refine wC (fun k3 => ?_) (fun k3 => ?_)
      · (refine wGo ?_; ((conv => arg 5; whnf); repeat (refine xS ?_; conv => arg 5; whnf)))
        exact wD <| blockR <| cutR <| loopR <| blockR <| blockR <| cutR <| loopR <| blockR <| cutR <| Ends.plain (.inr rfl) rfl (bad (by rw [apartB, range_all_false h2' (by rw [k3]; rfl)]))
      · (refine wGo ?_; ((conv => arg 5; whnf); repeat (refine xS ?_; conv => arg 5; whnf)))
        refine wD <| blockN <| cutG <| Tri.of Tryz.mixed Tryz.T_ok ?_
        (refine wBegin ?_; ((conv => arg 5; whnf); repeat (refine xS ?_; conv => arg 5; whnf)))
        refine wD <| loopN ⟨⟨k + 1, h2', by rw [hsk, hka, k3]; rfl⟩, by dsimp only; omega, ?_⟩
        rw [hw2]
        ((try dsimp only); refine Ent.renC [0, 1, 2] hC ?_ ?_ <;> repeat' (first | exact trivial | exact rfl | exact ⟨_, rfl, rfl, rfl, Nat.le_refl _, fun _ _ => rfl⟩ | exact ⟨_, rfl, rfl, rfl, fun _ _ => rfl⟩ | exact ⟨_, rfl, rfl, rfl⟩ | exact ⟨_, rfl, rfl⟩ | refine ⟨_, rfl, rfl, rfl, by omega, fun k hk => ?_⟩ | refine ⟨?_, ?_⟩ | fail))
    · (refine wGo ?_; ((conv => arg 5; whnf); repeat (refine xS ?_; conv => arg 5; whnf)))
      have h2' : k = i := (by (try simp only [ww] at *); omega)
      subst h2'
      refine wD <| cutE <| loopX <| blockX <| blockN <| cutG <| Tri.of Tryz.mixed Tryz.T_ok ?_
      (refine wBegin ?_; ((conv => arg 5; whnf); repeat (refine xS ?_; conv => arg 5; whnf)))
      refine wD <| loopN ⟨⟨k + 1, h1', by rw [hs, ha, apartB, hka]; rfl⟩, by dsimp only; omega, ?_⟩
      rw [hw]
      ((try dsimp only); refine Ent.renC [0, 1, 2] hC ?_ ?_ <;> repeat' (first | exact trivial | exact rfl | exact ⟨_, rfl, rfl, rfl, Nat.le_refl _, fun _ _ => rfl⟩ | exact ⟨_, rfl, rfl, rfl, fun _ _ => rfl⟩ | exact ⟨_, rfl, rfl, rfl⟩ | exact ⟨_, rfl, rfl⟩ | refine ⟨_, rfl, rfl, rfl, by omega, fun k hk => ?_⟩ | refine ⟨?_, ?_⟩ | fail))
  · (refine wGo ?_; ((conv => arg 5; whnf); repeat (refine xS ?_; conv => arg 5; whnf)))
    have h1' : i = a.pl.length := (by (try simp only [ww] at *); omega)
    subst h1'
    refine wD <| cutE <| loopX <| blockX <| cutG <| Tri.of Tryz.mixed Tryz.T_ok ?_
    (refine wBegin ?_; ((conv => arg 5; whnf); repeat (refine xS ?_; conv => arg 5; whnf)))
    exact wD (Ends.plain (.inr rfl) rfl (by rw [ha]))
end Go.Proofs.YtnpkdoggfnlapaaGreatDoor
namespace Go.Proofs.YtnpkdoggfnlapaaGreatDoor
set_option maxRecDepth 100000
open Go.Sx
theorem nanI_can (a : Int) : Reads Tryz.prog 156 [.plain (.one (.raw (.int .i64 a)))] [] (XV.bool false) := by
  refine Reads.of Tryz.T_ok Tryz.func156 rfl _ _ _ rfl rfl (fun C hC => ?_)
  (replace hC : C.n0 = 1 := hC; change Tri _ _ _ ⟨_, _, 1⟩ _)
  refine Tri.of Tryz.mixed Tryz.T_ok ?_
  (refine wBegin ?_; ((conv => arg 5; whnf); repeat (refine xS ?_; conv => arg 5; whnf)))
  exact wD (Ends.plain (.inr rfl) rfl (by simp))
theorem nanS_can (a : Int) : Reads Tryz.prog 101 [.plain (.one (.raw (.int .i64 a)))] [] (XV.bool false) := by
  refine Reads.of Tryz.T_ok Tryz.func101 rfl _ _ _ rfl rfl (fun C hC => ?_)
  (replace hC : C.n0 = 1 := hC; change Tri _ _ _ ⟨_, _, 1⟩ _)
  refine Tri.of Tryz.mixed Tryz.T_ok ?_
  (refine wBegin ?_; ((conv => arg 5; whnf); repeat (refine xS ?_; conv => arg 5; whnf)))
  exact wD (Ends.plain (.inr rfl) rfl (by simp))
theorem lessI_can (a b : Int) : Reads Tryz.prog 100 [.plain (.one (.raw (.int .i64 a))), .plain (.one (.raw (.int .i64 b)))] [] (XV.bool (decide (a < b))) := by
  refine Reads.of Tryz.T_ok Tryz.func100 rfl _ _ _ rfl rfl (fun C hC => ?_)
  (replace hC : C.n0 = 2 := hC; change Tri _ _ _ ⟨_, _, 2⟩ _)
  refine Tri.of Tryz.mixed Tryz.T_ok ?_
  (refine wBegin ?_; ((conv => arg 5; whnf); repeat (refine xS ?_; conv => arg 5; whnf)))
  (apply wP; exact (call_op rfl (entersB_of Tryz.func156 (by kernel_rfl)) rfl ((nanI_can a).at [] ⟨lend_plain rfl, trivial⟩ trivial)); ((conv => arg 5; whnf); repeat (refine xS ?_; conv => arg 5; whnf)))
  (repeat (refine wN ?_ ?_; exact (by (try simp only [ww] at *); omega); refine wGo ?_; ((conv => arg 5; whnf); repeat (refine xS ?_; conv => arg 5; whnf))))
  exact wD (Ends.plain (.inr rfl) rfl rfl)
theorem mid_eq {i j : Nat} (h : i + j < 4611686018427387904) : IntKind.i64.wrap (shrI .u64 (IntKind.u64.wrap (IntKind.i64.wrap ((i : Int) + (j : Int)))) 1) = (((i + j) / 2 : Nat) : Int) := by
  have e1 : IntKind.i64.wrap ((i : Int) + (j : Int)) = ((i + j : Nat) : Int) := by rw [IntKind.wrap_i64]; omega
  have e2 : IntKind.u64.wrap ((i + j : Nat) : Int) = ((i + j : Nat) : Int) := by show ((i + j : Nat) : Int) % 2 ^ 64 = _; omega
  rw [e1, e2, show (1 : Int) = ((1 : Nat) : Int) from rfl, shr_nat .u64 (i + j) 1 (by decide), IntKind.wrap_i64]
  omega
def bsSt (l : List Int) (a : Int) (i j : Nat) : St :=
  ⟨[some (XV.sv (.slc 0 1 0 l.length)), some (XV.int .i64 a), none, none, none, none, some (XV.int .i64 l.length), some (XV.int .i64 i), some (XV.int .i64 j)] ++ List.replicate 45 none, [(0, .ro 1 l.length (intsF l))], 2⟩
theorem bsearch_can (a : Int) (l : List Int) (hl : l.length ≤ 1000000) (hr : Rising l) (ha : a ∉ l) : Reads Tryz.prog 53 [.row 1 l.length (intsF l), .plain (.one (.raw (.int .i64 a)))] [] (.tup [.one (.raw (.int .i64 (posU l a))), .one (.raw (.bool false))]) := by
  have hget : ∀ i, i < l.length → l.getD i 0 ≠ a := fun i hi he => ha (by rw [← he, List.getD_eq_getElem?_getD, List.getElem?_eq_getElem hi]; exact List.getElem_mem hi)
  refine Reads.of Tryz.T_ok Tryz.func53 rfl _ _ _ rfl rfl (fun C hC => ?_)
  (replace hC : C.n0 = 2 := hC; change Tri _ _ _ ⟨_, _, 2⟩ _)
  (refine Tri.cut 3 Tryz.mixed Tryz.T_ok ?_; ((conv => arg 5; whnf); repeat (refine xS ?_; conv => arg 5; whnf)))
  refine wD <| cutG <| Tri.seq ?_
  (refine Tri.cut 1 Tryz.mixed Tryz.T_ok ?_; ((conv => arg 5; whnf); repeat (refine xS ?_; conv => arg 5; whnf)))
  refine wD <| cutG <| Tri.block ?_
  refine Tri.loop (α := { p : Nat × Nat // p.1 ≤ p.2 ∧ p.2 ≤ l.length ∧ (∀ k, k < p.1 → l.getD k 0 < a) ∧ (p.2 < l.length → ¬ l.getD p.2 0 < a) }) (fun p => bsSt l a p.1.1 p.1.2) (fun p => p.1.2 - p.1.1) ⟨(0, l.length), Nat.zero_le _, Nat.le_refl _, fun k hk => absurd hk (Nat.not_lt_zero k), fun h => absurd h (Nat.lt_irrefl _)⟩ ?_ ?_
  · unfold bsSt
    ((try dsimp only); refine Ent.renC [0, 1] hC ?_ ?_ <;> repeat' (first | exact trivial | exact rfl | exact ⟨_, rfl, rfl, rfl, Nat.le_refl _, fun _ _ => rfl⟩ | exact ⟨_, rfl, rfl, rfl, fun _ _ => rfl⟩ | exact ⟨_, rfl, rfl, rfl⟩ | exact ⟨_, rfl, rfl⟩ | refine ⟨_, rfl, rfl, rfl, by omega, fun k hk => ?_⟩ | refine ⟨?_, ?_⟩ | fail))
  rintro ⟨⟨i, j⟩, h1, h2, h3, h4⟩
  dsimp only at h1 h2 h3 h4
  unfold bsSt
  dsimp only
  (refine Tri.cut 2 Tryz.mixed Tryz.T_ok ?_; ((conv => arg 5; whnf); repeat (refine xS ?_; conv => arg 5; whnf)))
  refine wC (fun hc => ?_) (fun hc => ?_)
  · (refine wGo ?_; ((conv => arg 5; whnf); repeat (refine xS ?_; conv => arg 5; whnf)))
    have hij : i < j := (by (try simp only [ww] at *); omega)
    refine wD <| cutG <| Tri.block <| Tri.of Tryz.mixed Tryz.T_ok ?_
    (refine wBegin ?_; ((conv => arg 5; whnf); repeat (refine xS ?_; conv => arg 5; whnf)))
    have hm := mid_eq (i := i) (j := j) (by omega)
    obtain ⟨m, hm'⟩ : ∃ m, (i + j) / 2 = m := ⟨_, rfl⟩
    rw [hm'] at hm
    have k1 : i ≤ m := by omega
    have k2 : m < j := by omega
    rw [hm]
    (repeat (refine wN ?_ ?_; exact (by (try simp only [ww] at *); omega); refine wGo ?_; ((conv => arg 5; whnf); repeat (refine xS ?_; conv => arg 5; whnf))))
    simp only [Nat.zero_add, Int.toNat_natCast]
    (apply wP; exact (call_op rfl (entersB_of Tryz.func100 (by kernel_rfl)) rfl ((lessI_can (l.getD m 0) a).at [] ⟨lend_plain rfl, lend_plain rfl, trivial⟩ trivial)); ((conv => arg 5; whnf); repeat (refine xS ?_; conv => arg 5; whnf)))
    refine wC (fun h5 => ?_) (fun h5 => ?_)
    · (refine wGo ?_; ((conv => arg 5; whnf); repeat (refine xS ?_; conv => arg 5; whnf)))
      have h5' : l.getD m 0 < a := of_decide_eq_true h5
      have hw : IntKind.i64.wrap ((m : Int) + 1) = ((m + 1 : Nat) : Int) := (by (try simp only [ww] at *); omega)
      refine wD <| blockN <| loopN ⟨⟨(m + 1, j), by omega, h2, fun k hk => ?_, h4⟩, by dsimp only; omega, ?_⟩
      · by_cases e : k = m
        · rw [e]; exact h5'
        · have := rising_get hr (show k < m by omega) (by omega); omega
      · rw [hw]
        ((try dsimp only); refine Ent.renC [0, 1] hC ?_ ?_ <;> repeat' (first | exact trivial | exact rfl | exact ⟨_, rfl, rfl, rfl, Nat.le_refl _, fun _ _ => rfl⟩ | exact ⟨_, rfl, rfl, rfl, fun _ _ => rfl⟩ | exact ⟨_, rfl, rfl, rfl⟩ | exact ⟨_, rfl, rfl⟩ | refine ⟨_, rfl, rfl, rfl, by omega, fun k hk => ?_⟩ | refine ⟨?_, ?_⟩ | fail))
    · (refine wGo ?_; ((conv => arg 5; whnf); repeat (refine xS ?_; conv => arg 5; whnf)))
      have h5' : ¬ l.getD m 0 < a := of_decide_eq_false h5
      refine wD <| blockN <| loopN ⟨⟨(i, m), k1, by omega, h3, fun _ => h5'⟩, by dsimp only; omega, ?_⟩
      ((try dsimp only); refine Ent.renC [0, 1] hC ?_ ?_ <;> repeat' (first | exact trivial | exact rfl | exact ⟨_, rfl, rfl, rfl, Nat.le_refl _, fun _ _ => rfl⟩ | exact ⟨_, rfl, rfl, rfl, fun _ _ => rfl⟩ | exact ⟨_, rfl, rfl, rfl⟩ | exact ⟨_, rfl, rfl⟩ | refine ⟨_, rfl, rfl, rfl, by omega, fun k hk => ?_⟩ | refine ⟨?_, ?_⟩ | fail))
  · (refine wGo ?_; ((conv => arg 5; whnf); repeat (refine xS ?_; conv => arg 5; whnf)))
    obtain rfl : i = j := (by (try simp only [ww] at *); omega)
    have hp := posU_of h2 h3 h4
    rw [hp]
    refine wD <| cutE <| loopX <| blockX <| cutG <| Tri.of Tryz.mixed Tryz.T_ok ?_
    (refine wBegin ?_; ((conv => arg 5; whnf); repeat (refine xS ?_; conv => arg 5; whnf)))
    refine wC (fun h5 => ?_) (fun h5 => ?_)
    · have h5' : i < l.length := (by (try simp only [ww] at *); omega)
      (refine wGo ?_; ((conv => arg 5; whnf); repeat (refine xS ?_; conv => arg 5; whnf)))
      (repeat (refine wN ?_ ?_; exact (by (try simp only [ww] at *); omega); refine wGo ?_; ((conv => arg 5; whnf); repeat (refine xS ?_; conv => arg 5; whnf))))
      simp only [Nat.zero_add, Int.toNat_natCast]
      refine wFd (by simpa using hget i h5') ?_
      (refine wGo ?_; ((conv => arg 5; whnf); repeat (refine xS ?_; conv => arg 5; whnf)))
      (repeat (refine wN ?_ ?_; exact (by (try simp only [ww] at *); omega); refine wGo ?_; ((conv => arg 5; whnf); repeat (refine xS ?_; conv => arg 5; whnf))))
      simp only [Nat.zero_add, Int.toNat_natCast]
      (apply wP; exact (call_op rfl (entersB_of Tryz.func101 (by kernel_rfl)) rfl ((nanS_can (l.getD i 0)).at [] ⟨lend_plain rfl, trivial⟩ trivial)); ((conv => arg 5; whnf); repeat (refine xS ?_; conv => arg 5; whnf)))
      exact wD (Ends.plain (.inr rfl) rfl rfl)
    · (refine wGo ?_; ((conv => arg 5; whnf); repeat (refine xS ?_; conv => arg 5; whnf)))
      exact wD (Ends.plain (.inr rfl) rfl rfl)
end Go.Proofs.YtnpkdoggfnlapaaGreatDoor
namespace Go.Proofs.YtnpkdoggfnlapaaGreatDoor
set_option maxRecDepth 100000
open Go.Sx
theorem claimTx_sized (c : ClaimM) : Sized (claimTx c) := ⟨Nat.zero_le _, Nat.zero_le _, Nat.zero_le _, Nat.zero_le _, Nat.zero_le _, Nat.zero_le _⟩
theorem claimTx_bare (c : ClaimM) : emptyB (claimTx c).bare5 = true := by
  show emptyB (claimTx claim0) = true
  decide
theorem mayC_can (c : ClaimM) : Reads Tryz.prog 82 [.box (claimTx c).ac] [] (XV.bool (claimOK c)) := by
  have h := may5_can (claimTx c) rfl (claimTx_sized c)
  rw [claimTx_bare, Bool.and_true] at h
  exact h
theorem anyI_mem (a : Int) (l : List Int) : l.any (eqI a) = decide (a ∈ l) := by
  rw [Bool.eq_iff_iff, List.any_eq_true, decide_eq_true_eq]
  constructor
  · rintro ⟨x, hx, h⟩
    rw [eqI, beq_iff_eq] at h
    rw [h]; exact hx
  · exact fun h => ⟨a, h, by rw [eqI, beq_iff_eq]⟩
def sideSlc (x : SideM) (a b d e : Nat) : List SV := sideCells x (.slc a 8 0 x.par.keys.length) (.slc b 9 0 x.cert.outs.length) (.slc d 282 0 x.cert.sigs.length) (.slc e 1 0 x.used.length)
def chkSt (L : List SideM) (c : ClaimM) (x : SideM) : St :=
  ⟨[some (XV.sv (.ptr 0 0 0 0)), none, none, some (XV.sv (.ptr 3 0 0 0)), none, some (XV.sv (.ptr 4 0 0 0)), some (XV.bool true)] ++ List.replicate 49 none,
   [(0, .abs (pReg L)), (2, .ext stepsP), (3, .cells 46 (c.cells.map .raw)), (4, .cells 68 (sideSlc x 5 6 7 8)), (5, .vec 29 8 x.par.keys.length (keysF x.par.keys)), (6, .vec 59 9 x.cert.outs.length (outsF x.cert.outs)), (7, .vec 192 282 x.cert.sigs.length (sgdsF x.cert.sigs)), (8, .vec 3 1 x.used.length (intsF x.used))], 9⟩
set_option maxHeartbeats 4000000 in
theorem check_can (L : List SideM) (c : ClaimM) (hL : ∀ i, i < L.length → (L.getD i default).Sized) (hl : L.length ≤ 1000) : Acts Tryz.prog 42 (.abs (pReg L)) (.abs (pReg L)) [.plain c.x] [stepsP] (XV.int .i64 (checkE L c)) := by
  refine Acts.of Tryz.T_ok Tryz.func42 rfl _ _ _ _ _ rfl rfl rfl (fun C hC => ?_)
  (replace hC : C.n0 = 3 := hC; change Tri _ _ _ ⟨_, _, 3⟩ _)
  have hmay := mayC_can c
  cases hb : claimOK c with
  | false =>
    rw [hb] at hmay
    have he : checkE L c = 4 := by rw [checkE, if_pos hb]
    rw [he]
    refine Tri.of Tryz.mixed Tryz.T_ok ?_
    (refine wBegin ?_; ((conv => arg 5; whnf); repeat (refine xS ?_; conv => arg 5; whnf)))
    (apply wP; exact (call_op rfl (entersB_of Tryz.func82 (by kernel_rfl)) rfl (hmay.at [] ⟨lend_tx (t := claimTx c) (lend_nil _ _) (lend_nil _ _) (lend_nil _ _) (lend_nil _ _) (lend_nil _ _) (lend_nil _ _), trivial⟩ trivial)); ((conv => arg 5; whnf); repeat (refine xS ?_; conv => arg 5; whnf)))
    exact wD (Ends.shutN (.inr rfl) (Ent.refl _) rfl rfl rfl)
  | true =>
    rw [hb] at hmay
    obtain ⟨⟨s1, s2⟩, ⟨a1, a2⟩, w1, ⟨m1, m2⟩, n1, n2⟩ := claimOK_iff.1 hb
    (refine Tri.cut 3 Tryz.mixed Tryz.T_ok ?_; ((conv => arg 5; whnf); repeat (refine xS ?_; conv => arg 5; whnf)))
    (apply wP; exact (call_op rfl (entersB_of Tryz.func82 (by kernel_rfl)) rfl (hmay.at [] ⟨lend_tx (t := claimTx c) (lend_nil _ _) (lend_nil _ _) (lend_nil _ _) (lend_nil _ _) (lend_nil _ _) (lend_nil _ _), trivial⟩ trivial)); ((conv => arg 5; whnf); repeat (refine xS ?_; conv => arg 5; whnf)))
    by_cases h8 : (L.length : Int) ≤ c.side
    · have he : checkE L c = 8 := by rw [checkE, if_neg (by rw [hb]; simp), if_pos h8]
      rw [he]
      have ho := side_out L c.side (by rw [inB, decide_eq_false (show ¬ c.side < (L.length : Int) by omega), Bool.and_false])
      (apply wP; exact (call_op rfl (entersB_of Tryz.func22 (by kernel_rfl)) rfl (ho.at1 [] rfl rfl rfl ⟨lend_plain rfl, trivial⟩ trivial)); ((conv => arg 5; whnf); repeat (refine xS ?_; conv => arg 5; whnf)))
      refine wD <| cutG <| Tri.of Tryz.mixed Tryz.T_ok ?_
      (refine wBegin ?_; ((conv => arg 5; whnf); repeat (refine xS ?_; conv => arg 5; whnf)))
      exact wD (Ends.shutN (.inr rfl) (Ent.refl _) rfl rfl rfl)
    have hi : c.side.toNat < L.length := by omega
    have hz := hL _ hi
    have hin := side_in L c.side.toNat hi hz
    rw [Int.toNat_of_nonneg s1] at hin
    have he : checkE L c = checkX (L.getD c.side.toNat default) c := by rw [checkE, if_neg (by rw [hb]; simp), if_neg h8]
    rw [he]
    generalize L.getD c.side.toNat default = x at hin hz ⊢
    (apply wP; exact (call_op rfl (entersB_of Tryz.func22 (by kernel_rfl)) rfl (hin.at1 [] rfl rfl rfl ⟨lend_plain rfl, trivial⟩ trivial)); ((conv => arg 5; whnf); repeat (refine xS ?_; conv => arg 5; whnf)))
    refine wD <| cutG <| Tri.ent (Ent.unpack (c := 16) (l := sideRows x) rfl) <| Tri.ent (S' := chkSt L c x) ?_ ?_
    · unfold chkSt
      ((try dsimp only); refine Ent.renC [0, 1, 2, 3, 20, 23, 24, 25, 26] hC ?_ ?_ <;> repeat' (first | exact trivial | exact rfl | exact ⟨_, rfl, rfl, rfl, Nat.le_refl _, fun _ _ => rfl⟩ | exact ⟨_, rfl, rfl, rfl, fun _ _ => rfl⟩ | exact ⟨_, rfl, rfl, rfl⟩ | exact ⟨_, rfl, rfl⟩ | refine ⟨_, rfl, rfl, rfl, by omega, fun k hk => ?_⟩ | refine ⟨?_, ?_⟩ | fail))
    unfold chkSt
    refine Tri.of Tryz.mixed Tryz.T_ok ?_
    (refine wBegin ?_; ((conv => arg 5; whnf); repeat (refine xS ?_; conv => arg 5; whnf)))
    refine wC (fun h1 => ?_) (fun h1 => ?_)
    · have h1' : x.ceased = false := by simpa using h1
      (refine wGo ?_; ((conv => arg 5; whnf); repeat (refine xS ?_; conv => arg 5; whnf)))
      exact wD (Ends.shutN (.inr rfl) (Ent.refl _) rfl rfl (by rw [checkX, if_pos h1']))
    have h1' : x.ceased = true := by simpa using h1
    (refine wGo ?_; ((conv => arg 5; whnf); repeat (refine xS ?_; conv => arg 5; whnf)))
    (apply wP; exact (call_op rfl (entersB_of Tryz.func83 (by kernel_rfl)) rfl ((containsI_can c.acct x.used (by have := hz.used; omega)).at [8] ⟨lend_vecN (lo := 0) rfl rfl rfl (Nat.le_of_eq (Nat.zero_add _)) (fun i _ => by rw [Nat.zero_add]), lend_plain rfl, trivial⟩ trivial)); ((conv => arg 5; whnf); repeat (refine xS ?_; conv => arg 5; whnf)))
    rw [anyI_mem]
    refine wC (fun h2 => ?_) (fun h2 => ?_)
    · have h2' : c.acct ∈ x.used := of_decide_eq_true h2
      (refine wGo ?_; ((conv => arg 5; whnf); repeat (refine xS ?_; conv => arg 5; whnf)))
      exact wD (Ends.shutN (.inr rfl) (Ent.refl _) rfl rfl (by rw [checkX, if_neg (by rw [h1']; simp), if_pos h2']))
    have h2' : c.acct ∉ x.used := of_decide_eq_false h2
    (refine wGo ?_; ((conv => arg 5; whnf); repeat (refine xS ?_; conv => arg 5; whnf)))
    (apply wP; exact (call_op rfl (entersB_of Tryz.func85 (by kernel_rfl)) rfl ((leafP_can c.acct c.st ⟨⟨a1, a2⟩, w1, ⟨by omega, by omega⟩, ⟨n1, n2⟩⟩).at [2] ⟨lend_plain rfl, lend_plain rfl, trivial⟩ ⟨lend_ext (c := 2) rfl rfl, trivial⟩)); ((conv => arg 5; whnf); repeat (refine xS ?_; conv => arg 5; whnf)))
    have hsc := scheck_can x.root (leafA c.acct c.st) c.acct.toNat (by omega) c.proof
    rw [Int.toNat_of_nonneg a1] at hsc
    (apply wP; exact (call_op rfl (entersB_of Tryz.func84 (by kernel_rfl)) rfl (hsc.at [2] ⟨lend_plain rfl, lend_plain rfl, lend_plain rfl, lend_plain rfl, trivial⟩ ⟨lend_ext (c := 2) rfl rfl, trivial⟩)); ((conv => arg 5; whnf); repeat (refine xS ?_; conv => arg 5; whnf)))
    have hpf : decide (upS (leafA c.acct c.st) c.acct.toNat c.proof 16 = x.root) = proofOK x.root c := rfl
    rw [hpf]
    refine wC (fun h3 => ?_) (fun h3 => ?_)
    · have h3' : proofOK x.root c = false := by simpa using h3
      (refine wGo ?_; ((conv => arg 5; whnf); repeat (refine xS ?_; conv => arg 5; whnf)))
      exact wD (Ends.shutN (.inr rfl) (Ent.refl _) rfl rfl (by rw [checkX, if_neg (by rw [h1']; simp), if_neg h2', if_pos h3']))
    have h3' : proofOK x.root c = true := by simpa using h3
    (refine wGo ?_; ((conv => arg 5; whnf); repeat (refine xS ?_; conv => arg 5; whnf)))
    refine wC (fun h4 => ?_) (fun h4 => ?_)
    · have h4' : x.bal < c.st.amt := of_decide_eq_true h4
      (refine wGo ?_; ((conv => arg 5; whnf); repeat (refine xS ?_; conv => arg 5; whnf)))
      exact wD (Ends.shutN (.inr rfl) (Ent.refl _) rfl rfl (by rw [checkX, if_neg (by rw [h1']; simp), if_neg h2', if_neg (by rw [h3']; simp), if_pos h4']))
    have h4' : ¬ x.bal < c.st.amt := of_decide_eq_false h4
    (refine wGo ?_; ((conv => arg 5; whnf); repeat (refine xS ?_; conv => arg 5; whnf)))
    exact wD (Ends.shutN (.inr rfl) (Ent.refl _) rfl rfl (by rw [checkX, if_neg (by rw [h1']; simp), if_neg h2', if_neg (by rw [h3']; simp), if_neg h4']))
end Go.Proofs.YtnpkdoggfnlapaaGreatDoor

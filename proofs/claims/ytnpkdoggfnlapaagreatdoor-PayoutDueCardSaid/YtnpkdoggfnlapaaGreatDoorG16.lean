/- Parts Hm Hn Ho Ta Tb. -/
import Derived.Test.YtnpkdoggfnlapaaGreatDoorG15
import Derived.Test.YtnpkdoggfnlapaaGreatDoorG11
set_option linter.unusedSimpArgs false
set_option linter.unusedVariables false
namespace Go.Proofs.YtnpkdoggfnlapaaGreatDoor
set_option maxRecDepth 100000
open Go.Sx
theorem strIndex_op {P : Program} {T : TyTab} {S : St} {d : Nat} {o : Oper} (hT : TabOK P T) {t : TypeId} {x i : Operand} {td : TyD} {s : ByteArray} {k : IntKind} {n : Int} (b : UInt8) (ho : o.op = .index t x i) (ht : T t = some td) (hd : td.desc = .str)
    (hx : S.ev x = some (XV.val (.string s))) (hi : S.ev i = some (XV.int k n)) (h0 : 0 ≤ n) (hb : s[n.toNat]? = some b) : OpSound P S d o { v := XV.int .u8 (b.toNat : Int) } [] := by
  refine pure_op fun β w a hops => ?_
  have e2 := hops x (by rw [ho]; simp [Op.operands]) _ hx
  have e3 := hops i (by rw [ho]; simp [Op.operands]) _ hi
  simp only [XV.rel, CV.rel, SV.rel] at e2 e3
  have hu := under_str hT ht hd
  exact ⟨.int .u8 (b.toNat : Int), by simp [execOp, ho, e2, e3, Instr.index, asIntOf, run_underlying hu, h0, hb], rfl⟩
def len8 (y : Nat) : UInt8 := if y = 0 then 0 else UInt8.ofNat (Nat.log2 y + 1)
theorem strTab {s : ByteArray} {g : Nat → UInt8} {m : Nat} (h : ((List.range m).all fun y => s[y]? == some (g y)) = true) {y : Nat} (hy : y < m) : s[y]? = some (g y) := by
  have := List.all_eq_true.1 h y (List.mem_range.2 hy)
  exact eq_of_beq this
theorem log2_256 {x : Nat} (h : 256 ≤ x) : Nat.log2 x = 8 + Nat.log2 (x / 256) := by
  have h1 := Nat.log2_self_le (n := x / 256) (by omega)
  have h2 := Nat.lt_log2_self (n := x / 256)
  refine (Nat.log2_eq_iff (by omega)).2 ⟨?_, ?_⟩
  · rw [Nat.pow_add]
    have := Nat.mul_le_mul_left (2 ^ 8) h1
    omega
  · rw [show 8 + (x / 256).log2 + 1 = 8 + ((x / 256).log2 + 1) by omega, Nat.pow_add]
    have := Nat.mul_le_mul_left (2 ^ 8) (Nat.succ_le_of_lt h2)
    omega
theorem len8_toNat {y : Nat} (h0 : y ≠ 0) (h : y < 256) : (len8 y).toNat = Nat.log2 y + 1 := by
  have h1 : Nat.log2 y < 8 := (Nat.log2_lt h0).2 h
  unfold len8
  rw [if_neg h0, UInt8.toNat_ofNat']
  omega
set_option maxHeartbeats 1000000 in
theorem len64_can (x : Nat) (h1 : 1 ≤ x) (h2 : x < 65536) : Reads Tryz.prog 229 [.plain (.one (.raw (.int .u64 x)))] [] (XV.int .i64 ((Nat.log2 x + 1 : Nat) : Int)) := by
  have hl : Nat.log2 x < 16 := (Nat.log2_lt (by omega)).2 h2
  refine Reads.of Tryz.T_ok Tryz.func229 rfl _ _ _ rfl rfl (fun C hC => ?_)
  (replace hC : C.n0 = 1 := hC; change Tri _ _ _ ⟨_, _, 1⟩ _)
  refine Tri.of Tryz.mixed Tryz.T_ok ?_
  (refine xB ?_)
  refine wC (fun h => ?_) (fun _ => ?_)
  · have : False := xW
    exact this.elim
  (refine xG ?_)
  refine wC (fun h => ?_) (fun _ => ?_)
  · have : False := xW
    exact this.elim
  (refine xG ?_)
  refine wC (fun h => ?_) (fun h => ?_)
  · have hx : 256 ≤ x := xW
    have e : IntKind.u8.wrap (shrI .u64 (x : Int) 8) = ((x / 256 : Nat) : Int) := by
      rw [show (8 : Int) = ((8 : Nat) : Int) from rfl, shr_nat _ _ _ (by decide), IntKind.wrap_u8]
      omega
    (refine xG ?_)
    simp only [e]
    (refine wP _ _ (strIndex_op Tryz.T_ok (len8 (x / 256)) rfl rfl rfl rfl rfl (Int.natCast_nonneg _) (strTab (m := 256) (by kernel_rfl) (y := x / 256) (by omega))) ?_; refine xZ ?_)
    refine wD (Ends.plain (.inr rfl) rfl ?_)
    rw [len8_toNat (by omega) (by omega), log2_256 hx]
    exact congrArg (fun n : Int => XV.int .i64 n) (by simp only [IntKind.wrap_i64]; have := log2_256 hx; omega)
  · have hx : x < 256 := xW
    have e : IntKind.u8.wrap (x : Int) = ((x : Nat) : Int) := by rw [IntKind.wrap_u8]; omega
    (refine xG ?_)
    simp only [e]
    (refine wP _ _ (strIndex_op Tryz.T_ok (len8 x) rfl rfl rfl rfl rfl (Int.natCast_nonneg _) (strTab (m := 256) (by kernel_rfl) (y := x) (by omega))) ?_; refine xZ ?_)
    refine wD (Ends.plain (.inr rfl) rfl ?_)
    rw [len8_toNat (by omega) (by omega)]
    exact congrArg (fun n : Int => XV.int .i64 n) (by simp only [IntKind.wrap_i64]; omega)
theorem len_can (x : Nat) (h1 : 1 ≤ x) (h2 : x < 65536) : Reads Tryz.prog 205 [.plain (.one (.raw (.int .u64 x)))] [] (XV.int .i64 ((Nat.log2 x + 1 : Nat) : Int)) := by
  have e : IntKind.u64.wrap (x : Int) = x := by rw [IntKind.wrap_u64]; omega
  refine Reads.of Tryz.T_ok Tryz.func205 rfl _ _ _ rfl rfl (fun C hC => ?_)
  (replace hC : C.n0 = 1 := hC; change Tri _ _ _ ⟨_, _, 1⟩ _)
  refine Tri.of Tryz.mixed Tryz.T_ok ?_
  (refine xB ?_)
  (apply wP; exact (call_op rfl (entersB_of Tryz.func229 (by kernel_rfl)) rfl ((len64_can x h1 h2).at [] ⟨lend_plain rfl, trivial⟩ trivial)); refine xZ ?_)
  exact wD (Ends.plain (.inr rfl) rfl rfl)
theorem half_can (n : Nat) (h1 : 2 ≤ n) (h2 : n ≤ 65536) : Reads Tryz.prog 246 [.plain (.one (.raw (.int .i64 n)))] [] (XV.int .i64 (halfN n)) := by
  have e1 : IntKind.u64.wrap (IntKind.i64.wrap ((n : Int) - 1)) = ((n - 1 : Nat) : Int) := by simp only [IntKind.wrap_u64, IntKind.wrap_i64]; omega
  have hl : Nat.log2 (n - 1) < 16 := (Nat.log2_lt (by omega)).2 (by omega)
  have e2 : IntKind.i64.wrap (((Nat.log2 (n - 1) + 1 : Nat) : Int) - 1) = ((Nat.log2 (n - 1) : Nat) : Int) := by simp only [IntKind.wrap_i64]; omega
  refine Reads.of Tryz.T_ok Tryz.func246 rfl _ _ _ rfl rfl (fun C hC => ?_)
  (replace hC : C.n0 = 1 := hC; change Tri _ _ _ ⟨_, _, 1⟩ _)
  refine Tri.of Tryz.mixed Tryz.T_ok ?_
  (refine xB ?_)
  simp only [e1]
  (apply wP; exact (call_op rfl (entersB_of Tryz.func205 (by kernel_rfl)) rfl ((len_can (n - 1) (by omega) (by omega)).at [] ⟨lend_plain rfl, trivial⟩ trivial)); refine xZ ?_)
  simp only [e2]
  (repeat (refine wN ?_ ?_; exact xW; refine xG ?_))
  refine wD (Ends.plain (.inr rfl) rfl ?_)
  refine congrArg (fun n : Int => XV.int .i64 n) ?_
  have e3 : min (((Nat.log2 (n - 1) : Nat) : Int).toNat) IntKind.i64.bits = Nat.log2 (n - 1) := by
    rw [Int.toNat_natCast]
    exact Nat.min_eq_left (Nat.le_trans (Nat.le_of_lt hl) (by decide))
  have hp : 2 ^ Nat.log2 (n - 1) < 2 ^ 16 := Nat.pow_lt_pow_right (by decide) hl
  rw [shlI, e3, Int.one_mul, show ((2 : Int) ^ Nat.log2 (n - 1)) = ((2 ^ Nat.log2 (n - 1) : Nat) : Int) by rw [Int.natCast_pow]; rfl, IntKind.wrap_i64]
  unfold halfN
  obtain ⟨p, hp'⟩ : ∃ p, 2 ^ Nat.log2 (n - 1) = p := ⟨_, rfl⟩
  rw [hp'] at hp ⊢
  omega
def boolsF (l : List Bool) : Nat → List Value := fun i => [.bool (l.getD i false)]
theorem boolsF_cons {b : Bool} {l : List Bool} {f g : Nat → List Value} {k : Nat} (hf : f 0 = [.bool b]) (hg : ∀ i, i < l.length → g i = boolsF l i) (hk : k < l.length + 1) : joinF f 1 g k = boolsF (b :: l) k := by
  cases k with
  | zero =>
    have : Nat.blt 0 1 = true := rfl
    simp [joinF, hf, boolsF, this]
  | succ k =>
    have : Nat.blt (k + 1) 1 = false := by rw [nblt]; simp
    rw [joinF, this, cond_false, Nat.add_sub_cancel]
    rw [hg k (by omega)]
    simp [boolsF]
def turnSt (i n : Nat) (l : List Bool) : St :=
  ⟨[some (XV.int .i64 i), some (XV.int .i64 n), none, none, none, some (XV.sv (.slc 2 1 0 l.length))] ++ List.replicate 22 none, [(2, .vec 4 1 l.length (boolsF l))], 3⟩
set_option maxHeartbeats 1000000 in
theorem turns_can (i0 n0 : Nat) (h1 : i0 < n0) (h2 : n0 ≤ 65536) : Makes Tryz.prog 233 [.plain (.one (.raw (.int .i64 i0))), .plain (.one (.raw (.int .i64 n0)))] [] (XV.sv (.slc 0 1 0 (turnsN i0 n0).length)) (.vec 4 1 (turnsN i0 n0).length (boolsF (turnsN i0 n0))) := by
  refine Makes.of Tryz.T_ok Tryz.func233 rfl _ _ _ _ rfl rfl rfl rfl 2 (fun C hC => ?_)
  (replace hC : C.n0 = 2 := hC; change Tri _ _ _ ⟨_, _, 2⟩ _)
  (refine Tri.cut 2 Tryz.mixed Tryz.T_ok ?_; refine xZ ?_)
  refine wD <| cutG <| Tri.ent (Ent.nils (t := 5) rfl 4 1) <| Tri.seq <| Tri.block ?_
  refine Tri.loop (α := { x : Nat × Nat × List Bool // x.1 < x.2.1 ∧ x.2.1 ≤ 65536 ∧ x.2.2.length + x.2.1 ≤ 65536 ∧ turnsN x.1 x.2.1 ++ x.2.2 = turnsN i0 n0 }) (fun x => turnSt x.1.1 x.1.2.1 x.1.2.2) (fun x => x.1.2.1) ⟨(i0, n0, []), h1, h2, by simpa using h2, List.append_nil _⟩ ?_ ?_
  · ((try dsimp only); refine Ent.renC [0, 1, 4] hC ?_ ?_ <;> repeat' (first | exact trivial | exact rfl | exact ⟨_, rfl, rfl, rfl, Nat.le_refl _, fun _ _ => rfl⟩ | exact ⟨_, rfl, rfl, rfl, fun _ _ => rfl⟩ | exact ⟨_, rfl, rfl, rfl⟩ | exact ⟨_, rfl, rfl⟩ | refine ⟨_, rfl, rfl, rfl, by omega, fun k hk => ?_⟩ | refine ⟨?_, ?_⟩ | fail))
    · exact Nat.le_refl _
    · exact fun k hk => absurd hk (Nat.not_lt_zero _)
  rintro ⟨⟨i, n, l⟩, hi, hn, hl, ht⟩
  dsimp only at hi hn hl ht ⊢
  (refine Tri.cut 1 Tryz.mixed Tryz.T_ok ?_; refine xZ ?_)
  refine wC (fun h3 => ?_) (fun h3 => ?_)
  · have h3' : 1 < n := xW
    have a1 := half_pos n
    have a2 := half_lt (n := n) (by omega)
    have e1 : IntKind.i64.wrap ((i : Int) - (halfN n : Int)) = ((i : Int) - (halfN n : Int)) := xW
    (refine xG ?_)
    refine wD <| cutG <| Tri.block <| Tri.of Tryz.mixed Tryz.T_ok ?_
    (refine xB ?_)
    (apply wP; exact (call_op rfl (entersB_of Tryz.func246 (by kernel_rfl)) rfl ((half_can n (by omega) hn).at [] ⟨lend_plain rfl, trivial⟩ trivial)); refine xZ ?_)
    (refine wP _ _ (append_op Tryz.T_ok rfl rfl rfl rfl rfl [13, 2] (old_vec rfl rfl (Nat.le_refl _) rfl) (new_vec (lo := 0) rfl rfl (by omega) rfl) rfl (fun _ _ => rfl) (by simp only [maxLen]; omega) (by dsimp only; omega)) ?_; refine xZ ?_)
    refine wC (fun h4 => ?_) (fun h4 => ?_)
    · have h4' : halfN n ≤ i := xW
      have w1 : IntKind.i64.wrap ((i : Int) - (halfN n : Int)) = ((i - halfN n : Nat) : Int) := xW
      have w2 : IntKind.i64.wrap ((n : Int) - (halfN n : Int)) = ((n - halfN n : Nat) : Int) := xW
      (refine xG ?_)
      refine wD <| blockN <| loopN ⟨⟨(i - halfN n, n - halfN n, true :: l), by dsimp only; omega, by dsimp only; omega, by simp only [List.length_cons]; omega, ?_⟩, by dsimp only; omega, ?_⟩
      · dsimp only
        rw [← ht, turnsN_step (n := n) (by omega), if_neg (by omega), List.append_assoc]; rfl
      rw [w1, w2, h4, Nat.add_comm 1]
      ((try dsimp only); refine Ent.renC [0, 1, 15] hC ?_ ?_ <;> repeat' (first | exact trivial | exact rfl | exact ⟨_, rfl, rfl, rfl, Nat.le_refl _, fun _ _ => rfl⟩ | exact ⟨_, rfl, rfl, rfl, fun _ _ => rfl⟩ | exact ⟨_, rfl, rfl, rfl⟩ | exact ⟨_, rfl, rfl⟩ | refine ⟨_, rfl, rfl, rfl, by omega, fun k hk => ?_⟩ | refine ⟨?_, ?_⟩ | fail))
      · exact Nat.le_refl _
      · exact fun k hk => boolsF_cons rfl (fun _ _ => by rw [Nat.zero_add]) hk
    · have h4' : i < halfN n := xW
      (refine xG ?_)
      refine wD <| blockN <| loopN ⟨⟨(i, halfN n, false :: l), h4', by dsimp only; omega, by simp only [List.length_cons]; omega, ?_⟩, by dsimp only; omega, ?_⟩
      · dsimp only
        rw [← ht, turnsN_step (n := n) (by omega), if_pos h4', List.append_assoc]; rfl
      rw [h4, Nat.add_comm 1]
      ((try dsimp only); refine Ent.renC [0, 1, 15] hC ?_ ?_ <;> repeat' (first | exact trivial | exact rfl | exact ⟨_, rfl, rfl, rfl, Nat.le_refl _, fun _ _ => rfl⟩ | exact ⟨_, rfl, rfl, rfl, fun _ _ => rfl⟩ | exact ⟨_, rfl, rfl, rfl⟩ | exact ⟨_, rfl, rfl⟩ | refine ⟨_, rfl, rfl, rfl, by omega, fun k hk => ?_⟩ | refine ⟨?_, ?_⟩ | fail))
      · exact Nat.le_refl _
      · exact fun k hk => boolsF_cons rfl (fun _ _ => by rw [Nat.zero_add]) hk
  · have h3' : n ≤ 1 := xW
    rw [turnsN_one h3', List.nil_append] at ht
    (refine xG ?_)
    refine wD <| cutE <| loopX <| blockX <| cutG <| Tri.of Tryz.mixed Tryz.T_ok ?_
    rw [ht]
    (refine xB ?_)
    exact wD (Ends.made (.inr rfl) (Ent.refl _) rfl (Nat.le_refl _) rfl)
def upTo (x : H8) (i n : Nat) (p : Nat → H8) (k : Nat) : H8 := upL (leafH x) ((turnsN i n).take k) (listH p k)
theorem upTo_step {x : H8} {i n : Nat} {p : Nat → H8} {k : Nat} (hk : k < (turnsN i n).length) : upTo x i n p (k + 1) = stepU (upTo x i n p k) ((turnsN i n).getD k false) (p k) := by
  unfold upTo
  rw [List.take_add_one, listH_succ]
  have : (turnsN i n)[k]?.toList = [(turnsN i n).getD k false] := by
    rw [List.getElem?_eq_getElem hk, List.getD_eq_getElem?_getD, List.getElem?_eq_getElem hk]; rfl
  rw [this]
  exact upL_snoc _ _ _ _ _ (by rw [listH_length, List.length_take]; omega)
def mchkSt (root h : H8) (i n L : Nat) (p : Nat → H8) (k : Nat) : St :=
  ⟨[none, none, none, none, none, some (XV.sv (.ptr 6 0 0 0)), none, none, none, none, none, some (XV.sv (.slc 7 1 0 L)), some (XV.sv (.ptr 8 0 0 0))] ++ List.replicate 27 none ++ [some (XV.sv (.slc 4 8 0 L)), some (XV.int .i64 L), some (XV.int .i64 k)] ++ List.replicate 18 none,
   [(4, .ro 8 L (hashF p)), (5, .ext stepsP), (6, .cells 29 (root.cells.map .raw)), (7, .vec 4 1 L (boolsF (turnsN i n))), (8, .cells 29 (h.cells.map .raw))], 9⟩
set_option maxHeartbeats 2000000 in
theorem mcheck_can (root x : H8) (i n L : Nat) (p : Nat → H8) (hi : i < n) (hn : n ≤ 65536) (hL : L ≤ 1000000000) : Reads Tryz.prog 217 [.plain root.x, .plain x.x, .plain (.one (.raw (.int .i64 i))), .plain (.one (.raw (.int .i64 n))), .row 8 L (hashF p)] [stepsP] (XV.bool (leads root x i n p L)) := by
  refine Reads.of Tryz.T_ok Tryz.func217 rfl _ _ _ rfl rfl (fun C hC => ?_)
  (replace hC : C.n0 = 6 := hC; change Tri _ _ _ ⟨_, _, 6⟩ _)
  (refine Tri.cut 4 Tryz.mixed Tryz.T_ok ?_; refine xZ ?_)
  (refine wFd ?_ ?_; (first | refine decide_eq_false ?_ | rw [beq_eq_false_iff_ne] | rw [bne_eq_false_iff_eq]); exact xW; refine xG ?_)
  (refine wFd ?_ ?_; (first | refine decide_eq_false ?_ | rw [beq_eq_false_iff_ne] | rw [bne_eq_false_iff_eq]); exact xW; refine xG ?_)
  (refine wFd ?_ ?_; (first | refine decide_eq_false ?_ | rw [beq_eq_false_iff_ne] | rw [bne_eq_false_iff_eq]); exact xW; refine xG ?_)
  (refine wFd ?_ ?_; (first | refine decide_eq_false ?_ | rw [beq_eq_false_iff_ne] | rw [bne_eq_false_iff_eq]); exact xW; refine xG ?_)
  (apply wP; exact (call_op rfl (entersB_of Tryz.func233 (by kernel_rfl)) rfl ((turns_can i n hi hn).at [] ⟨lend_plain rfl, lend_plain rfl, trivial⟩ trivial)); refine xZ ?_)
  refine wC (fun h1 => ?_) (fun h1 => ?_)
  · have h1' : ¬ L = (turnsN i n).length := by
      intro e; rw [← e] at h1; simp at h1
    (refine xG ?_)
    refine wD <| cutR <| Ends.plain (.inr rfl) rfl ?_
    have : leads root x i n p L = false := by unfold leads; rw [decide_eq_false h1']; rfl
    rw [this]
  · have h1' : L = (turnsN i n).length := by
      have : ((turnsN i n).length : Int) = (L : Int) := by simpa using h1
      omega
    (refine xG ?_)
    refine wD <| cutG ?_
    (refine Tri.cut 1 Tryz.mixed Tryz.T_ok ?_; refine xZ ?_)
    (apply wP; exact (call_op rfl (entersB_of Tryz.func234 (by kernel_rfl)) rfl ((leaf_can x).at [5] ⟨lend_plain rfl, trivial⟩ ⟨lend_ext (c := 5) rfl rfl, trivial⟩)); refine xZ ?_)
    refine wD <| cutG <| Tri.seq ?_
    (refine Tri.cut 1 Tryz.mixed Tryz.T_ok ?_; refine xZ ?_)
    rw [← h1']
    refine wD <| cutG <| Tri.block ?_
    refine Tri.loop (α := { k : Nat // k ≤ L }) (fun k => mchkSt root (upTo x i n p k.1) i n L p k.1) (fun k => L - k.1) ⟨0, Nat.zero_le _⟩ ?_ ?_
    · ((try dsimp only); refine Ent.renC [0, 1, 2, 3, 4, 5, 6, 26, 35] hC ?_ ?_ <;> repeat' (first | exact trivial | exact rfl | exact ⟨_, rfl, rfl, rfl, Nat.le_refl _, fun _ _ => rfl⟩ | exact ⟨_, rfl, rfl, rfl, fun _ _ => rfl⟩ | exact ⟨_, rfl, rfl, rfl⟩ | exact ⟨_, rfl, rfl⟩ | refine ⟨_, rfl, rfl, rfl, by omega, fun k hk => ?_⟩ | refine ⟨?_, ?_⟩ | fail))
    rintro ⟨k, hk⟩
    dsimp only
    (refine Tri.cut 2 Tryz.mixed Tryz.T_ok ?_; refine xZ ?_)
    refine wC (fun h2 => ?_) (fun h2 => ?_)
    · (refine xG ?_)
      have h2' : k < L := xW
      have hw : IntKind.i64.wrap ((k : Int) + 1) = ((k + 1 : Nat) : Int) := xW
      refine wD <| cutG <| Tri.seq <| Tri.block <| Tri.of Tryz.mixed Tryz.T_ok ?_
      (refine xB ?_)
      (repeat (refine wN ?_ ?_; exact xW; refine xG ?_))
      simp only [Nat.zero_add, Int.toNat_natCast]
      refine wC (fun h3 => ?_) (fun h3 => ?_)
      · have h3' : (turnsN i n).getD k false = true := h3
        have hs := upTo_step (x := x) (p := p) (k := k) (i := i) (n := n) (by omega)
        rw [h3'] at hs
        (refine xG ?_)
        (apply wP; exact (call_op rfl (entersB_of Tryz.func235 (by kernel_rfl)) rfl ((join_can (p k) (upTo x i n p k)).at [5] ⟨lend_plain rfl, lend_plain rfl, trivial⟩ ⟨lend_ext (c := 5) rfl rfl, trivial⟩)); refine xZ ?_)
        refine wD <| blockN <| cutG <| Tri.of Tryz.mixed Tryz.T_ok ?_
        (refine xB ?_)
        refine wD <| loopN ⟨⟨k + 1, h2'⟩, by dsimp only; omega, ?_⟩
        rw [hw]
        dsimp only
        rw [hs]
        ((try dsimp only); refine Ent.renC [0, 1, 2, 3, 4, 5, 6, 7, 8] hC ?_ ?_ <;> repeat' (first | exact trivial | exact rfl | exact ⟨_, rfl, rfl, rfl, Nat.le_refl _, fun _ _ => rfl⟩ | exact ⟨_, rfl, rfl, rfl, fun _ _ => rfl⟩ | exact ⟨_, rfl, rfl, rfl⟩ | exact ⟨_, rfl, rfl⟩ | refine ⟨_, rfl, rfl, rfl, by omega, fun k hk => ?_⟩ | refine ⟨?_, ?_⟩ | fail))
      · have h3' : (turnsN i n).getD k false = false := h3
        have hs := upTo_step (x := x) (p := p) (k := k) (i := i) (n := n) (by omega)
        rw [h3'] at hs
        (refine xG ?_)
        (apply wP; exact (call_op rfl (entersB_of Tryz.func235 (by kernel_rfl)) rfl ((join_can (upTo x i n p k) (p k)).at [5] ⟨lend_plain rfl, lend_plain rfl, trivial⟩ ⟨lend_ext (c := 5) rfl rfl, trivial⟩)); refine xZ ?_)
        refine wD <| blockN <| cutG <| Tri.of Tryz.mixed Tryz.T_ok ?_
        (refine xB ?_)
        refine wD <| loopN ⟨⟨k + 1, h2'⟩, by dsimp only; omega, ?_⟩
        rw [hw]
        dsimp only
        rw [hs]
        ((try dsimp only); refine Ent.renC [0, 1, 2, 3, 4, 5, 6, 7, 8] hC ?_ ?_ <;> repeat' (first | exact trivial | exact rfl | exact ⟨_, rfl, rfl, rfl, Nat.le_refl _, fun _ _ => rfl⟩ | exact ⟨_, rfl, rfl, rfl, fun _ _ => rfl⟩ | exact ⟨_, rfl, rfl, rfl⟩ | exact ⟨_, rfl, rfl⟩ | refine ⟨_, rfl, rfl, rfl, by omega, fun k hk => ?_⟩ | refine ⟨?_, ?_⟩ | fail))
    · (refine xG ?_)
      have h2' : k = L := xW
      subst h2'
      refine wD <| cutE <| loopX <| blockX <| cutG <| Tri.of Tryz.mixed Tryz.T_ok ?_
      (refine xB ?_)
      (refine wP _ _ (eq_op hashE rfl (upTo x i n p k) root rfl rfl) ?_; refine xZ ?_)
      refine wD (Ends.plain (.inr rfl) rfl ?_)
      have : leads root x i n p k = decide (upTo x i n p k = root) := by
        unfold leads upTo
        rw [decide_eq_true h1', Bool.true_and, h1', List.take_length]
      rw [this]
end Go.Proofs.YtnpkdoggfnlapaaGreatDoor
namespace Go.Proofs.YtnpkdoggfnlapaaGreatDoor
set_option maxRecDepth 100000
open Go.Sx
theorem lend_elem {M : Mem} {rd : List Nat} {c off sz sz1 i k cap n : Nat} {f g : Nat → List Value} (hm : M.get c = some (.ro sz n f)) (hrd : nmem c rd = true) (hoff : off = i * sz) (hi : i < n) (hl : ∀ j, j < k → (g j).length = sz1) (hf : f i = tabF g 0 k) : Lends M rd (.one (.sla c off sz1 k cap)) (.row sz1 k g) := by
  refine Lends.row ?_
  intro β ow w v _ h hr
  have hh := hr c ((nmem_iff c rd).1 hrd) _ hm
  simp only [CV.rel, SV.rel] at h
  obtain ⟨a, h1, h2, h3⟩ := h
  simp only [Holds] at hh
  by_cases hn : (β c).nil = true
  · rw [if_pos hn] at hh; omega
  rw [if_neg hn] at hh
  refine ⟨(β c).part off cap, ?_, ?_⟩
  · have hn' : ¬ ((β c).part off cap).nil = true := hn
    simp only [SV.rel]
    rw [if_neg hn']
    refine ⟨a, by rw [h1]; simp [Loc.part], by simpa [Loc.part] using h2, fun hl => ?_⟩
    rw [Loc.part_addr, h3 (by simpa [Loc.part] using hl)]
    simp
  · unfold RoAt
    rw [if_neg (show ¬ ((β c).part off cap).nil = true from hn)]
    refine ⟨⟨hh.2.1, .inl hh.1⟩, fun j hj => ⟨hl j hj, fun q u hu => ?_⟩⟩
    obtain ⟨_, e2⟩ := hh.2.2 i hi
    have hq : q < sz1 := by rw [← hl j hj]; exact (List.getElem?_eq_some_iff.1 hu).1
    rw [Loc.part_addr, hoff]
    refine e2 (j * sz1 + q) u ?_
    rw [hf, tabF_eq, flat_get hl hj hq]
    exact hu
theorem cut_can (n : Nat) (h1 : 2 ≤ n) (h2 : n ≤ 65536) : Reads Tryz.prog 195 [.plain (.one (.raw (.int .i64 n)))] [] (XV.int .i64 (halfN n)) := by
  refine Reads.of Tryz.T_ok Tryz.func195 rfl _ _ _ rfl rfl (fun C hC => ?_)
  (replace hC : C.n0 = 1 := hC; change Tri _ _ _ ⟨_, _, 1⟩ _)
  (refine Tri.cut 2 Tryz.mixed Tryz.T_ok ?_; refine xZ ?_)
  refine wD <| cutG <| Tri.seq <| Tri.block ?_
  refine Tri.loop (α := { x : Nat × Nat // x.2 = 2 ^ x.1 ∧ x.2 < n }) (fun x => ⟨[some (XV.int .i64 n), none, none, some (XV.int .i64 x.1.2)] ++ List.replicate 7 none, [], 1⟩) (fun x => n - x.1.2) ⟨(0, 1), rfl, by dsimp only; omega⟩ ?_ ?_
  · exact Ent.ren [0] (by decide) rfl (fun i hi => by replace hi := Nat.lt_of_lt_of_eq hi hC; revert i; decide) (Nat.le_trans (Nat.le_of_eq hC) (by decide)) rfl (by repeat' (first | exact trivial | exact rfl | refine ⟨?_, ?_⟩ | fail)) (by repeat' (first | exact trivial | exact ⟨_, rfl, rfl, rfl, Nat.le_refl _, fun _ _ => rfl⟩ | exact ⟨_, rfl, rfl, rfl, fun _ _ => rfl⟩ | exact ⟨_, rfl, rfl, rfl⟩ | exact ⟨_, rfl, rfl⟩ | refine ⟨?_, ?_⟩ | fail))
  rintro ⟨⟨j, p⟩, hp, hn⟩
  dsimp only at hp hn ⊢
  have hp0 : 0 < p := by rw [hp]; exact Nat.two_pow_pos _
  have e1 : IntKind.i64.wrap (2 * (p : Int)) = ((2 * p : Nat) : Int) := xW
  (refine Tri.cut 1 Tryz.mixed Tryz.T_ok ?_; refine xZ ?_)
  simp only [e1]
  refine wC (fun h3 => ?_) (fun h3 => ?_)
  · have h3' : 2 * p < n := xW
    (refine xG ?_)
    refine wD <| cutG <| Tri.block <| Tri.of Tryz.mixed Tryz.T_ok ?_
    (refine xB ?_)
    simp only [e1]
    refine wD <| blockN <| loopN ⟨⟨(j + 1, 2 * p), by dsimp only; rw [hp, Nat.pow_succ]; omega, h3'⟩, by dsimp only; omega, ?_⟩
    exact Ent.ren [0] (by decide) rfl (fun i hi => by replace hi := Nat.lt_of_lt_of_eq hi hC; revert i; decide) (Nat.le_trans (Nat.le_of_eq hC) (by decide)) rfl (by repeat' (first | exact trivial | exact rfl | refine ⟨?_, ?_⟩ | fail)) (by repeat' (first | exact trivial | exact ⟨_, rfl, rfl, rfl, Nat.le_refl _, fun _ _ => rfl⟩ | exact ⟨_, rfl, rfl, rfl, fun _ _ => rfl⟩ | exact ⟨_, rfl, rfl, rfl⟩ | exact ⟨_, rfl, rfl⟩ | refine ⟨?_, ?_⟩ | fail))
  · have h3' : n ≤ 2 * p := xW
    (refine xG ?_)
    refine wD <| cutE <| loopX <| blockX <| cutG <| Tri.of Tryz.mixed Tryz.T_ok ?_
    (refine xB ?_)
    refine wD (Ends.plain (.inr rfl) rfl ?_)
    rw [half_eq (k := j) h1 (by omega) (by omega), hp]
set_option maxHeartbeats 1000000 in
theorem root_can : ∀ (n : Nat), 1 ≤ n → n ≤ 65536 → ∀ h : Nat → H8, Reads Tryz.prog 161 [.row 8 n (hashF h)] [] (hashX (rootN h n))
  | n, h1, h2, h => by
    refine Reads.of Tryz.T_ok Tryz.func161 rfl _ _ _ rfl rfl (fun C hC => ?_)
    (replace hC : C.n0 = 1 := hC; change Tri _ _ _ ⟨_, _, 1⟩ _)
    refine Tri.of Tryz.mixed Tryz.T_ok ?_
    (refine xB ?_)
    (refine wFd ?_ ?_; (first | refine decide_eq_false ?_ | rw [beq_eq_false_iff_ne] | rw [bne_eq_false_iff_eq]); exact xW; refine xG ?_)
    (refine wFd ?_ ?_; (first | refine decide_eq_false ?_ | rw [beq_eq_false_iff_ne] | rw [bne_eq_false_iff_eq]); exact xW; refine xG ?_)
    refine wC (fun h3 => ?_) (fun h3 => ?_)
    · obtain rfl : n = 1 := by
        have : (n : Int) = 1 := by simpa using h3
        omega
      (refine xG ?_)
      (repeat (refine wN ?_ ?_; exact xW; refine xG ?_))
      (refine wP _ _ (cellsNew_op Tryz.T_ok rfl rfl rfl) ?_; refine xZ ?_)
      (apply wP; exact (call_op rfl (entersB_of Tryz.func45 (by kernel_rfl)) rfl ((digest_can 108 [(h 0).l] (short1 _ _ (by simp [H8.l_len]))).at [0, 18] ⟨lend_plain rfl, lend_parts [(h 0).l] rfl rfl rfl ⟨lend_elem (i := 0) rfl rfl rfl (by omega) (fun _ _ => rfl) rfl, trivial⟩, trivial⟩ trivial)); refine xZ ?_)
      exact wD (Ends.plain (.inr rfl) rfl rfl)
    · have h3' : n ≠ 1 := by
        intro e; subst e; simp at h3
      have a1 := half_pos n
      have a2 := half_lt (n := n) (by omega)
      (refine xG ?_)
      (apply wP; exact (call_op rfl (entersB_of Tryz.func195 (by kernel_rfl)) rfl ((cut_can n (by omega) h2).at [] ⟨lend_plain rfl, trivial⟩ trivial)); refine xZ ?_)
      (repeat (refine wN ?_ ?_; exact xW; refine xG ?_))
      (apply wP; exact (call_op rfl (entersB_of Tryz.func161 (by kernel_rfl)) rfl ((root_can (halfN n) a1 (by omega) h).at [0] ⟨lend_ro rfl rfl (by omega) (fun i _ => by rw [Nat.zero_add]), trivial⟩ trivial)); refine xZ ?_)
      (repeat (refine wN ?_ ?_; exact xW; refine xG ?_))
      simp only [Nat.zero_add, Int.toNat_natCast]
      (apply wP; exact (call_op rfl (entersB_of Tryz.func161 (by kernel_rfl)) rfl ((root_can (n - halfN n) (by omega) (by omega) (fun i => h (halfN n + i))).at [0] ⟨lend_ro (lo := halfN n) rfl rfl (by omega) (fun i _ => rfl), trivial⟩ trivial)); refine xZ ?_)
      (apply wP; exact (call_op rfl (entersB_of Tryz.func182 (by kernel_rfl)) rfl ((rtwo_can 109 (rootN h (halfN n)) (rootN (fun i => h (halfN n + i)) (n - halfN n))).at [] ⟨lend_plain rfl, lend_plain rfl, lend_plain rfl, trivial⟩ trivial)); refine xZ ?_)
      refine wD (Ends.plain (.inr rfl) rfl ?_)
      rw [rootN_step (n := n) (by omega) h]
      rfl
  termination_by n => n
def provH (h : Nat → H8) (n i : Nat) : Nat → H8 := fun k => (proveN h n i).getD k zeroH
def provSt (L : Nat) (p : Nat → H8) : St :=
  ⟨[none, none, none, none, some (XV.sv (.slc 2 8 0 L)), some (XV.bool true)] ++ List.replicate 59 none, [(2, .vec 29 8 L (hashF p))], 3⟩
theorem hash_snoc {l : List H8} {x : H8} {L k : Nat} {f : Nat → List Value} (hL : L = l.length) (hf : f 0 = x.cells) (hk : k < L + 1) : joinF (hashF fun k => l.getD k zeroH) L f k = hashF (fun k => (l ++ [x]).getD k zeroH) k := by
  subst hL
  simp only [joinF, nblt]
  by_cases h : k < l.length
  · simp [h, hashF, List.getD_eq_getElem?_getD, List.getElem?_append_left h]
  · obtain rfl : k = l.length := by omega
    simp [hashF, hf]
set_option maxHeartbeats 1000000 in
theorem prove_can : ∀ (n : Nat), n ≤ 65536 → ∀ (h : Nat → H8) (i : Nat), i < n → Makes Tryz.prog 166 [.row 8 n (hashF h), .plain (.one (.raw (.int .i64 i)))] [] (.tup [.one (.slc 0 8 0 (turnsN i n).length), .one (.raw (.bool true))]) (.vec 29 8 (turnsN i n).length (hashF (provH h n i)))
  | n, h2, h, i, hi => by
    refine Makes.of Tryz.T_ok Tryz.func166 rfl _ _ _ _ rfl rfl rfl rfl 2 (fun C hC => ?_)
    (replace hC : C.n0 = 2 := hC; change Tri _ _ _ ⟨_, _, 2⟩ _)
    refine Tri.of Tryz.mixed Tryz.T_ok ?_
    (refine xB ?_)
    (refine wFd ?_ ?_; (first | refine decide_eq_false ?_ | rw [beq_eq_false_iff_ne] | rw [bne_eq_false_iff_eq]); exact xW; refine xG ?_)
    (refine wFd ?_ ?_; (first | refine decide_eq_false ?_ | rw [beq_eq_false_iff_ne] | rw [bne_eq_false_iff_eq]); exact xW; refine xG ?_)
    (refine wFd ?_ ?_; (first | refine decide_eq_false ?_ | rw [beq_eq_false_iff_ne] | rw [bne_eq_false_iff_eq]); exact xW; refine xG ?_)
    refine wC (fun h3 => ?_) (fun h3 => ?_)
    · obtain rfl : n = 1 := by
        have : (n : Int) = 1 := by simpa using h3
        omega
      (refine xG ?_)
      refine wD (Ends.made (S' := provSt 0 (provH h 1 i)) (.inr rfl) ((Ent.nils (t := 4) rfl 29 8).trans ?_) rfl (Nat.le_refl _) (by rw [turnsN_one (Nat.le_refl _)]; rfl))
      ((try dsimp only); refine Ent.renC [0, 1, 22] hC ?_ ?_ <;> repeat' (first | exact trivial | exact rfl | exact ⟨_, rfl, rfl, rfl, Nat.le_refl _, fun _ _ => rfl⟩ | exact ⟨_, rfl, rfl, rfl, fun _ _ => rfl⟩ | exact ⟨_, rfl, rfl, rfl⟩ | exact ⟨_, rfl, rfl⟩ | refine ⟨_, rfl, rfl, rfl, by omega, fun k hk => ?_⟩ | refine ⟨?_, ?_⟩ | fail))
      exact absurd hk (Nat.not_lt_zero _)
    · have h3' : n ≠ 1 := by
        intro e; subst e; simp at h3
      have a1 := half_pos n
      have a2 := half_lt (n := n) (by omega)
      have b1 := turnsN_length n i
      (refine xG ?_)
      (apply wP; exact (call_op rfl (entersB_of Tryz.func195 (by kernel_rfl)) rfl ((cut_can n (by omega) h2).at [] ⟨lend_plain rfl, trivial⟩ trivial)); refine xZ ?_)
      refine wC (fun h4 => ?_) (fun h4 => ?_)
      · have h4' : i < halfN n := xW
        have ht := turnsN_step (i := i) (n := n) (by omega)
        have hp := proveN_step (h := h) (i := i) (n := n) (by omega)
        rw [if_pos h4'] at ht hp
        have ht' : (turnsN i n).length = (turnsN i (halfN n)).length + 1 := by rw [ht]; simp
        (refine xG ?_)
        (repeat (refine wN ?_ ?_; exact xW; refine xG ?_))
        (apply wP; exact (call_op rfl (entersB_of Tryz.func166 (by kernel_rfl)) rfl ((prove_can (halfN n) (by omega) h i h4').at [0] ⟨lend_ro rfl rfl (by omega) (fun i _ => by rw [Nat.zero_add]), lend_plain rfl, trivial⟩ trivial)); refine xZ ?_)
        (repeat (refine wN ?_ ?_; exact xW; refine xG ?_))
        simp only [Nat.zero_add, Int.toNat_natCast]
        (apply wP; exact (call_op rfl (entersB_of Tryz.func161 (by kernel_rfl)) rfl ((root_can (n - halfN n) (by omega) (by omega) (fun i => h (halfN n + i))).at [0] ⟨lend_ro (lo := halfN n) rfl rfl (by omega) (fun i _ => rfl), trivial⟩ trivial)); refine xZ ?_)
        (refine wP _ _ (append_op Tryz.T_ok rfl rfl rfl rfl rfl [31, 42] (old_vec rfl rfl (Nat.le_refl _) rfl) (new_vec (lo := 0) rfl rfl (Nat.le_refl _) rfl) rfl (lt1 rfl) (by simp only [maxLen]; omega) (by dsimp only; omega)) ?_; refine xZ ?_)
        refine wD (Ends.made (S' := provSt (turnsN i n).length (provH h n i)) (.inr rfl) ?_ rfl (Nat.le_refl _) rfl)
        rw [ht']
        ((try dsimp only); refine Ent.renC [0, 1, 43] hC ?_ ?_ <;> repeat' (first | exact trivial | exact rfl | exact ⟨_, rfl, rfl, rfl, Nat.le_refl _, fun _ _ => rfl⟩ | exact ⟨_, rfl, rfl, rfl, fun _ _ => rfl⟩ | exact ⟨_, rfl, rfl, rfl⟩ | exact ⟨_, rfl, rfl⟩ | refine ⟨_, rfl, rfl, rfl, by omega, fun k hk => ?_⟩ | refine ⟨?_, ?_⟩ | fail))
        unfold provH
        rw [hp]
        exact hash_snoc (proveN_length _ _ _).symm rfl hk
      · have h4' : halfN n ≤ i := xW
        have ht := turnsN_step (i := i) (n := n) (by omega)
        have hp := proveN_step (h := h) (i := i) (n := n) (by omega)
        rw [if_neg (by omega)] at ht hp
        have ht' : (turnsN i n).length = (turnsN (i - halfN n) (n - halfN n)).length + 1 := by rw [ht]; simp
        have w1 : IntKind.i64.wrap ((i : Int) - (halfN n : Int)) = ((i - halfN n : Nat) : Int) := xW
        (refine xG ?_)
        (repeat (refine wN ?_ ?_; exact xW; refine xG ?_))
        simp only [w1, Nat.zero_add, Int.toNat_natCast]
        (apply wP; exact (call_op rfl (entersB_of Tryz.func166 (by kernel_rfl)) rfl ((prove_can (n - halfN n) (by omega) (fun i => h (halfN n + i)) (i - halfN n) (by omega)).at [0] ⟨lend_ro (lo := halfN n) rfl rfl (by omega) (fun i _ => rfl), lend_plain rfl, trivial⟩ trivial)); refine xZ ?_)
        (repeat (refine wN ?_ ?_; exact xW; refine xG ?_))
        (apply wP; exact (call_op rfl (entersB_of Tryz.func161 (by kernel_rfl)) rfl ((root_can (halfN n) a1 (by omega) h).at [0] ⟨lend_ro rfl rfl (by omega) (fun i _ => by rw [Nat.zero_add]), trivial⟩ trivial)); refine xZ ?_)
        (refine wP _ _ (append_op Tryz.T_ok rfl rfl rfl rfl rfl [33, 44] (old_vec rfl rfl (Nat.le_refl _) rfl) (new_vec (lo := 0) rfl rfl (Nat.le_refl _) rfl) rfl (lt1 rfl) (by simp only [maxLen]; omega) (by dsimp only; omega)) ?_; refine xZ ?_)
        refine wD (Ends.made (S' := provSt (turnsN i n).length (provH h n i)) (.inr rfl) ?_ rfl (Nat.le_refl _) rfl)
        rw [ht']
        ((try dsimp only); refine Ent.renC [0, 1, 45] hC ?_ ?_ <;> repeat' (first | exact trivial | exact rfl | exact ⟨_, rfl, rfl, rfl, Nat.le_refl _, fun _ _ => rfl⟩ | exact ⟨_, rfl, rfl, rfl, fun _ _ => rfl⟩ | exact ⟨_, rfl, rfl, rfl⟩ | exact ⟨_, rfl, rfl⟩ | refine ⟨_, rfl, rfl, rfl, by omega, fun k hk => ?_⟩ | refine ⟨?_, ?_⟩ | fail))
        unfold provH
        rw [hp]
        exact hash_snoc (proveN_length _ _ _).symm rfl hk
  termination_by n => n
end Go.Proofs.YtnpkdoggfnlapaaGreatDoor
namespace Go.Proofs.YtnpkdoggfnlapaaGreatDoor
set_option maxRecDepth 100000
open Go.Sx
structure SigM where
  idx : Int
  opn : Nat → H8
  shut : Nat → H8
  path : Nat → H8
def SigM.cells (s : SigM) : List Value := .int .i64 s.idx :: (tabF (hashF s.opn) 0 16 ++ tabF (hashF s.shut) 0 16 ++ tabF (hashF s.path) 0 3)
def SigM.x (s : SigM) : CV := .agg (s.cells.map .raw)
theorem allB_congr {mk mk' : Nat → Nat → H8} (h : ∀ i, i < 16 → ∀ b, b < 2 → mk i b = mk' i b) : ∀ n, n ≤ 16 → allB mk n = allB mk' n
  | 0, _ => rfl
  | n + 1, hn => by simp only [allB]; rw [allB_congr h n (by omega), h n (by omega) 0 (by decide), h n (by omega) 1 (by decide)]
theorem pubH_congr {mk mk' : Nat → Nat → H8} (h : ∀ i, i < 16 → ∀ b, b < 2 → mk i b = mk' i b) : pubH mk = pubH mk' := by
  unfold pubH; rw [allB_congr h 16 (Nat.le_refl _)]
def pubS (seed : H8) (k : Nat) : H8 := pubH fun i b => markH (secretH seed (k : Int) (i : Int) (b : Int))
theorem pub_signed (seed : H8) (k : Nat) (m : H8) : pubH (markOf m (openS seed (k : Int) m) (shutS seed (k : Int) m)) = pubS seed k := by
  refine pubH_congr fun i _ b hb => ?_
  unfold markOf openS shutS
  have h2 := bitN_cases m i
  split
  · rename_i e; rw [e]
  · have : b = 1 - bitN m i := by omega
    rw [this]
theorem hash_next {g : Nat → H8} {f : Nat → List Value} {L k : Nat} (hf : f 0 = (g L).cells) (hk : k < L + 1) : joinF (hashF g) L f k = hashF g k := by
  simp only [joinF, nblt]
  by_cases h : k < L
  · simp [h]
  · obtain rfl : k = L := by omega
    simp [hf, hashF]
def pubsSt (seed : H8) (k : Nat) : St :=
  ⟨[none, some (XV.sv (.ptr 1 0 0 0)), none, some (XV.sv (.slc 2 8 0 k)), some (XV.int .i64 k)] ++ List.replicate 21 none,
   [(1, .cells 29 (seed.cells.map .raw)), (2, .vec 29 8 k (hashF (pubS seed)))], 3⟩
set_option maxHeartbeats 2000000 in
theorem publics_can (seed : H8) : Makes Tryz.prog 162 [.plain seed.x] [] (XV.sv (.slc 0 8 0 8)) (.vec 29 8 8 (hashF (pubS seed))) := by
  refine Makes.of Tryz.T_ok Tryz.func162 rfl _ _ _ _ rfl rfl rfl rfl 2 (fun C hC => ?_)
  (replace hC : C.n0 = 1 := hC; change Tri _ _ _ ⟨_, _, 1⟩ _)
  (refine Tri.cut 2 Tryz.mixed Tryz.T_ok ?_; refine xZ ?_)
  refine wD <| cutG <| Tri.ent (Ent.nils (t := 3) rfl 29 8) <| Tri.seq ?_
  (refine Tri.cut 1 Tryz.mixed Tryz.T_ok ?_; refine xZ ?_)
  refine wD <| cutG <| Tri.block ?_
  refine Tri.loop (α := { k : Nat // k ≤ 8 }) (fun k => pubsSt seed k.1) (fun k => 8 - k.1) ⟨0, Nat.zero_le _⟩ ?_ ?_
  · ((try dsimp only); refine Ent.renC [0, 1, 4] hC ?_ ?_ <;> repeat' (first | exact trivial | exact rfl | exact ⟨_, rfl, rfl, rfl, Nat.le_refl _, fun _ _ => rfl⟩ | exact ⟨_, rfl, rfl, rfl, fun _ _ => rfl⟩ | exact ⟨_, rfl, rfl, rfl⟩ | exact ⟨_, rfl, rfl⟩ | refine ⟨_, rfl, rfl, rfl, by omega, fun k hk => ?_⟩ | refine ⟨?_, ?_⟩ | fail))
    exact absurd hk (Nat.not_lt_zero _)
  rintro ⟨k, hk⟩
  dsimp only
  (refine Tri.cut 1 Tryz.mixed Tryz.T_ok ?_; refine xZ ?_)
  refine wC (fun h1 => ?_) (fun h1 => ?_)
  · (refine xG ?_)
    have h1' : k < 8 := xW
    have hw : IntKind.i64.wrap ((k : Int) + 1) = ((k + 1 : Nat) : Int) := xW
    refine wD <| cutG <| Tri.seq <| Tri.block <| Tri.of Tryz.mixed Tryz.T_ok ?_
    (refine xB ?_)
    (apply wP; exact (call_op rfl (entersB_of Tryz.func165 (by kernel_rfl)) rfl ((sign_can seed (k : Int) zeroH).at [] ⟨lend_plain rfl, lend_plain rfl, lend_plain rfl, trivial⟩ trivial)); refine xZ ?_)
    (apply wP; exact (call_op rfl (entersB_of Tryz.func196 (by kernel_rfl)) rfl ((rpublic_can zeroH (openS seed (k : Int) zeroH) (shutS seed (k : Int) zeroH)).at [] ⟨lend_plain rfl, lend_plain rfl, lend_plain rfl, trivial⟩ trivial)); refine xZ ?_)
    (refine wP _ _ (append_op Tryz.T_ok rfl rfl rfl rfl rfl [2, 21] (old_vec rfl rfl (Nat.le_refl _) rfl) (new_vec (lo := 0) rfl rfl (Nat.le_refl _) rfl) rfl (lt1 rfl) (by simp only [maxLen]; omega) (by dsimp only; omega)) ?_; refine xZ ?_)
    refine wD <| blockN <| cutG <| Tri.of Tryz.mixed Tryz.T_ok ?_
    (refine xB ?_)
    refine wD <| loopN ⟨⟨k + 1, h1'⟩, by dsimp only; omega, ?_⟩
    rw [hw]
    ((try dsimp only); refine Ent.renC [0, 1, 22] hC ?_ ?_ <;> repeat' (first | exact trivial | exact rfl | exact ⟨_, rfl, rfl, rfl, Nat.le_refl _, fun _ _ => rfl⟩ | exact ⟨_, rfl, rfl, rfl, fun _ _ => rfl⟩ | exact ⟨_, rfl, rfl, rfl⟩ | exact ⟨_, rfl, rfl⟩ | refine ⟨_, rfl, rfl, rfl, by omega, fun k hk => ?_⟩ | refine ⟨?_, ?_⟩ | fail))
    rename_i j hj
    exact hash_next (g := pubS seed) (L := j) (congrArg H8.cells (pub_signed seed j zeroH)) hk
  · (refine xG ?_)
    have h1' : k = 8 := xW
    subst h1'
    refine wD <| cutE <| loopX <| blockX <| cutG <| Tri.of Tryz.mixed Tryz.T_ok ?_
    (refine xB ?_)
    exact wD (Ends.made (.inr rfl) (Ent.refl _) rfl (Nat.le_succ _) rfl)
def treeH (seed : H8) : H8 := rootN (pubS seed) 8
theorem tree_can (seed : H8) : Reads Tryz.prog 117 [.plain seed.x] [] (hashX (treeH seed)) := by
  refine Reads.of Tryz.T_ok Tryz.func117 rfl _ _ _ rfl rfl (fun C hC => ?_)
  (replace hC : C.n0 = 1 := hC; change Tri _ _ _ ⟨_, _, 1⟩ _)
  refine Tri.of Tryz.mixed Tryz.T_ok ?_
  (refine xB ?_)
  (apply wP; exact (call_op rfl (entersB_of Tryz.func162 (by kernel_rfl)) rfl ((publics_can seed).at [] ⟨lend_plain rfl, trivial⟩ trivial)); refine xZ ?_)
  (apply wP; exact (call_op rfl (entersB_of Tryz.func161 (by kernel_rfl)) rfl ((root_can 8 (by decide) (by decide) (pubS seed)).at [4] ⟨lend_vec (lo := 0) rfl rfl (by decide) (fun i _ => by rw [Nat.zero_add]), trivial⟩ trivial)); refine xZ ?_)
  exact wD (Ends.plain (.inr rfl) rfl rfl)
def signM (seed : H8) (i : Nat) (m : H8) : SigM := ⟨(i : Int), openS seed (i : Int) m, shutS seed (i : Int) m, provH (pubS seed) 8 i⟩
theorem turns8 {i : Nat} (hi : i < 8) : (turnsN i 8).length = 3 := by
  have h : ∀ i, i < 8 → (turnsN i 8).length = 3 := by decide
  exact h i hi
set_option maxHeartbeats 4000000 in
theorem signTree_can (seed : H8) (i : Nat) (m : H8) (hi : i < 8) : Reads Tryz.prog 123 [.plain seed.x, .plain (.one (.raw (.int .i64 i))), .plain m.x] [] (.tup [(signM seed i m).x, .one (.raw (.bool true))]) := by
  refine Reads.of Tryz.T_ok Tryz.func123 rfl _ _ _ rfl (by simp only [XV.ok, List.all_cons, List.all_nil, Bool.and_true, Bool.and_eq_true]; exact ⟨raws_ok _ _, rfl⟩) (fun C hC => ?_)
  (replace hC : C.n0 = 3 := hC; change Tri _ _ _ ⟨_, _, 3⟩ _)
  have h3 := turns8 hi
  refine Tri.of Tryz.mixed Tryz.T_ok ?_
  (refine xB ?_)
  (refine wFd ?_ ?_; (first | refine decide_eq_false ?_ | rw [beq_eq_false_iff_ne] | rw [bne_eq_false_iff_eq]); exact xW; refine xG ?_)
  (refine wFd ?_ ?_; (first | refine decide_eq_false ?_ | rw [beq_eq_false_iff_ne] | rw [bne_eq_false_iff_eq]); exact xW; refine xG ?_)
  (apply wP; exact (call_op rfl (entersB_of Tryz.func165 (by kernel_rfl)) rfl ((sign_can seed (i : Int) m).at [] ⟨lend_plain rfl, lend_plain rfl, lend_plain rfl, trivial⟩ trivial)); refine xZ ?_)
  (apply wP; exact (call_op rfl (entersB_of Tryz.func162 (by kernel_rfl)) rfl ((publics_can seed).at [] ⟨lend_plain rfl, trivial⟩ trivial)); refine xZ ?_)
  (apply wP; exact (call_op rfl (entersB_of Tryz.func166 (by kernel_rfl)) rfl ((prove_can 8 (by decide) (pubS seed) i hi).at [29] ⟨lend_vec (lo := 0) rfl rfl (by decide) (fun i _ => by rw [Nat.zero_add]), lend_plain rfl, trivial⟩ trivial)); refine xZ ?_)
  rw [h3]
  (refine wP _ _ (copy_op Tryz.T_ok (k := 3) (m := 3) (g := hashF (provH (pubS seed) 8 i)) [15, 31] rfl rfl rfl rfl rfl (by decide) rfl rfl (new_vec (lo := 0) rfl rfl (Nat.le_refl _) rfl) rfl (by decide) (Nat.le_of_ble_eq_true rfl) (fun _ _ => rfl) rfl) ?_; refine xZ ?_)
  exact wD (Ends.plain (.inr rfl) rfl rfl)
def chkT (root m : H8) (s : SigM) : Bool := decide (0 ≤ s.idx) && (decide (s.idx < 8) && leads root (pubH (markOf m s.opn s.shut)) s.idx.toNat 8 s.path 3)
theorem sign_believed (seed : H8) (i : Nat) (hi : i < 8) (m : H8) : chkT (treeH seed) m (signM seed i m) = true := by
  unfold chkT signM
  have h1 : (0 : Int) ≤ (i : Int) := Int.natCast_nonneg _
  have h2 : (i : Int) < 8 := by omega
  simp only [h1, h2, decide_true, Bool.true_and, Int.toNat_natCast]
  refine leads_true (pubS seed) hi (pub_signed seed i m) rfl ?_ (fun k _ => rfl)
  rw [proveN_length, turns8 hi]
set_option maxHeartbeats 2000000 in
theorem kcheck_can (root m : H8) (s : SigM) : Reads Tryz.prog 197 [.plain root.x, .plain m.x, .plain s.x] [stepsP] (XV.bool (chkT root m s)) := by
  refine Reads.of Tryz.T_ok Tryz.func197 rfl _ _ _ (by simp only [canX, AD.plain, List.all_cons, List.all_nil, Bool.and_true, Bool.and_eq_true]; exact ⟨rfl, rfl, raws_ok _ _⟩) rfl (fun C hC => ?_)
  (replace hC : C.n0 = 4 := hC; change Tri _ _ _ ⟨_, _, 4⟩ _)
  refine Tri.of Tryz.mixed Tryz.T_ok ?_
  (refine xB ?_)
  refine wC (fun h1 => ?_) (fun h1 => ?_)
  · have h1' : 0 ≤ s.idx := of_decide_eq_true h1
    (refine xG ?_)
    refine wC (fun h2 => ?_) (fun h2 => ?_)
    · have h2' : s.idx < 8 := of_decide_eq_true h2
      have hn : ((s.idx.toNat : Nat) : Int) = s.idx := by omega
      (refine xG ?_)
      (apply wP; exact (call_op rfl (entersB_of Tryz.func218 (by kernel_rfl)) rfl ((lpublic_can m s.opn s.shut).at [3] ⟨lend_plain rfl, lend_plain rfl, lend_plain rfl, trivial⟩ ⟨lend_ext (c := 3) rfl rfl, trivial⟩)); refine xZ ?_)
      (apply wP; exact (call_op rfl (entersB_of Tryz.func217 (by kernel_rfl)) rfl ((mcheck_can root (pubH (markOf m s.opn s.shut)) s.idx.toNat 8 3 s.path (by omega) (by decide) (by decide)).at [3, 6] ⟨lend_plain rfl, lend_plain rfl, by rw [hn]; exact lend_plain rfl, lend_plain rfl, lend_sla rfl rfl (fun _ _ => rfl) rfl, trivial⟩ ⟨lend_ext (c := 3) rfl rfl, trivial⟩)); refine xZ ?_)
      refine wD (Ends.plain (.inr rfl) rfl ?_)
      rw [chkT, h1, h2, Bool.true_and, Bool.true_and]
    · (refine xG ?_)
      refine wD (Ends.plain (.inr rfl) rfl ?_)
      rw [chkT, h2, Bool.false_and, Bool.and_false]
  · (refine xG ?_)
    refine wD (Ends.plain (.inr rfl) rfl ?_)
    rw [chkT, h1, Bool.false_and]
end Go.Proofs.YtnpkdoggfnlapaaGreatDoor
namespace Go.Proofs.YtnpkdoggfnlapaaGreatDoor
set_option maxRecDepth 100000
open Go.Sx
theorem lend_ro0 {M : Mem} {rd : List Nat} {c sz n : Nat} {f : Nat → List Value} (hm : M.get c = some (.ro sz n f)) (hrd : nmem c rd = true) : Lends M rd (.one (.slc c sz 0 n)) (.row sz n f) :=
  lend_ro hm hrd (Nat.le_of_eq (Nat.zero_add _)) fun i _ => by rw [Nat.zero_add]
theorem lend_vec0 {M : Mem} {rd : List Nat} {c e sz n : Nat} {f : Nat → List Value} (hm : M.get c = some (.vec e sz n f)) (hrd : nmem c rd = true) : Lends M rd (.one (.slc c sz 0 n)) (.row sz n f) :=
  lend_vec hm hrd (Nat.le_of_eq (Nat.zero_add _)) fun i _ => by rw [Nat.zero_add]
structure OutM where
  to : H8
  amt : Int64
  deriving DecidableEq, Inhabited
def OutM.cells (o : OutM) : List Value := o.to.cells ++ [i64 o.amt]
structure FwdM where
  side : Int64
  acct : Int64
  owner : H8
  amt : Int64
  deriving DecidableEq, Inhabited
def FwdM.cells (f : FwdM) : List Value := i64 f.side :: i64 f.acct :: (f.owner.cells ++ [i64 f.amt])
def sig0 : SigM := ⟨0, fun _ => zeroH, fun _ => zeroH, fun _ => zeroH⟩
structure InM where
  pt : Pt
  key : H8
  sig : SigM
def InM.cells (x : InM) : List Value := x.pt.cells ++ (x.key.cells ++ x.sig.cells)
instance : Inhabited InM := ⟨⟨default, zeroH, sig0⟩⟩
structure SgdM where
  key : Int
  sig : SigM
def SgdM.cells (x : SgdM) : List Value := .int .i64 x.key :: x.sig.cells
instance : Inhabited SgdM := ⟨⟨0, sig0⟩⟩
structure ParM where
  len : Int
  win : Int
  need : Int
  keys : List H8
structure CertM where
  side : Int
  ep : Int
  qual : Int
  fin : H8
  root : H8
  outs : List OutM
  sigs : List SgdM
structure AccM where
  owner : H8
  amt : Int
  nonce : Int
def AccM.cells (a : AccM) : List Value := a.owner.cells ++ [.int .i64 a.amt, .int .i64 a.nonce]
structure ClaimM where
  side : Int
  acct : Int
  st : AccM
  proof : Nat → H8
def ClaimM.cells (c : ClaimM) : List Value := .int .i64 c.side :: .int .i64 c.acct :: (c.st.cells ++ tabF (hashF c.proof) 0 16)
structure TxM where
  kind : Int
  height : Int
  ins : List InM
  outs : List OutM
  fwds : List FwdM
  par : ParM
  cert : CertM
  claim : ClaimM
def par0 : ParM := ⟨0, 0, 0, []⟩
def cert0 : CertM := ⟨0, 0, 0, zeroH, zeroH, [], []⟩
def claim0 : ClaimM := ⟨0, 0, ⟨zeroH, 0, 0⟩, fun _ => zeroH⟩
def rowOf {E : Type} [Inhabited E] (cells : E → List Value) (l : List E) : Nat → List Value := fun i => cells (l.getD i default)
def insF (l : List InM) := rowOf InM.cells l
def outsF (l : List OutM) := rowOf OutM.cells l
def fwdsF (l : List FwdM) := rowOf FwdM.cells l
def sgdsF (l : List SgdM) := rowOf SgdM.cells l
def keysF (l : List H8) := rowOf H8.cells l
def iC (n : Int) : AC := .raw (.int .i64 n)
def rC (l : List Value) : List AC := l.map .raw
def ParM.ac (p : ParM) : List AC := [iC p.len, iC p.win, iC p.need, .row 8 p.keys.length (keysF p.keys)]
def CertM.ac (c : CertM) : List AC := iC c.side :: iC c.ep :: iC c.qual :: (rC c.fin.cells ++ (rC c.root.cells ++ [.row 9 c.outs.length (outsF c.outs), .row 282 c.sigs.length (sgdsF c.sigs)]))
def TxM.ac (t : TxM) : List AC := iC t.kind :: iC t.height :: .row 298 t.ins.length (insF t.ins) :: .row 9 t.outs.length (outsF t.outs) :: .row 11 t.fwds.length (fwdsF t.fwds) :: (t.par.ac ++ (t.cert.ac ++ rC t.claim.cells))
def withinB (n a b : Int) : Bool := decide (a ≤ n) && decide (n ≤ b)
theorem within_can (n a b : Int) : Reads Tryz.prog 134 [.plain (.one (.raw (.int .i64 n))), .plain (.one (.raw (.int .i64 a))), .plain (.one (.raw (.int .i64 b)))] [] (XV.bool (withinB n a b)) := by
  refine Reads.of Tryz.T_ok Tryz.func134 rfl _ _ _ rfl rfl (fun C hC => ?_)
  (replace hC : C.n0 = 3 := hC; change Tri _ _ _ ⟨_, _, 3⟩ _)
  refine Tri.of Tryz.mixed Tryz.T_ok ?_
  (refine xB ?_)
  refine wC (fun h1 => ?_) (fun h1 => ?_)
  · (refine xG ?_)
    exact wD (Ends.plain (.inr rfl) rfl (by rw [withinB, h1]; rfl))
  · (refine xG ?_)
    exact wD (Ends.plain (.inr rfl) rfl (by rw [withinB, h1]; rfl))
def moneyB (n : Int) : Bool := withinB n 1 1125899906842624
theorem moneyOK_can (n : Int) : Reads Tryz.prog 176 [.plain (.one (.raw (.int .i64 n)))] [] (XV.bool (moneyB n)) := by
  refine Reads.of Tryz.T_ok Tryz.func176 rfl _ _ _ rfl rfl (fun C hC => ?_)
  (replace hC : C.n0 = 1 := hC; change Tri _ _ _ ⟨_, _, 1⟩ _)
  refine Tri.of Tryz.mixed Tryz.T_ok ?_
  (refine xB ?_)
  (apply wP; exact (call_op rfl (entersB_of Tryz.func134 (by kernel_rfl)) rfl ((within_can n 1 1125899906842624).at [] ⟨lend_plain rfl, lend_plain rfl, lend_plain rfl, trivial⟩ trivial)); refine xZ ?_)
  exact wD (Ends.plain (.inr rfl) rfl rfl)
def acctB (s n : Int) : Bool := withinB s 0 7 && withinB n 0 65535
def zeroB (h : H8) : Bool := decide (h = zeroH)
theorem zero_can (h : H8) : Reads Tryz.prog 145 [.plain h.x] [] (XV.bool (zeroB h)) := by
  refine Reads.of Tryz.T_ok Tryz.func145 rfl _ _ _ rfl rfl (fun C hC => ?_)
  (replace hC : C.n0 = 1 := hC; change Tri _ _ _ ⟨_, _, 1⟩ _)
  refine Tri.of Tryz.mixed Tryz.T_ok ?_
  (refine xB ?_)
  (refine wP _ _ (eq_op hashE rfl h zeroH rfl rfl) ?_; refine xZ ?_)
  exact wD (Ends.plain (.inr rfl) rfl rfl)
theorem rzero_can (h : H8) : Reads Tryz.prog 147 [.plain h.x] [] (XV.bool (zeroB h)) := by
  refine Reads.of Tryz.T_ok Tryz.func147 rfl _ _ _ rfl rfl (fun C hC => ?_)
  (replace hC : C.n0 = 1 := hC; change Tri _ _ _ ⟨_, _, 1⟩ _)
  refine Tri.of Tryz.mixed Tryz.T_ok ?_
  (refine xB ?_)
  (refine wP _ _ (eq_op hashE rfl h zeroH rfl rfl) ?_; refine xZ ?_)
  exact wD (Ends.plain (.inr rfl) rfl rfl)
end Go.Proofs.YtnpkdoggfnlapaaGreatDoor
namespace Go.Proofs.YtnpkdoggfnlapaaGreatDoor
set_option maxRecDepth 100000
open Go.Sx
theorem all_take_succ {E : Type} [Inhabited E] {p : E → Bool} {l : List E} {i : Nat} (hi : i < l.length) : (l.take (i + 1)).all p = ((l.take i).all p && p (l.getD i default)) := by
  rw [List.take_add_one, List.all_append]
  have : l[i]?.toList = [l.getD i default] := by rw [List.getElem?_eq_getElem hi, List.getD_eq_getElem?_getD, List.getElem?_eq_getElem hi]; rfl
  rw [this]; simp
theorem all_false {E : Type} [Inhabited E] {p : E → Bool} {l : List E} {i : Nat} (hi : i < l.length) (h : p (l.getD i default) = false) : l.all p = false := by
  rw [List.all_eq_false]
  refine ⟨l.getD i default, ?_, by rw [h]; simp⟩
  rw [List.getD_eq_getElem?_getD, List.getElem?_eq_getElem hi]
  exact List.getElem_mem hi
def outOK (o : OutM) : Bool := !zeroB o.to && moneyB o.amt.toInt
def outsOK (l : List OutM) : Bool := l.all outOK && decide (l.length ≤ 16)
theorem outsOK_can (l : List OutM) (hl : l.length ≤ 1000000000) : Reads Tryz.prog 135 [.row 9 l.length (outsF l)] [] (XV.bool (outsOK l)) := by
  refine Reads.of Tryz.T_ok Tryz.func135 rfl _ _ _ rfl rfl (fun C hC => ?_)
  (replace hC : C.n0 = 1 := hC; change Tri _ _ _ ⟨_, _, 1⟩ _)
  (refine Tri.cut 1 Tryz.mixed Tryz.T_ok ?_; refine xZ ?_)
  refine wD <| cutG <| Tri.seq ?_
  (refine Tri.cut 1 Tryz.mixed Tryz.T_ok ?_; refine xZ ?_)
  refine wD <| cutG <| Tri.block ?_
  refine Tri.loop (α := { i : Nat // i ≤ l.length ∧ (l.take i).all outOK = true }) (fun i => ⟨[some (XV.sv (.slc 0 9 0 l.length)), none, none, none, none, some (XV.sv (.slc 0 9 0 l.length)), some (XV.int .i64 l.length), some (XV.int .i64 i.1)] ++ List.replicate 16 none, [(0, .ro 9 l.length (outsF l))], 1⟩) (fun i => l.length - i.1) ⟨0, Nat.zero_le _, rfl⟩ ?_ ?_
  · ((try dsimp only); refine Ent.renC [0] hC ?_ ?_ <;> repeat' (first | exact trivial | exact rfl | exact ⟨_, rfl, rfl, rfl, Nat.le_refl _, fun _ _ => rfl⟩ | exact ⟨_, rfl, rfl, rfl, fun _ _ => rfl⟩ | exact ⟨_, rfl, rfl, rfl⟩ | exact ⟨_, rfl, rfl⟩ | refine ⟨_, rfl, rfl, rfl, by omega, fun k hk => ?_⟩ | refine ⟨?_, ?_⟩ | fail))
  rintro ⟨i, hi, ha⟩
  dsimp only
  (refine Tri.cut 2 Tryz.mixed Tryz.T_ok ?_; refine xZ ?_)
  refine wC (fun h1 => ?_) (fun h1 => ?_)
  · (refine xG ?_)
    have h1' : i < l.length := xW
    have hs := all_take_succ (p := outOK) h1'
    have hw : IntKind.i64.wrap ((i : Int) + 1) = ((i + 1 : Nat) : Int) := xW
    refine wD <| cutG <| Tri.seq <| Tri.block <| Tri.of Tryz.mixed Tryz.T_ok ?_
    (refine xB ?_)
    (repeat (refine wN ?_ ?_; exact xW; refine xG ?_))
    simp only [Nat.zero_add, Int.toNat_natCast]
    (apply wP; exact (call_op rfl (entersB_of Tryz.func145 (by kernel_rfl)) rfl ((zero_can (l.getD i default).to).at [] ⟨lend_plain rfl, trivial⟩ trivial)); refine xZ ?_)
    refine wC (fun h2 => ?_) (fun h2 => ?_)
    · (refine xG ?_)
      refine wD <| blockR <| cutR <| loopR <| blockR <| cutR <| Ends.plain (.inr rfl) rfl ?_
      rw [outsOK, all_false h1' (by rw [outOK, h2]; rfl), Bool.false_and]
    · (refine xG ?_)
      (apply wP; exact (call_op rfl (entersB_of Tryz.func176 (by kernel_rfl)) rfl ((moneyOK_can (l.getD i default).amt.toInt).at [] ⟨lend_plain rfl, trivial⟩ trivial)); refine xZ ?_)
      refine wC (fun h3 => ?_) (fun h3 => ?_)
      · (refine xG ?_)
        refine wD <| blockR <| cutR <| loopR <| blockR <| cutR <| Ends.plain (.inr rfl) rfl ?_
        rw [outsOK, all_false h1' (by rw [outOK, h2, show moneyB (l.getD i default).amt.toInt = false by simpa using h3]; rfl), Bool.false_and]
      · (refine xG ?_)
        refine wD <| blockN <| cutG <| Tri.of Tryz.mixed Tryz.T_ok ?_
        (refine xB ?_)
        refine wD <| loopN ⟨⟨i + 1, h1', by rw [hs, ha, outOK, h2, show moneyB (l.getD i default).amt.toInt = true by simpa using h3]; rfl⟩, by dsimp only; omega, ?_⟩
        rw [hw]
        ((try dsimp only); refine Ent.renC [0] hC ?_ ?_ <;> repeat' (first | exact trivial | exact rfl | exact ⟨_, rfl, rfl, rfl, Nat.le_refl _, fun _ _ => rfl⟩ | exact ⟨_, rfl, rfl, rfl, fun _ _ => rfl⟩ | exact ⟨_, rfl, rfl, rfl⟩ | exact ⟨_, rfl, rfl⟩ | refine ⟨_, rfl, rfl, rfl, by omega, fun k hk => ?_⟩ | refine ⟨?_, ?_⟩ | fail))
  · (refine xG ?_)
    have h1' : i = l.length := xW
    subst h1'
    rw [List.take_length] at ha
    refine wD <| cutE <| loopX <| blockX <| cutG <| Tri.of Tryz.mixed Tryz.T_ok ?_
    (refine xB ?_)
    refine wD (Ends.plain (.inr rfl) rfl ?_)
    have e : decide ((l.length : Int) ≤ 16) = decide (l.length ≤ 16) := by rw [Bool.eq_iff_iff]; simp; omega
    rw [outsOK, ha, e, Bool.true_and]
def AD.cell (sz : Nat) (cells : List Value) : AD := ⟨1, fun i => .one (.ptr i 0 sz 0), fun i => [(i, .ro sz 1 fun _ => cells)], fun h => one_low rfl h⟩
def InM.x (x : InM) : CV := .agg (x.cells.map .raw)
end Go.Proofs.YtnpkdoggfnlapaaGreatDoor

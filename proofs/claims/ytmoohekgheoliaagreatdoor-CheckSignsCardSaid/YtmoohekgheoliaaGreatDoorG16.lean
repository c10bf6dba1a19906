/- Parts Hm Hn. -/
import Derived.Test.YtmoohekgheoliaaGreatDoorG15
set_option linter.unusedSimpArgs false
set_option linter.unusedVariables false
namespace Go.Proofs.YtmoohekgheoliaaGreatDoor
set_option maxRecDepth 100000
open Go.Sx
theorem strIndex_op {P : Program} {T : TyTab} {S : St} {d : Nat} {o : Oper} (hT : TabOK P T) {t : TypeId} {x i : Operand} {td : TyD} {s : ByteArray} {k : IntKind} {n : Int} (b : UInt8) (ho : o.op = .index t x i) (ht : T t = some td) (hd : td.desc = .str)
    (hx : S.ev x = some (XV.val (.string s))) (hi : S.ev i = some (XV.int k n)) (h0 : 0 ≤ n) (hb : s[n.toNat]? = some b) : OpSound P S d o { v := XV.int .u8 (b.toNat : Int) } [] := by
  refine pure_op fun β w a hops => ?_
  have e2 := hops x (by rw [ho]; simp [Op.operands]) _ hx
  have e3 := hops i (by rw [ho]; simp [Op.operands]) _ hi
  simp only [XV.rel, CV.rel, SV.rel] at e2 e3
  have hu := under_str hT ht hd
  exact ⟨.int .u8 (b.toNat : Int), by simp [execOp, ho, e2, e3, Instr.index, asIntOf, run_underlying hu, h0, hb], rfl⟩
def len8 (y : Nat) : UInt8 := if y = 0 then 0 else UInt8.ofNat (Nat.log2 y + 1)
theorem strTab {s : ByteArray} {g : Nat → UInt8} {m : Nat} (h : ((List.range m).all fun y => s[y]? == some (g y)) = true) {y : Nat} (hy : y < m) : s[y]? = some (g y) := by
  have := List.all_eq_true.1 h y (List.mem_range.2 hy)
  exact eq_of_beq this
theorem log2_256 {x : Nat} (h : 256 ≤ x) : Nat.log2 x = 8 + Nat.log2 (x / 256) := by
  have h1 := Nat.log2_self_le (n := x / 256) (by omega)
  have h2 := Nat.lt_log2_self (n := x / 256)
  refine (Nat.log2_eq_iff (by omega)).2 ⟨?_, ?_⟩
  · rw [Nat.pow_add]
    have := Nat.mul_le_mul_left (2 ^ 8) h1
    omega
  · rw [show 8 + (x / 256).log2 + 1 = 8 + ((x / 256).log2 + 1) by omega, Nat.pow_add]
    have := Nat.mul_le_mul_left (2 ^ 8) (Nat.succ_le_of_lt h2)
    omega
theorem len8_toNat {y : Nat} (h0 : y ≠ 0) (h : y < 256) : (len8 y).toNat = Nat.log2 y + 1 := by
  have h1 : Nat.log2 y < 8 := (Nat.log2_lt h0).2 h
  unfold len8
  rw [if_neg h0, UInt8.toNat_ofNat']
  omega
set_option maxHeartbeats 1000000 in
theorem len64_can (x : Nat) (h1 : 1 ≤ x) (h2 : x < 65536) : Reads Tryz.prog 162 [.plain (.one (.raw (.int .u64 x)))] [] (XV.int .i64 ((Nat.log2 x + 1 : Nat) : Int)) := by
  have hl : Nat.log2 x < 16 := (Nat.log2_lt (by omega)).2 h2
  refine Reads.of Tryz.T_ok Tryz.func162 rfl _ _ _ rfl rfl (fun C hC => ?_)
  (replace hC : C.n0 = 1 := hC; change Tri _ _ _ ⟨_, _, 1⟩ _)
  refine Tri.of Tryz.mixed Tryz.T_ok ?_
  (refine wBegin ?_; ((conv => arg 5; whnf); repeat (refine xS ?_; conv => arg 5; whnf)))
  refine wC (fun h => ?_) (fun _ => ?_)
  · have : False := (by (try simp only [ww] at *); omega)
    exact this.elim
  (refine wGo ?_; ((conv => arg 5; whnf); repeat (refine xS ?_; conv => arg 5; whnf)))
  refine wC (fun h => ?_) (fun _ => ?_)
  · have : False := (by (try simp only [ww] at *); omega)
    exact this.elim
  (refine wGo ?_; ((conv => arg 5; whnf); repeat (refine xS ?_; conv => arg 5; whnf)))
  refine wC (fun h => ?_) (fun h => ?_)
  · have hx : 256 ≤ x := (by (try simp only [ww] at *); omega)
    have e : IntKind.u8.wrap (shrI .u64 (x : Int) 8) = ((x / 256 : Nat) : Int) := by
      rw [show (8 : Int) = ((8 : Nat) : Int) from rfl, shr_nat _ _ _ (by decide), IntKind.wrap_u8]
      omega
    (refine wGo ?_; ((conv => arg 5; whnf); repeat (refine xS ?_; conv => arg 5; whnf)))
    simp only [e]
    (refine wP _ _ (strIndex_op Tryz.T_ok (len8 (x / 256)) rfl rfl rfl rfl rfl (Int.natCast_nonneg _) (strTab (m := 256) (by kernel_rfl) (y := x / 256) (by omega))) ?_; ((conv => arg 5; whnf); repeat (refine xS ?_; conv => arg 5; whnf)))
    refine wD (Ends.plain (.inr rfl) rfl ?_)
    rw [len8_toNat (by omega) (by omega), log2_256 hx]
    exact congrArg (fun n : Int => XV.int .i64 n) (by simp only [IntKind.wrap_i64]; have := log2_256 hx; omega)
  · have hx : x < 256 := (by (try simp only [ww] at *); omega)
    have e : IntKind.u8.wrap (x : Int) = ((x : Nat) : Int) := by rw [IntKind.wrap_u8]; omega
    (refine wGo ?_; ((conv => arg 5; whnf); repeat (refine xS ?_; conv => arg 5; whnf)))
    simp only [e]
    (refine wP _ _ (strIndex_op Tryz.T_ok (len8 x) rfl rfl rfl rfl rfl (Int.natCast_nonneg _) (strTab (m := 256) (by kernel_rfl) (y := x) (by omega))) ?_; ((conv => arg 5; whnf); repeat (refine xS ?_; conv => arg 5; whnf)))
    refine wD (Ends.plain (.inr rfl) rfl ?_)
    rw [len8_toNat (by omega) (by omega)]
    exact congrArg (fun n : Int => XV.int .i64 n) (by simp only [IntKind.wrap_i64]; omega)
theorem len_can (x : Nat) (h1 : 1 ≤ x) (h2 : x < 65536) : Reads Tryz.prog 140 [.plain (.one (.raw (.int .u64 x)))] [] (XV.int .i64 ((Nat.log2 x + 1 : Nat) : Int)) := by
  have e : IntKind.u64.wrap (x : Int) = x := by rw [IntKind.wrap_u64]; omega
  refine Reads.of Tryz.T_ok Tryz.func140 rfl _ _ _ rfl rfl (fun C hC => ?_)
  (replace hC : C.n0 = 1 := hC; change Tri _ _ _ ⟨_, _, 1⟩ _)
  refine Tri.of Tryz.mixed Tryz.T_ok ?_
  (refine wBegin ?_; ((conv => arg 5; whnf); repeat (refine xS ?_; conv => arg 5; whnf)))
  (apply wP; exact (call_op rfl (entersB_of Tryz.func162 (by kernel_rfl)) rfl ((len64_can x h1 h2).at [] ⟨lend_plain rfl, trivial⟩ trivial)); ((conv => arg 5; whnf); repeat (refine xS ?_; conv => arg 5; whnf)))
  exact wD (Ends.plain (.inr rfl) rfl rfl)
theorem half_can (n : Nat) (h1 : 2 ≤ n) (h2 : n ≤ 65536) : Reads Tryz.prog 151 [.plain (.one (.raw (.int .i64 n)))] [] (XV.int .i64 (halfN n)) := by
  have e1 : IntKind.u64.wrap (IntKind.i64.wrap ((n : Int) - 1)) = ((n - 1 : Nat) : Int) := by simp only [IntKind.wrap_u64, IntKind.wrap_i64]; omega
  have hl : Nat.log2 (n - 1) < 16 := (Nat.log2_lt (by omega)).2 (by omega)
  have e2 : IntKind.i64.wrap (((Nat.log2 (n - 1) + 1 : Nat) : Int) - 1) = ((Nat.log2 (n - 1) : Nat) : Int) := by simp only [IntKind.wrap_i64]; omega
  refine Reads.of Tryz.T_ok Tryz.func151 rfl _ _ _ rfl rfl (fun C hC => ?_)
  (replace hC : C.n0 = 1 := hC; change Tri _ _ _ ⟨_, _, 1⟩ _)
  refine Tri.of Tryz.mixed Tryz.T_ok ?_
  (refine wBegin ?_; ((conv => arg 5; whnf); repeat (refine xS ?_; conv => arg 5; whnf)))
  simp only [e1]
  (apply wP; exact (call_op rfl (entersB_of Tryz.func140 (by kernel_rfl)) rfl ((len_can (n - 1) (by omega) (by omega)).at [] ⟨lend_plain rfl, trivial⟩ trivial)); ((conv => arg 5; whnf); repeat (refine xS ?_; conv => arg 5; whnf)))
  simp only [e2]
  (repeat (refine wN ?_ ?_; exact (by (try simp only [ww] at *); omega); refine wGo ?_; ((conv => arg 5; whnf); repeat (refine xS ?_; conv => arg 5; whnf))))
  refine wD (Ends.plain (.inr rfl) rfl ?_)
  refine congrArg (fun n : Int => XV.int .i64 n) ?_
  have e3 : min (((Nat.log2 (n - 1) : Nat) : Int).toNat) IntKind.i64.bits = Nat.log2 (n - 1) := by
    rw [Int.toNat_natCast]
    exact Nat.min_eq_left (Nat.le_trans (Nat.le_of_lt hl) (by decide))
  have hp : 2 ^ Nat.log2 (n - 1) < 2 ^ 16 := Nat.pow_lt_pow_right (by decide) hl
  rw [shlI, e3, Int.one_mul, show ((2 : Int) ^ Nat.log2 (n - 1)) = ((2 ^ Nat.log2 (n - 1) : Nat) : Int) by rw [Int.natCast_pow]; rfl, IntKind.wrap_i64]
  unfold halfN
  obtain ⟨p, hp'⟩ : ∃ p, 2 ^ Nat.log2 (n - 1) = p := ⟨_, rfl⟩
  rw [hp'] at hp ⊢
  omega
def boolsF (l : List Bool) : Nat → List Value := fun i => [.bool (l.getD i false)]
theorem boolsF_cons {b : Bool} {l : List Bool} {f g : Nat → List Value} {k : Nat} (hf : f 0 = [.bool b]) (hg : ∀ i, i < l.length → g i = boolsF l i) (hk : k < l.length + 1) : joinF f 1 g k = boolsF (b :: l) k := by
  cases k with
  | zero =>
    have : Nat.blt 0 1 = true := rfl
    simp [joinF, hf, boolsF, this]
  | succ k =>
    have : Nat.blt (k + 1) 1 = false := by rw [nblt]; simp
    rw [joinF, this, cond_false, Nat.add_sub_cancel]
    rw [hg k (by omega)]
    simp [boolsF]
def turnSt (i n : Nat) (l : List Bool) : St :=
  ⟨[some (XV.int .i64 i), some (XV.int .i64 n), none, none, none, some (XV.sv (.slc 2 1 0 l.length))] ++ List.replicate 22 none, [(2, .vec 4 1 l.length (boolsF l))], 3⟩
set_option maxHeartbeats 1000000 in
theorem turns_can (i0 n0 : Nat) (h1 : i0 < n0) (h2 : n0 ≤ 65536) : Makes Tryz.prog 132 [.plain (.one (.raw (.int .i64 i0))), .plain (.one (.raw (.int .i64 n0)))] [] (XV.sv (.slc 0 1 0 (turnsN i0 n0).length)) (.vec 4 1 (turnsN i0 n0).length (boolsF (turnsN i0 n0))) := by
  refine Makes.of Tryz.T_ok Tryz.func132 rfl _ _ _ _ rfl rfl rfl rfl 2 (fun C hC => ?_)
  (replace hC : C.n0 = 2 := hC; change Tri _ _ _ ⟨_, _, 2⟩ _)
  (refine Tri.cut 2 Tryz.mixed Tryz.T_ok ?_; ((conv => arg 5; whnf); repeat (refine xS ?_; conv => arg 5; whnf)))
  refine wD <| cutG <| Tri.ent (Ent.nils (t := 5) rfl 4 1) <| Tri.seq <| Tri.block ?_
  refine Tri.loop (α := { x : Nat × Nat × List Bool // x.1 < x.2.1 ∧ x.2.1 ≤ 65536 ∧ x.2.2.length + x.2.1 ≤ 65536 ∧ turnsN x.1 x.2.1 ++ x.2.2 = turnsN i0 n0 }) (fun x => turnSt x.1.1 x.1.2.1 x.1.2.2) (fun x => x.1.2.1) ⟨(i0, n0, []), h1, h2, by simpa using h2, List.append_nil _⟩ ?_ ?_
  · ((try dsimp only); refine Ent.renC [0, 1, 4] hC ?_ ?_ <;> repeat' (first | exact trivial | exact rfl | exact ⟨_, rfl, rfl, rfl, Nat.le_refl _, fun _ _ => rfl⟩ | exact ⟨_, rfl, rfl, rfl, fun _ _ => rfl⟩ | exact ⟨_, rfl, rfl, rfl⟩ | exact ⟨_, rfl, rfl⟩ | refine ⟨_, rfl, rfl, rfl, by omega, fun k hk => ?_⟩ | refine ⟨?_, ?_⟩ | fail))
    · exact Nat.le_refl _
    · exact fun k hk => absurd hk (Nat.not_lt_zero _)
  rintro ⟨⟨i, n, l⟩, hi, hn, hl, ht⟩
  dsimp only at hi hn hl ht ⊢
  (refine Tri.cut 1 Tryz.mixed Tryz.T_ok ?_; ((conv => arg 5; whnf); repeat (refine xS ?_; conv => arg 5; whnf)))
  refine wC (fun h3 => ?_) (fun h3 => ?_)
  · have h3' : 1 < n := (by (try simp only [ww] at *); omega)
    have a1 := half_pos n
    have a2 := half_lt (n := n) (by omega)
    have e1 : IntKind.i64.wrap ((i : Int) - (halfN n : Int)) = ((i : Int) - (halfN n : Int)) := (by (try simp only [ww] at *); omega)
    (refine wGo ?_; ((conv => arg 5; whnf); repeat (refine xS ?_; conv => arg 5; whnf)))
    refine wD <| cutG <| Tri.block <| Tri.of Tryz.mixed Tryz.T_ok ?_
    (refine wBegin ?_; ((conv => arg 5; whnf); repeat (refine xS ?_; conv => arg 5; whnf)))
    (apply wP; exact (call_op rfl (entersB_of Tryz.func151 (by kernel_rfl)) rfl ((half_can n (by omega) hn).at [] ⟨lend_plain rfl, trivial⟩ trivial)); ((conv => arg 5; whnf); repeat (refine xS ?_; conv => arg 5; whnf)))
    (refine wP _ _ (append_op Tryz.T_ok rfl rfl rfl rfl rfl [13, 2] (old_vec rfl rfl (Nat.le_refl _) rfl) (new_vec (lo := 0) rfl rfl (by omega) rfl) rfl (fun _ _ => rfl) (by simp only [maxLen]; omega) (by dsimp only; omega)) ?_; ((conv => arg 5; whnf); repeat (refine xS ?_; conv => arg 5; whnf)))
    refine wC (fun h4 => ?_) (fun h4 => ?_)
    · have h4' : halfN n ≤ i := (by (try simp only [ww] at *); omega)
      have w1 : IntKind.i64.wrap ((i : Int) - (halfN n : Int)) = ((i - halfN n : Nat) : Int) := (by (try simp only [ww] at *); omega)
      have w2 : IntKind.i64.wrap ((n : Int) - (halfN n : Int)) = ((n - halfN n : Nat) : Int) := (by (try simp only [ww] at *); omega)
      (refine wGo ?_; ((conv => arg 5; whnf); repeat (refine xS ?_; conv => arg 5; whnf)))
      refine wD <| blockN <| loopN ⟨⟨(i - halfN n, n - halfN n, true :: l), by dsimp only; omega, by dsimp only; omega, by simp only [List.length_cons]; omega, ?_⟩, by dsimp only; omega, ?_⟩
      · dsimp only
        rw [← ht, turnsN_step (n := n) (by omega), if_neg (by omega), List.append_assoc]; rfl
      rw [w1, w2, h4, Nat.add_comm 1]
      ((try dsimp only); refine Ent.renC [0, 1, 15] hC ?_ ?_ <;> repeat' (first | exact trivial | exact rfl | exact ⟨_, rfl, rfl, rfl, Nat.le_refl _, fun _ _ => rfl⟩ | exact ⟨_, rfl, rfl, rfl, fun _ _ => rfl⟩ | exact ⟨_, rfl, rfl, rfl⟩ | exact ⟨_, rfl, rfl⟩ | refine ⟨_, rfl, rfl, rfl, by omega, fun k hk => ?_⟩ | refine ⟨?_, ?_⟩ | fail))
      · exact Nat.le_refl _
      · exact fun k hk => boolsF_cons rfl (fun _ _ => by rw [Nat.zero_add]) hk
    · have h4' : i < halfN n := (by (try simp only [ww] at *); omega)
      (refine wGo ?_; ((conv => arg 5; whnf); repeat (refine xS ?_; conv => arg 5; whnf)))
      refine wD <| blockN <| loopN ⟨⟨(i, halfN n, false :: l), h4', by dsimp only; omega, by simp only [List.length_cons]; omega, ?_⟩, by dsimp only; omega, ?_⟩
      · dsimp only
        rw [← ht, turnsN_step (n := n) (by omega), if_pos h4', List.append_assoc]; rfl
      rw [h4, Nat.add_comm 1]
      ((try dsimp only); refine Ent.renC [0, 1, 15] hC ?_ ?_ <;> repeat' (first | exact trivial | exact rfl | exact ⟨_, rfl, rfl, rfl, Nat.le_refl _, fun _ _ => rfl⟩ | exact ⟨_, rfl, rfl, rfl, fun _ _ => rfl⟩ | exact ⟨_, rfl, rfl, rfl⟩ | exact ⟨_, rfl, rfl⟩ | refine ⟨_, rfl, rfl, rfl, by omega, fun k hk => ?_⟩ | refine ⟨?_, ?_⟩ | fail))
      · exact Nat.le_refl _
      · exact fun k hk => boolsF_cons rfl (fun _ _ => by rw [Nat.zero_add]) hk
  · have h3' : n ≤ 1 := (by (try simp only [ww] at *); omega)
    rw [turnsN_one h3', List.nil_append] at ht
    (refine wGo ?_; ((conv => arg 5; whnf); repeat (refine xS ?_; conv => arg 5; whnf)))
    refine wD <| cutE <| loopX <| blockX <| cutG <| Tri.of Tryz.mixed Tryz.T_ok ?_
    rw [ht]
    (refine wBegin ?_; ((conv => arg 5; whnf); repeat (refine xS ?_; conv => arg 5; whnf)))
    exact wD (Ends.made (.inr rfl) (Ent.refl _) rfl (Nat.le_refl _) rfl)
def upTo (x : H8) (i n : Nat) (p : Nat → H8) (k : Nat) : H8 := upL (leafH x) ((turnsN i n).take k) (listH p k)
theorem upTo_step {x : H8} {i n : Nat} {p : Nat → H8} {k : Nat} (hk : k < (turnsN i n).length) : upTo x i n p (k + 1) = stepU (upTo x i n p k) ((turnsN i n).getD k false) (p k) := by
  unfold upTo
  rw [List.take_add_one, listH_succ]
  have : (turnsN i n)[k]?.toList = [(turnsN i n).getD k false] := by
    rw [List.getElem?_eq_getElem hk, List.getD_eq_getElem?_getD, List.getElem?_eq_getElem hk]; rfl
  rw [this]
  exact upL_snoc _ _ _ _ _ (by rw [listH_length, List.length_take]; omega)
def mchkSt (root h : H8) (i n L : Nat) (p : Nat → H8) (k : Nat) : St :=
  ⟨[none, none, none, none, none, some (XV.sv (.ptr 6 0 0 0)), none, none, none, none, none, some (XV.sv (.slc 7 1 0 L)), some (XV.sv (.ptr 8 0 0 0))] ++ List.replicate 27 none ++ [some (XV.sv (.slc 4 8 0 L)), some (XV.int .i64 L), some (XV.int .i64 k)] ++ List.replicate 18 none,
   [(4, .ro 8 L (hashF p)), (5, .ext stepsP), (6, .cells 39 (root.cells.map .raw)), (7, .vec 4 1 L (boolsF (turnsN i n))), (8, .cells 39 (h.cells.map .raw))], 9⟩
set_option maxHeartbeats 2000000 in
theorem mcheck_can (root x : H8) (i n L : Nat) (p : Nat → H8) (hi : i < n) (hn : n ≤ 65536) (hL : L ≤ 1000000000) : Reads Tryz.prog 107 [.plain root.x, .plain x.x, .plain (.one (.raw (.int .i64 i))), .plain (.one (.raw (.int .i64 n))), .row 8 L (hashF p)] [stepsP] (XV.bool (leads root x i n p L)) := by
  refine Reads.of Tryz.T_ok Tryz.func107 rfl _ _ _ rfl rfl (fun C hC => ?_)
  (replace hC : C.n0 = 6 := hC; change Tri _ _ _ ⟨_, _, 6⟩ _)
  (refine Tri.cut 4 Tryz.mixed Tryz.T_ok ?_; ((conv => arg 5; whnf); repeat (refine xS ?_; conv => arg 5; whnf)))
  (refine wFd ?_ ?_; (first | refine decide_eq_false ?_ | rw [beq_eq_false_iff_ne] | rw [bne_eq_false_iff_eq]); exact (by (try simp only [ww] at *); omega); refine wGo ?_; ((conv => arg 5; whnf); repeat (refine xS ?_; conv => arg 5; whnf)))
  (refine wFd ?_ ?_; (first | refine decide_eq_false ?_ | rw [beq_eq_false_iff_ne] | rw [bne_eq_false_iff_eq]); exact (by (try simp only [ww] at *); omega); refine wGo ?_; ((conv => arg 5; whnf); repeat (refine xS ?_; conv => arg 5; whnf)))
  (refine wFd ?_ ?_; (first | refine decide_eq_false ?_ | rw [beq_eq_false_iff_ne] | rw [bne_eq_false_iff_eq]); exact (by (try simp only [ww] at *); omega); refine wGo ?_; ((conv => arg 5; whnf); repeat (refine xS ?_; conv => arg 5; whnf)))
  (refine wFd ?_ ?_; (first | refine decide_eq_false ?_ | rw [beq_eq_false_iff_ne] | rw [bne_eq_false_iff_eq]); exact (by (try simp only [ww] at *); omega); refine wGo ?_; ((conv => arg 5; whnf); repeat (refine xS ?_; conv => arg 5; whnf)))
  (apply wP; exact (call_op rfl (entersB_of Tryz.func132 (by kernel_rfl)) rfl ((turns_can i n hi hn).at [] ⟨lend_plain rfl, lend_plain rfl, trivial⟩ trivial)); ((conv => arg 5; whnf); repeat (refine xS ?_; conv => arg 5; whnf)))
  refine wC (fun h1 => ?_) (fun h1 => ?_)
  · have h1' : ¬ L = (turnsN i n).length := by
      intro e; rw [← e] at h1; simp at h1
    (refine wGo ?_; ((conv => arg 5; whnf); repeat (refine xS ?_; conv => arg 5; whnf)))
    refine wD <| cutR <| Ends.plain (.inr rfl) rfl ?_
    have : leads root x i n p L = false := by unfold leads; rw [decide_eq_false h1']; rfl
    rw [this]
  · have h1' : L = (turnsN i n).length := by
      have : ((turnsN i n).length : Int) = (L : Int) := by simpa using h1
      omega
    (refine wGo ?_; ((conv => arg 5; whnf); repeat (refine xS ?_; conv => arg 5; whnf)))
    refine wD <| cutG ?_
    (refine Tri.cut 1 Tryz.mixed Tryz.T_ok ?_; ((conv => arg 5; whnf); repeat (refine xS ?_; conv => arg 5; whnf)))
    (apply wP; exact (call_op rfl (entersB_of Tryz.func133 (by kernel_rfl)) rfl ((leaf_can x).at [5] ⟨lend_plain rfl, trivial⟩ ⟨lend_ext (c := 5) rfl rfl, trivial⟩)); ((conv => arg 5; whnf); repeat (refine xS ?_; conv => arg 5; whnf)))
    refine wD <| cutG <| Tri.seq ?_
    (refine Tri.cut 1 Tryz.mixed Tryz.T_ok ?_; ((conv => arg 5; whnf); repeat (refine xS ?_; conv => arg 5; whnf)))
    rw [← h1']
    refine wD <| cutG <| Tri.block ?_
    refine Tri.loop (α := { k : Nat // k ≤ L }) (fun k => mchkSt root (upTo x i n p k.1) i n L p k.1) (fun k => L - k.1) ⟨0, Nat.zero_le _⟩ ?_ ?_
    · ((try dsimp only); refine Ent.renC [0, 1, 2, 3, 4, 5, 6, 26, 35] hC ?_ ?_ <;> repeat' (first | exact trivial | exact rfl | exact ⟨_, rfl, rfl, rfl, Nat.le_refl _, fun _ _ => rfl⟩ | exact ⟨_, rfl, rfl, rfl, fun _ _ => rfl⟩ | exact ⟨_, rfl, rfl, rfl⟩ | exact ⟨_, rfl, rfl⟩ | refine ⟨_, rfl, rfl, rfl, by omega, fun k hk => ?_⟩ | refine ⟨?_, ?_⟩ | fail))
    rintro ⟨k, hk⟩
    dsimp only
    (refine Tri.cut 2 Tryz.mixed Tryz.T_ok ?_; ((conv => arg 5; whnf); repeat (refine xS ?_; conv => arg 5; whnf)))
    refine wC (fun h2 => ?_) (fun h2 => ?_)
    · (refine wGo ?_; ((conv => arg 5; whnf); repeat (refine xS ?_; conv => arg 5; whnf)))
      have h2' : k < L := (by (try simp only [ww] at *); omega)
      have hw : IntKind.i64.wrap ((k : Int) + 1) = ((k + 1 : Nat) : Int) := (by (try simp only [ww] at *); omega)
      refine wD <| cutG <| Tri.seq <| Tri.block <| Tri.of Tryz.mixed Tryz.T_ok ?_
      (refine wBegin ?_; ((conv => arg 5; whnf); repeat (refine xS ?_; conv => arg 5; whnf)))
      (repeat (refine wN ?_ ?_; exact (by (try simp only [ww] at *); omega); refine wGo ?_; ((conv => arg 5; whnf); repeat (refine xS ?_; conv => arg 5; whnf))))
      simp only [Nat.zero_add, Int.toNat_natCast]
      refine wC (fun h3 => ?_) (fun h3 => ?_)
      · have h3' : (turnsN i n).getD k false = true := h3
        have hs := upTo_step (x := x) (p := p) (k := k) (i := i) (n := n) (by omega)
        rw [h3'] at hs
        (refine wGo ?_; ((conv => arg 5; whnf); repeat (refine xS ?_; conv => arg 5; whnf)))
        (apply wP; exact (call_op rfl (entersB_of Tryz.func134 (by kernel_rfl)) rfl ((join_can (p k) (upTo x i n p k)).at [5] ⟨lend_plain rfl, lend_plain rfl, trivial⟩ ⟨lend_ext (c := 5) rfl rfl, trivial⟩)); ((conv => arg 5; whnf); repeat (refine xS ?_; conv => arg 5; whnf)))
        refine wD <| blockN <| cutG <| Tri.of Tryz.mixed Tryz.T_ok ?_
        (refine wBegin ?_; ((conv => arg 5; whnf); repeat (refine xS ?_; conv => arg 5; whnf)))
        refine wD <| loopN ⟨⟨k + 1, h2'⟩, by dsimp only; omega, ?_⟩
        rw [hw]
        dsimp only
        rw [hs]
        ((try dsimp only); refine Ent.renC [0, 1, 2, 3, 4, 5, 6, 7, 8] hC ?_ ?_ <;> repeat' (first | exact trivial | exact rfl | exact ⟨_, rfl, rfl, rfl, Nat.le_refl _, fun _ _ => rfl⟩ | exact ⟨_, rfl, rfl, rfl, fun _ _ => rfl⟩ | exact ⟨_, rfl, rfl, rfl⟩ | exact ⟨_, rfl, rfl⟩ | refine ⟨_, rfl, rfl, rfl, by omega, fun k hk => ?_⟩ | refine ⟨?_, ?_⟩ | fail))
      · have h3' : (turnsN i n).getD k false = false := h3
        have hs := upTo_step (x := x) (p := p) (k := k) (i := i) (n := n) (by omega)
        rw [h3'] at hs
        (refine wGo ?_; ((conv => arg 5; whnf); repeat (refine xS ?_; conv => arg 5; whnf)))
        (apply wP; exact (call_op rfl (entersB_of Tryz.func134 (by kernel_rfl)) rfl ((join_can (upTo x i n p k) (p k)).at [5] ⟨lend_plain rfl, lend_plain rfl, trivial⟩ ⟨lend_ext (c := 5) rfl rfl, trivial⟩)); ((conv => arg 5; whnf); repeat (refine xS ?_; conv => arg 5; whnf)))
        refine wD <| blockN <| cutG <| Tri.of Tryz.mixed Tryz.T_ok ?_
        (refine wBegin ?_; ((conv => arg 5; whnf); repeat (refine xS ?_; conv => arg 5; whnf)))
        refine wD <| loopN ⟨⟨k + 1, h2'⟩, by dsimp only; omega, ?_⟩
        rw [hw]
        dsimp only
        rw [hs]
        ((try dsimp only); refine Ent.renC [0, 1, 2, 3, 4, 5, 6, 7, 8] hC ?_ ?_ <;> repeat' (first | exact trivial | exact rfl | exact ⟨_, rfl, rfl, rfl, Nat.le_refl _, fun _ _ => rfl⟩ | exact ⟨_, rfl, rfl, rfl, fun _ _ => rfl⟩ | exact ⟨_, rfl, rfl, rfl⟩ | exact ⟨_, rfl, rfl⟩ | refine ⟨_, rfl, rfl, rfl, by omega, fun k hk => ?_⟩ | refine ⟨?_, ?_⟩ | fail))
    · (refine wGo ?_; ((conv => arg 5; whnf); repeat (refine xS ?_; conv => arg 5; whnf)))
      have h2' : k = L := (by (try simp only [ww] at *); omega)
      subst h2'
      refine wD <| cutE <| loopX <| blockX <| cutG <| Tri.of Tryz.mixed Tryz.T_ok ?_
      (refine wBegin ?_; ((conv => arg 5; whnf); repeat (refine xS ?_; conv => arg 5; whnf)))
      (refine wP _ _ (eq_op hashE rfl (upTo x i n p k) root rfl rfl) ?_; ((conv => arg 5; whnf); repeat (refine xS ?_; conv => arg 5; whnf)))
      refine wD (Ends.plain (.inr rfl) rfl ?_)
      have : leads root x i n p k = decide (upTo x i n p k = root) := by
        unfold leads upTo
        rw [decide_eq_true h1', Bool.true_and, h1', List.take_length]
      rw [this]
end Go.Proofs.YtmoohekgheoliaaGreatDoor
namespace Go.Proofs.YtmoohekgheoliaaGreatDoor
set_option maxRecDepth 100000
open Go.Sx
theorem lend_elem {M : Mem} {rd : List Nat} {c off sz sz1 i k cap n : Nat} {f g : Nat → List Value} (hm : M.get c = some (.ro sz n f)) (hrd : nmem c rd = true) (hoff : off = i * sz) (hi : i < n) (hl : ∀ j, j < k → (g j).length = sz1) (hf : f i = tabF g 0 k) : Lends M rd (.one (.sla c off sz1 k cap)) (.row sz1 k g) := by
  refine Lends.row ?_
  intro β ow w v _ h hr
  have hh := hr c ((nmem_iff c rd).1 hrd) _ hm
  simp only [CV.rel, SV.rel] at h
  obtain ⟨a, h1, h2, h3⟩ := h
  simp only [Holds] at hh
  by_cases hn : (β c).nil = true
  · rw [if_pos hn] at hh; omega
  rw [if_neg hn] at hh
  refine ⟨(β c).part off cap, ?_, ?_⟩
  · have hn' : ¬ ((β c).part off cap).nil = true := hn
    simp only [SV.rel]
    rw [if_neg hn']
    refine ⟨a, by rw [h1]; simp [Loc.part], by simpa [Loc.part] using h2, fun hl => ?_⟩
    rw [Loc.part_addr, h3 (by simpa [Loc.part] using hl)]
    simp
  · unfold RoAt
    rw [if_neg (show ¬ ((β c).part off cap).nil = true from hn)]
    refine ⟨⟨hh.2.1, .inl hh.1⟩, fun j hj => ⟨hl j hj, fun q u hu => ?_⟩⟩
    obtain ⟨_, e2⟩ := hh.2.2 i hi
    have hq : q < sz1 := by rw [← hl j hj]; exact (List.getElem?_eq_some_iff.1 hu).1
    rw [Loc.part_addr, hoff]
    refine e2 (j * sz1 + q) u ?_
    rw [hf, tabF_eq, flat_get hl hj hq]
    exact hu
theorem cut_can (n : Nat) (h1 : 2 ≤ n) (h2 : n ≤ 65536) : Reads Tryz.prog 93 [.plain (.one (.raw (.int .i64 n)))] [] (XV.int .i64 (halfN n)) := by
  refine Reads.of Tryz.T_ok Tryz.func93 rfl _ _ _ rfl rfl (fun C hC => ?_)
  (replace hC : C.n0 = 1 := hC; change Tri _ _ _ ⟨_, _, 1⟩ _)
  (refine Tri.cut 2 Tryz.mixed Tryz.T_ok ?_; ((conv => arg 5; whnf); repeat (refine xS ?_; conv => arg 5; whnf)))
  refine wD <| cutG <| Tri.seq <| Tri.block ?_
  refine Tri.loop (α := { x : Nat × Nat // x.2 = 2 ^ x.1 ∧ x.2 < n }) (fun x => ⟨[some (XV.int .i64 n), none, none, some (XV.int .i64 x.1.2)] ++ List.replicate 7 none, [], 1⟩) (fun x => n - x.1.2) ⟨(0, 1), rfl, by dsimp only; omega⟩ ?_ ?_
  · exact Ent.ren [0] (by decide) rfl (fun i hi => by replace hi := Nat.lt_of_lt_of_eq hi hC; revert i; decide) (Nat.le_trans (Nat.le_of_eq hC) (by decide)) rfl (by repeat' (first | exact trivial | exact rfl | refine ⟨?_, ?_⟩ | fail)) (by repeat' (first | exact trivial | exact ⟨_, rfl, rfl, rfl, Nat.le_refl _, fun _ _ => rfl⟩ | exact ⟨_, rfl, rfl, rfl, fun _ _ => rfl⟩ | exact ⟨_, rfl, rfl, rfl⟩ | exact ⟨_, rfl, rfl⟩ | refine ⟨?_, ?_⟩ | fail))
  rintro ⟨⟨j, p⟩, hp, hn⟩
  dsimp only at hp hn ⊢
  have hp0 : 0 < p := by rw [hp]; exact Nat.two_pow_pos _
  have e1 : IntKind.i64.wrap (2 * (p : Int)) = ((2 * p : Nat) : Int) := (by (try simp only [ww] at *); omega)
  (refine Tri.cut 1 Tryz.mixed Tryz.T_ok ?_; ((conv => arg 5; whnf); repeat (refine xS ?_; conv => arg 5; whnf)))
  simp only [e1]
  refine wC (fun h3 => ?_) (fun h3 => ?_)
  · have h3' : 2 * p < n := (by (try simp only [ww] at *); omega)
    (refine wGo ?_; ((conv => arg 5; whnf); repeat (refine xS ?_; conv => arg 5; whnf)))
    refine wD <| cutG <| Tri.block <| Tri.of Tryz.mixed Tryz.T_ok ?_
    (refine wBegin ?_; ((conv => arg 5; whnf); repeat (refine xS ?_; conv => arg 5; whnf)))
    simp only [e1]
    refine wD <| blockN <| loopN ⟨⟨(j + 1, 2 * p), by dsimp only; rw [hp, Nat.pow_succ]; omega, h3'⟩, by dsimp only; omega, ?_⟩
    exact Ent.ren [0] (by decide) rfl (fun i hi => by replace hi := Nat.lt_of_lt_of_eq hi hC; revert i; decide) (Nat.le_trans (Nat.le_of_eq hC) (by decide)) rfl (by repeat' (first | exact trivial | exact rfl | refine ⟨?_, ?_⟩ | fail)) (by repeat' (first | exact trivial | exact ⟨_, rfl, rfl, rfl, Nat.le_refl _, fun _ _ => rfl⟩ | exact ⟨_, rfl, rfl, rfl, fun _ _ => rfl⟩ | exact ⟨_, rfl, rfl, rfl⟩ | exact ⟨_, rfl, rfl⟩ | refine ⟨?_, ?_⟩ | fail))
  · have h3' : n ≤ 2 * p := (by (try simp only [ww] at *); omega)
    (refine wGo ?_; ((conv => arg 5; whnf); repeat (refine xS ?_; conv => arg 5; whnf)))
    refine wD <| cutE <| loopX <| blockX <| cutG <| Tri.of Tryz.mixed Tryz.T_ok ?_
    (refine wBegin ?_; ((conv => arg 5; whnf); repeat (refine xS ?_; conv => arg 5; whnf)))
    refine wD (Ends.plain (.inr rfl) rfl ?_)
    rw [half_eq (k := j) h1 (by omega) (by omega), hp]
set_option maxHeartbeats 1000000 in
theorem root_can : ∀ (n : Nat), 1 ≤ n → n ≤ 65536 → ∀ h : Nat → H8, Reads Tryz.prog 89 [.row 8 n (hashF h)] [] (hashX (rootN h n))
  | n, h1, h2, h => by
    refine Reads.of Tryz.T_ok Tryz.func89 rfl _ _ _ rfl rfl (fun C hC => ?_)
    (replace hC : C.n0 = 1 := hC; change Tri _ _ _ ⟨_, _, 1⟩ _)
    refine Tri.of Tryz.mixed Tryz.T_ok ?_
    (refine wBegin ?_; ((conv => arg 5; whnf); repeat (refine xS ?_; conv => arg 5; whnf)))
    (refine wFd ?_ ?_; (first | refine decide_eq_false ?_ | rw [beq_eq_false_iff_ne] | rw [bne_eq_false_iff_eq]); exact (by (try simp only [ww] at *); omega); refine wGo ?_; ((conv => arg 5; whnf); repeat (refine xS ?_; conv => arg 5; whnf)))
    (refine wFd ?_ ?_; (first | refine decide_eq_false ?_ | rw [beq_eq_false_iff_ne] | rw [bne_eq_false_iff_eq]); exact (by (try simp only [ww] at *); omega); refine wGo ?_; ((conv => arg 5; whnf); repeat (refine xS ?_; conv => arg 5; whnf)))
    refine wC (fun h3 => ?_) (fun h3 => ?_)
    · obtain rfl : n = 1 := by
        have : (n : Int) = 1 := by simpa using h3
        omega
      (refine wGo ?_; ((conv => arg 5; whnf); repeat (refine xS ?_; conv => arg 5; whnf)))
      (repeat (refine wN ?_ ?_; exact (by (try simp only [ww] at *); omega); refine wGo ?_; ((conv => arg 5; whnf); repeat (refine xS ?_; conv => arg 5; whnf))))
      (refine wP _ _ (cellsNew_op Tryz.T_ok rfl rfl rfl) ?_; ((conv => arg 5; whnf); repeat (refine xS ?_; conv => arg 5; whnf)))
      (apply wP; exact (call_op rfl (entersB_of Tryz.func35 (by kernel_rfl)) rfl ((digest_can 108 [(h 0).l] (short1 _ _ (by simp [H8.l_len]))).at [0, 18] ⟨lend_plain rfl, lend_parts [(h 0).l] rfl rfl rfl ⟨lend_elem (i := 0) rfl rfl rfl (by omega) (fun _ _ => rfl) rfl, trivial⟩, trivial⟩ trivial)); ((conv => arg 5; whnf); repeat (refine xS ?_; conv => arg 5; whnf)))
      exact wD (Ends.plain (.inr rfl) rfl rfl)
    · have h3' : n ≠ 1 := by
        intro e; subst e; simp at h3
      have a1 := half_pos n
      have a2 := half_lt (n := n) (by omega)
      (refine wGo ?_; ((conv => arg 5; whnf); repeat (refine xS ?_; conv => arg 5; whnf)))
      (apply wP; exact (call_op rfl (entersB_of Tryz.func93 (by kernel_rfl)) rfl ((cut_can n (by omega) h2).at [] ⟨lend_plain rfl, trivial⟩ trivial)); ((conv => arg 5; whnf); repeat (refine xS ?_; conv => arg 5; whnf)))
      (repeat (refine wN ?_ ?_; exact (by (try simp only [ww] at *); omega); refine wGo ?_; ((conv => arg 5; whnf); repeat (refine xS ?_; conv => arg 5; whnf))))
      (apply wP; exact (call_op rfl (entersB_of Tryz.func89 (by kernel_rfl)) rfl ((root_can (halfN n) a1 (by omega) h).at [0] ⟨lend_ro rfl rfl (by omega) (fun i _ => by rw [Nat.zero_add]), trivial⟩ trivial)); ((conv => arg 5; whnf); repeat (refine xS ?_; conv => arg 5; whnf)))
      (repeat (refine wN ?_ ?_; exact (by (try simp only [ww] at *); omega); refine wGo ?_; ((conv => arg 5; whnf); repeat (refine xS ?_; conv => arg 5; whnf))))
      simp only [Nat.zero_add, Int.toNat_natCast]
      (apply wP; exact (call_op rfl (entersB_of Tryz.func89 (by kernel_rfl)) rfl ((root_can (n - halfN n) (by omega) (by omega) (fun i => h (halfN n + i))).at [0] ⟨lend_ro (lo := halfN n) rfl rfl (by omega) (fun i _ => rfl), trivial⟩ trivial)); ((conv => arg 5; whnf); repeat (refine xS ?_; conv => arg 5; whnf)))
      (apply wP; exact (call_op rfl (entersB_of Tryz.func119 (by kernel_rfl)) rfl ((rtwo_can 109 (rootN h (halfN n)) (rootN (fun i => h (halfN n + i)) (n - halfN n))).at [] ⟨lend_plain rfl, lend_plain rfl, lend_plain rfl, trivial⟩ trivial)); ((conv => arg 5; whnf); repeat (refine xS ?_; conv => arg 5; whnf)))
      refine wD (Ends.plain (.inr rfl) rfl ?_)
      rw [rootN_step (n := n) (by omega) h]
      rfl
  termination_by n => n
def provH (h : Nat → H8) (n i : Nat) : Nat → H8 := fun k => (proveN h n i).getD k zeroH
def provSt (L : Nat) (p : Nat → H8) : St :=
  ⟨[none, none, none, none, some (XV.sv (.slc 2 8 0 L)), some (XV.bool true)] ++ List.replicate 59 none, [(2, .vec 39 8 L (hashF p))], 3⟩
theorem hash_snoc {l : List H8} {x : H8} {L k : Nat} {f : Nat → List Value} (hL : L = l.length) (hf : f 0 = x.cells) (hk : k < L + 1) : joinF (hashF fun k => l.getD k zeroH) L f k = hashF (fun k => (l ++ [x]).getD k zeroH) k := by
  subst hL
  simp only [joinF, nblt]
  by_cases h : k < l.length
  · simp [h, hashF, List.getD_eq_getElem?_getD, List.getElem?_append_left h]
  · obtain rfl : k = l.length := by omega
    simp [hashF, hf]
set_option maxHeartbeats 1000000 in
theorem prove_can : ∀ (n : Nat), n ≤ 65536 → ∀ (h : Nat → H8) (i : Nat), i < n → Makes Tryz.prog 50 [.row 8 n (hashF h), .plain (.one (.raw (.int .i64 i)))] [] (.tup [.one (.slc 0 8 0 (turnsN i n).length), .one (.raw (.bool true))]) (.vec 39 8 (turnsN i n).length (hashF (provH h n i)))
  | n, h2, h, i, hi => by
    refine Makes.of Tryz.T_ok Tryz.func50 rfl _ _ _ _ rfl rfl rfl rfl 2 (fun C hC => ?_)
    (replace hC : C.n0 = 2 := hC; change Tri _ _ _ ⟨_, _, 2⟩ _)
    refine Tri.of Tryz.mixed Tryz.T_ok ?_
    (refine wBegin ?_; ((conv => arg 5; whnf); repeat (refine xS ?_; conv => arg 5; whnf)))
    (refine wFd ?_ ?_; (first | refine decide_eq_false ?_ | rw [beq_eq_false_iff_ne] | rw [bne_eq_false_iff_eq]); exact (by (try simp only [ww] at *); omega); refine wGo ?_; ((conv => arg 5; whnf); repeat (refine xS ?_; conv => arg 5; whnf)))
    (refine wFd ?_ ?_; (first | refine decide_eq_false ?_ | rw [beq_eq_false_iff_ne] | rw [bne_eq_false_iff_eq]); exact (by (try simp only [ww] at *); omega); refine wGo ?_; ((conv => arg 5; whnf); repeat (refine xS ?_; conv => arg 5; whnf)))
    (refine wFd ?_ ?_; (first | refine decide_eq_false ?_ | rw [beq_eq_false_iff_ne] | rw [bne_eq_false_iff_eq]); exact (by (try simp only [ww] at *); omega); refine wGo ?_; ((conv => arg 5; whnf); repeat (refine xS ?_; conv => arg 5; whnf)))
    refine wC (fun h3 => ?_) (fun h3 => ?_)
    · obtain rfl : n = 1 := by
        have : (n : Int) = 1 := by simpa using h3
        omega
      (refine wGo ?_; ((conv => arg 5; whnf); repeat (refine xS ?_; conv => arg 5; whnf)))
      refine wD (Ends.made (S' := provSt 0 (provH h 1 i)) (.inr rfl) ((Ent.nils (t := 4) rfl 39 8).trans ?_) rfl (Nat.le_refl _) (by rw [turnsN_one (Nat.le_refl _)]; rfl))
      ((try dsimp only); refine Ent.renC [0, 1, 22] hC ?_ ?_ <;> repeat' (first | exact trivial | exact rfl | exact ⟨_, rfl, rfl, rfl, Nat.le_refl _, fun _ _ => rfl⟩ | exact ⟨_, rfl, rfl, rfl, fun _ _ => rfl⟩ | exact ⟨_, rfl, rfl, rfl⟩ | exact ⟨_, rfl, rfl⟩ | refine ⟨_, rfl, rfl, rfl, by omega, fun k hk => ?_⟩ | refine ⟨?_, ?_⟩ | fail))
      exact absurd hk (Nat.not_lt_zero _)
    · have h3' : n ≠ 1 := by
        intro e; subst e; simp at h3
      have a1 := half_pos n
      have a2 := half_lt (n := n) (by omega)
      have b1 := turnsN_length n i
      (refine wGo ?_; ((conv => arg 5; whnf); repeat (refine xS ?_; conv => arg 5; whnf)))
      (apply wP; exact (call_op rfl (entersB_of Tryz.func93 (by kernel_rfl)) rfl ((cut_can n (by omega) h2).at [] ⟨lend_plain rfl, trivial⟩ trivial)); ((conv => arg 5; whnf); repeat (refine xS ?_; conv => arg 5; whnf)))
      refine wC (fun h4 => ?_) (fun h4 => ?_)
      · have h4' : i < halfN n := (by (try simp only [ww] at *); omega)
        have ht := turnsN_step (i := i) (n := n) (by omega)
        have hp := proveN_step (h := h) (i := i) (n := n) (by omega)
        rw [if_pos h4'] at ht hp
        have ht' : (turnsN i n).length = (turnsN i (halfN n)).length + 1 := by rw [ht]; simp
        (refine wGo ?_; ((conv => arg 5; whnf); repeat (refine xS ?_; conv => arg 5; whnf)))
        (repeat (refine wN ?_ ?_; exact (by (try simp only [ww] at *); omega); refine wGo ?_; ((conv => arg 5; whnf); repeat (refine xS ?_; conv => arg 5; whnf))))
        (apply wP; exact (call_op rfl (entersB_of Tryz.func50 (by kernel_rfl)) rfl ((prove_can (halfN n) (by omega) h i h4').at [0] ⟨lend_ro rfl rfl (by omega) (fun i _ => by rw [Nat.zero_add]), lend_plain rfl, trivial⟩ trivial)); ((conv => arg 5; whnf); repeat (refine xS ?_; conv => arg 5; whnf)))
        (repeat (refine wN ?_ ?_; exact (by (try simp only [ww] at *); omega); refine wGo ?_; ((conv => arg 5; whnf); repeat (refine xS ?_; conv => arg 5; whnf))))
        simp only [Nat.zero_add, Int.toNat_natCast]
        (apply wP; exact (call_op rfl (entersB_of Tryz.func89 (by kernel_rfl)) rfl ((root_can (n - halfN n) (by omega) (by omega) (fun i => h (halfN n + i))).at [0] ⟨lend_ro (lo := halfN n) rfl rfl (by omega) (fun i _ => rfl), trivial⟩ trivial)); ((conv => arg 5; whnf); repeat (refine xS ?_; conv => arg 5; whnf)))
        (refine wP _ _ (append_op Tryz.T_ok rfl rfl rfl rfl rfl [31, 42] (old_vec rfl rfl (Nat.le_refl _) rfl) (new_vec (lo := 0) rfl rfl (Nat.le_refl _) rfl) rfl (lt1 rfl) (by simp only [maxLen]; omega) (by dsimp only; omega)) ?_; ((conv => arg 5; whnf); repeat (refine xS ?_; conv => arg 5; whnf)))
        refine wD (Ends.made (S' := provSt (turnsN i n).length (provH h n i)) (.inr rfl) ?_ rfl (Nat.le_refl _) rfl)
        rw [ht']
        ((try dsimp only); refine Ent.renC [0, 1, 43] hC ?_ ?_ <;> repeat' (first | exact trivial | exact rfl | exact ⟨_, rfl, rfl, rfl, Nat.le_refl _, fun _ _ => rfl⟩ | exact ⟨_, rfl, rfl, rfl, fun _ _ => rfl⟩ | exact ⟨_, rfl, rfl, rfl⟩ | exact ⟨_, rfl, rfl⟩ | refine ⟨_, rfl, rfl, rfl, by omega, fun k hk => ?_⟩ | refine ⟨?_, ?_⟩ | fail))
        unfold provH
        rw [hp]
        exact hash_snoc (proveN_length _ _ _).symm rfl hk
      · have h4' : halfN n ≤ i := (by (try simp only [ww] at *); omega)
        have ht := turnsN_step (i := i) (n := n) (by omega)
        have hp := proveN_step (h := h) (i := i) (n := n) (by omega)
        rw [if_neg (by omega)] at ht hp
        have ht' : (turnsN i n).length = (turnsN (i - halfN n) (n - halfN n)).length + 1 := by rw [ht]; simp
        have w1 : IntKind.i64.wrap ((i : Int) - (halfN n : Int)) = ((i - halfN n : Nat) : Int) := (by (try simp only [ww] at *); omega)
        (refine wGo ?_; ((conv => arg 5; whnf); repeat (refine xS ?_; conv => arg 5; whnf)))
        (repeat (refine wN ?_ ?_; exact (by (try simp only [ww] at *); omega); refine wGo ?_; ((conv => arg 5; whnf); repeat (refine xS ?_; conv => arg 5; whnf))))
        simp only [w1, Nat.zero_add, Int.toNat_natCast]
        (apply wP; exact (call_op rfl (entersB_of Tryz.func50 (by kernel_rfl)) rfl ((prove_can (n - halfN n) (by omega) (fun i => h (halfN n + i)) (i - halfN n) (by omega)).at [0] ⟨lend_ro (lo := halfN n) rfl rfl (by omega) (fun i _ => rfl), lend_plain rfl, trivial⟩ trivial)); ((conv => arg 5; whnf); repeat (refine xS ?_; conv => arg 5; whnf)))
        (repeat (refine wN ?_ ?_; exact (by (try simp only [ww] at *); omega); refine wGo ?_; ((conv => arg 5; whnf); repeat (refine xS ?_; conv => arg 5; whnf))))
        (apply wP; exact (call_op rfl (entersB_of Tryz.func89 (by kernel_rfl)) rfl ((root_can (halfN n) a1 (by omega) h).at [0] ⟨lend_ro rfl rfl (by omega) (fun i _ => by rw [Nat.zero_add]), trivial⟩ trivial)); ((conv => arg 5; whnf); repeat (refine xS ?_; conv => arg 5; whnf)))
        (refine wP _ _ (append_op Tryz.T_ok rfl rfl rfl rfl rfl [33, 44] (old_vec rfl rfl (Nat.le_refl _) rfl) (new_vec (lo := 0) rfl rfl (Nat.le_refl _) rfl) rfl (lt1 rfl) (by simp only [maxLen]; omega) (by dsimp only; omega)) ?_; ((conv => arg 5; whnf); repeat (refine xS ?_; conv => arg 5; whnf)))
        refine wD (Ends.made (S' := provSt (turnsN i n).length (provH h n i)) (.inr rfl) ?_ rfl (Nat.le_refl _) rfl)
        rw [ht']
        ((try dsimp only); refine Ent.renC [0, 1, 45] hC ?_ ?_ <;> repeat' (first | exact trivial | exact rfl | exact ⟨_, rfl, rfl, rfl, Nat.le_refl _, fun _ _ => rfl⟩ | exact ⟨_, rfl, rfl, rfl, fun _ _ => rfl⟩ | exact ⟨_, rfl, rfl, rfl⟩ | exact ⟨_, rfl, rfl⟩ | refine ⟨_, rfl, rfl, rfl, by omega, fun k hk => ?_⟩ | refine ⟨?_, ?_⟩ | fail))
        unfold provH
        rw [hp]
        exact hash_snoc (proveN_length _ _ _).symm rfl hk
  termination_by n => n
set_option maxHeartbeats 1000000 in
theorem up_can (x : H8) (p : Nat → H8) : ∀ (L : Nat), L ≤ 1000000000 → ∀ (i n : Nat), i < n → n ≤ 65536 → Reads Tryz.prog 112 [.plain x.x, .plain (.one (.raw (.int .i64 i))), .plain (.one (.raw (.int .i64 n))), .row 8 L (hashF p)] [] (.tup [(upR x p L i n).1.x, .one (.raw (.bool (upR x p L i n).2))])
  | L, hL, i, n, hi, h2 => by
    refine Reads.of Tryz.T_ok Tryz.func112 rfl _ _ _ rfl rfl (fun C hC => ?_)
    (replace hC : C.n0 = 4 := hC; change Tri _ _ _ ⟨_, _, 4⟩ _)
    refine Tri.of Tryz.mixed Tryz.T_ok ?_
    (refine wBegin ?_; ((conv => arg 5; whnf); repeat (refine xS ?_; conv => arg 5; whnf)))
    refine wC (fun h3 => ?_) (fun h3 => ?_)
    · obtain rfl : n = 1 := by
        have : (n : Int) = 1 := by simpa using h3
        omega
      (refine wGo ?_; ((conv => arg 5; whnf); repeat (refine xS ?_; conv => arg 5; whnf)))
      (refine wP _ _ (cellsNew_op Tryz.T_ok rfl rfl rfl) ?_; ((conv => arg 5; whnf); repeat (refine xS ?_; conv => arg 5; whnf)))
      (apply wP; exact (call_op rfl (entersB_of Tryz.func35 (by kernel_rfl)) rfl ((digest_can 108 [x.l] (short1 _ _ (by simp [H8.l_len]))).at [4, 10] ⟨lend_plain rfl, lend_parts [x.l] rfl rfl rfl ⟨lend_sla rfl rfl (fun _ _ => rfl) rfl, trivial⟩, trivial⟩ trivial)); ((conv => arg 5; whnf); repeat (refine xS ?_; conv => arg 5; whnf)))
      refine wD (Ends.plain (.inr rfl) rfl ?_)
      have e : upR x p L i 1 = (leafH x, decide (L = 0)) := by cases L <;> (rw [upR, if_pos rfl])
      have e2 : ((L : Int) == 0) = decide (L = 0) := by
        rw [Bool.eq_iff_iff]; simp
      rw [e, e2]
      rfl
    · have h3' : n ≠ 1 := by
        intro e; subst e; simp at h3
      have a1 := half_pos n
      have a2 := half_lt (n := n) (by omega)
      (refine wGo ?_; ((conv => arg 5; whnf); repeat (refine xS ?_; conv => arg 5; whnf)))
      refine wC (fun h4 => ?_) (fun h4 => ?_)
      · obtain rfl : L = 0 := by
          have : (L : Int) = 0 := by simpa using h4
          omega
        (refine wGo ?_; ((conv => arg 5; whnf); repeat (refine xS ?_; conv => arg 5; whnf)))
        refine wD (Ends.plain (.inr rfl) rfl ?_)
        rw [upR, if_neg h3']
        rfl
      · obtain ⟨L', rfl⟩ : ∃ L', L = L' + 1 := ⟨L - 1, by
          have : L ≠ 0 := by intro e; subst e; simp at h4
          omega⟩
        have w0 : IntKind.i64.wrap (((L' + 1 : Nat) : Int) - 1) = ((L' : Nat) : Int) := (by (try simp only [ww] at *); omega)
        (refine wGo ?_; ((conv => arg 5; whnf); repeat (refine xS ?_; conv => arg 5; whnf)))
        (apply wP; exact (call_op rfl (entersB_of Tryz.func93 (by kernel_rfl)) rfl ((cut_can n (by omega) h2).at [] ⟨lend_plain rfl, trivial⟩ trivial)); ((conv => arg 5; whnf); repeat (refine xS ?_; conv => arg 5; whnf)))
        simp only [w0]
        refine wC (fun h5 => ?_) (fun h5 => ?_)
        · have h5' : i < halfN n := (by (try simp only [ww] at *); omega)
          (refine wGo ?_; ((conv => arg 5; whnf); repeat (refine xS ?_; conv => arg 5; whnf)))
          (repeat (refine wN ?_ ?_; exact (by (try simp only [ww] at *); omega); refine wGo ?_; ((conv => arg 5; whnf); repeat (refine xS ?_; conv => arg 5; whnf))))
          (apply wP; exact (call_op rfl (entersB_of Tryz.func112 (by kernel_rfl)) rfl ((up_can x p L' (by omega) i (halfN n) h5' (by omega)).at [3] ⟨lend_plain rfl, lend_plain rfl, lend_plain rfl, lend_ro rfl rfl (by omega) (fun i _ => by rw [Nat.zero_add]), trivial⟩ trivial)); ((conv => arg 5; whnf); repeat (refine xS ?_; conv => arg 5; whnf)))
          (repeat (refine wN ?_ ?_; exact (by (try simp only [ww] at *); omega); refine wGo ?_; ((conv => arg 5; whnf); repeat (refine xS ?_; conv => arg 5; whnf))))
          simp only [Nat.zero_add, Int.toNat_natCast]
          (apply wP; exact (call_op rfl (entersB_of Tryz.func119 (by kernel_rfl)) rfl ((rtwo_can 109 (upR x p L' i (halfN n)).1 (p L')).at [] ⟨lend_plain rfl, lend_plain rfl, lend_plain rfl, trivial⟩ trivial)); ((conv => arg 5; whnf); repeat (refine xS ?_; conv => arg 5; whnf)))
          refine wD (Ends.plain (.inr rfl) rfl ?_)
          rw [upR, if_neg h3']
          simp only [if_pos h5']
          rfl
        · have h5' : halfN n ≤ i := (by (try simp only [ww] at *); omega)
          have w1 : IntKind.i64.wrap ((i : Int) - (halfN n : Int)) = ((i - halfN n : Nat) : Int) := (by (try simp only [ww] at *); omega)
          have w2 : IntKind.i64.wrap ((n : Int) - (halfN n : Int)) = ((n - halfN n : Nat) : Int) := (by (try simp only [ww] at *); omega)
          (refine wGo ?_; ((conv => arg 5; whnf); repeat (refine xS ?_; conv => arg 5; whnf)))
          (repeat (refine wN ?_ ?_; exact (by (try simp only [ww] at *); omega); refine wGo ?_; ((conv => arg 5; whnf); repeat (refine xS ?_; conv => arg 5; whnf))))
          simp only [w1, w2]
          (apply wP; exact (call_op rfl (entersB_of Tryz.func112 (by kernel_rfl)) rfl ((up_can x p L' (by omega) (i - halfN n) (n - halfN n) (by omega) (by omega)).at [3] ⟨lend_plain rfl, lend_plain rfl, lend_plain rfl, lend_ro rfl rfl (by omega) (fun i _ => by rw [Nat.zero_add]), trivial⟩ trivial)); ((conv => arg 5; whnf); repeat (refine xS ?_; conv => arg 5; whnf)))
          (repeat (refine wN ?_ ?_; exact (by (try simp only [ww] at *); omega); refine wGo ?_; ((conv => arg 5; whnf); repeat (refine xS ?_; conv => arg 5; whnf))))
          simp only [Nat.zero_add, Int.toNat_natCast]
          (apply wP; exact (call_op rfl (entersB_of Tryz.func119 (by kernel_rfl)) rfl ((rtwo_can 109 (p L') (upR x p L' (i - halfN n) (n - halfN n)).1).at [] ⟨lend_plain rfl, lend_plain rfl, lend_plain rfl, trivial⟩ trivial)); ((conv => arg 5; whnf); repeat (refine xS ?_; conv => arg 5; whnf)))
          refine wD (Ends.plain (.inr rfl) rfl ?_)
          rw [upR, if_neg h3']
          simp only [if_neg (show ¬ i < halfN n by omega)]
          rfl
  termination_by L => L
theorem checkRow_can (root x : H8) (i n L : Nat) (p : Nat → H8) (hi : i < n) (hn : n ≤ 65536) (hL : L ≤ 1000000000) : Reads Tryz.prog 83 [.plain root.x, .plain x.x, .plain (.one (.raw (.int .i64 i))), .plain (.one (.raw (.int .i64 n))), .row 8 L (hashF p)] [] (XV.bool (leads root x i n p L)) := by
  refine Reads.of Tryz.T_ok Tryz.func83 rfl _ _ _ rfl rfl (fun C hC => ?_)
  (replace hC : C.n0 = 5 := hC; change Tri _ _ _ ⟨_, _, 5⟩ _)
  refine Tri.of Tryz.mixed Tryz.T_ok ?_
  (refine wBegin ?_; ((conv => arg 5; whnf); repeat (refine xS ?_; conv => arg 5; whnf)))
  (refine wFd ?_ ?_; (first | refine decide_eq_false ?_ | rw [beq_eq_false_iff_ne] | rw [bne_eq_false_iff_eq]); exact (by (try simp only [ww] at *); omega); refine wGo ?_; ((conv => arg 5; whnf); repeat (refine xS ?_; conv => arg 5; whnf)))
  (refine wFd ?_ ?_; (first | refine decide_eq_false ?_ | rw [beq_eq_false_iff_ne] | rw [bne_eq_false_iff_eq]); exact (by (try simp only [ww] at *); omega); refine wGo ?_; ((conv => arg 5; whnf); repeat (refine xS ?_; conv => arg 5; whnf)))
  (refine wFd ?_ ?_; (first | refine decide_eq_false ?_ | rw [beq_eq_false_iff_ne] | rw [bne_eq_false_iff_eq]); exact (by (try simp only [ww] at *); omega); refine wGo ?_; ((conv => arg 5; whnf); repeat (refine xS ?_; conv => arg 5; whnf)))
  (refine wFd ?_ ?_; (first | refine decide_eq_false ?_ | rw [beq_eq_false_iff_ne] | rw [bne_eq_false_iff_eq]); exact (by (try simp only [ww] at *); omega); refine wGo ?_; ((conv => arg 5; whnf); repeat (refine xS ?_; conv => arg 5; whnf)))
  (apply wP; exact (call_op rfl (entersB_of Tryz.func112 (by kernel_rfl)) rfl ((up_can x p L hL i n hi hn).at [4] ⟨lend_plain rfl, lend_plain rfl, lend_plain rfl, lend_ro rfl rfl (by omega) (fun i _ => by rw [Nat.zero_add]), trivial⟩ trivial)); ((conv => arg 5; whnf); repeat (refine xS ?_; conv => arg 5; whnf)))
  rw [← upR_leads root x p L hi]
  refine wC (fun h1 => ?_) (fun h1 => ?_)
  · (refine wGo ?_; ((conv => arg 5; whnf); repeat (refine xS ?_; conv => arg 5; whnf)))
    (refine wP _ _ (eq_op hashE rfl (upR x p L i n).1 root rfl rfl) ?_; ((conv => arg 5; whnf); repeat (refine xS ?_; conv => arg 5; whnf)))
    exact wD (Ends.plain (.inr rfl) rfl (by rw [h1]; rfl))
  · (refine wGo ?_; ((conv => arg 5; whnf); repeat (refine xS ?_; conv => arg 5; whnf)))
    exact wD (Ends.plain (.inr rfl) rfl (by rw [h1]; rfl))
end Go.Proofs.YtmoohekgheoliaaGreatDoor

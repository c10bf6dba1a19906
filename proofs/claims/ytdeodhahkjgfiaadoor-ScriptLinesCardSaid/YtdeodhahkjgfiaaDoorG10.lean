/- Parts Sf Sg Sh Si. -/
import Derived.Test.YtdeodhahkjgfiaaDoorG09
import Derived.Test.YtdeodhahkjgfiaaDoorG07
import Derived.Test.YtdeodhahkjgfiaaDoorG08
set_option linter.unusedSimpArgs false
set_option linter.unusedVariables false
namespace Go.Proofs.YtdeodhahkjgfiaaDoor
set_option maxRecDepth 100000
open Go.Sx Go.RowKit
theorem extern_op {S : St} {d : Nat} {o : Oper} {f : FuncId} {args : Array Operand} {argTypes : Array TypeId} {Xs : List CV} {X : XV} (us : List Value) (ho : o.op = .call { callee := .value (.func f), args := args, argTypes := argTypes })
    (hx : evs S args.toList = some Xs) (hus : Xs = us.map fun u => .one (.raw u)) (v : Value) (hv : X = XV.val v) (h : ∀ w, (callFunc f us.toArray).run Tryd.prog w = .ok (.value v) w) : OpSound Tryd.prog S d o { v := X } [] := by
  subst hus hv
  refine pure_op fun β w a hops => ?_
  have hvs := evs_ok (β := β) (ρ := a.eval) args.toList _ hx (fun x hx X hX => hops x (by rw [ho]; simp [Op.operands, Call.operands]; exact .inr (Array.mem_toList_iff.1 hx)) X hX)
  have key : ∀ (us vs : List Value), CVs β (us.map fun u => .one (.raw u)) vs → vs = us := by
    intro us
    induction us with
    | nil => intro vs h; exact h
    | cons u r ih =>
      rintro vs ⟨x, vs', rfl, h1, h2⟩
      simp only [CV.rel, SV.rel] at h1
      rw [h1, ih vs' h2]
  have e := key us _ hvs
  refine ⟨v, ?_, rfl⟩
  have e1 : args.map a.eval = us.toArray := by rw [← e, ← Array.toList_map, Array.toArray_toList]
  simp only [execOp, ho, resolve, Act.eval, Deferred.ofValue, Sem.run_bind, Sem.run_pure, Result.andThen_ok, invoke]
  rw [e1]
  simp [h]
theorem bits_run (b : Nat) (w : World) : (callFunc 28 #[.float .f64 b]).run Tryd.prog w = .ok (.value (.int .u64 b)) w := by
  rw [run_callFunc_extern Tryd.func28 (by kernel_rfl) (by kernel_rfl) (by kernel_rfl) (e := Extern.MathFloatBits.float64bits) (by kernel_rfl)]
  rfl
theorem from_run (n : Int) (w : World) : (callFunc 61 #[.int .u64 n]).run Tryd.prog w = .ok (.value (.float .f64 n.toNat)) w := by
  rw [run_callFunc_extern Tryd.func61 (by kernel_rfl) (by kernel_rfl) (by kernel_rfl) (e := Extern.MathFloatBits.float64frombits) (by kernel_rfl)]
  rfl
def flt (w : Nat) : Value := .float .f64 w
theorem nan_can : Reads Tryd.prog 45 [] [] (XV.val (flt nanW)) := by
  refine Reads.of Tryd.T_ok Tryd.func45 rfl _ _ _ rfl rfl (fun C hC => xI ?_)
  (refine xB ?_)
  (refine wP _ _ (extern_op [.int .u64 9221120237041090561] rfl rfl rfl _ rfl (from_run _)) ?_; refine xZ ?_)
  exact wD (Ends.plain (.inr rfl) rfl rfl)
theorem isnan_can (w : Nat) : Reads Tryd.prog 48 [.plain (.one (.raw (flt w)))] [] (XV.bool (isNan w)) := by
  refine Reads.of Tryd.T_ok Tryd.func48 rfl _ _ _ rfl rfl (fun C hC => xI ?_)
  (refine xB ?_)
  exact wD (Ends.plain (.inr rfl) rfl rfl)
def ofB (f : Nat → UInt8) : Nat → Nat
  | 0 => 0
  | i + 1 => ofB f i + (f i).toNat * 256 ^ i
theorem ofB_lt (f : Nat → UInt8) : ∀ i, ofB f i < 256 ^ i
  | 0 => by simp [ofB]
  | i + 1 => by
    have h1 := ofB_lt f i
    have h2 := (f i).toNat_lt
    have h3 : (f i).toNat * 256 ^ i ≤ 255 * 256 ^ i := Nat.mul_le_mul_right _ (by omega)
    rw [ofB, Nat.pow_succ]
    omega
theorem ofB_step (f : Nat → UInt8) (i : Nat) (hi : i < 8) : bitI .or .u64 (ofB f i : Int) (shlI .u64 (IntKind.u64.wrap ((f i).toNat : Int)) (IntKind.i64.wrap (8 * (i : Int)))) = (ofB f (i + 1) : Int) := by
  have hx := (f i).toNat_lt
  have e1 : IntKind.u64.wrap ((f i).toNat : Int) = ((f i).toNat : Int) := by rw [IntKind.wrap_u64]; omega
  have e2 : IntKind.i64.wrap (8 * (i : Int)) = ((8 * i : Nat) : Int) := by rw [IntKind.wrap_i64]; omega
  have e3 : (256 : Nat) ^ i = 2 ^ (8 * i) := by rw [Nat.pow_mul]
  have h1 := ofB_lt f i
  rw [e3] at h1
  have h4 : (2 : Nat) ^ (8 * i) ≤ 2 ^ 56 := Nat.pow_le_pow_right (by decide) (by omega)
  have h5 : (f i).toNat * 2 ^ (8 * i) ≤ 255 * 2 ^ 56 := Nat.mul_le_mul (by omega) h4
  have h6 : (f i).toNat * 2 ^ (8 * i) % 18446744073709551616 = (f i).toNat * 2 ^ (8 * i) := Nat.mod_eq_of_lt (by omega)
  rw [e1, e2, shl64 _ _ (by omega), h6, (or64 (by omega) (by omega)).1, Nat.or_comm, or_add h1, ofB, e3, Nat.add_comm]
def edgeSt (f : Nat → UInt8) (i : Nat) : St :=
  ⟨[none, none, none, some (XV.int .u64 (ofB f i)), none, none, some (.cv (.agg ((tabF (bytesF f) 0 8).map .raw))), some (XV.int .i64 i)] ++ List.replicate 13 none, [], 1⟩
theorem edgeOf_can (f : Nat → UInt8) : Reads Tryd.prog 47 [.plain (.agg ((tabF (bytesF f) 0 8).map .raw))] [] (XV.val (flt (ofB f 8))) := by
  refine Reads.of Tryd.T_ok Tryd.func47 rfl _ _ _ rfl rfl (fun C hC => ?_)
  (replace hC : C.n0 = 1 := hC; change Tri _ _ _ ⟨_, _, 1⟩ _)
  refine xK 2 ?_
  refine wD <| cutG <| Tri.seq ?_
  refine xK 1 ?_
  refine wD <| cutG <| Tri.block ?_
  refine Tri.loop (α := { i : Nat // i ≤ 8 }) (fun i => edgeSt f i.1) (fun i => 8 - i.1) ⟨0, Nat.zero_le _⟩ ?_ ?_
  · ((try dsimp only); exact xE [0] hC)
  rintro ⟨i, hi⟩
  dsimp only
  refine xK 2 ?_
  refine wC (fun h1 => ?_) (fun h1 => ?_)
  · (refine xG ?_)
    have h1' : i < 8 := xW
    have hw : IntKind.i64.wrap ((i : Int) + 1) = ((i + 1 : Nat) : Int) := xW
    refine wD <| cutG <| Tri.seq <| Tri.block <| xI ?_
    (refine xB ?_)
    (refine wP _ _ (index_op Tryd.T_ok (bytesF f) rfl rfl rfl rfl rfl rfl (fun _ _ => rfl) rfl (by omega) (by omega) rfl) ?_; refine xZ ?_)
    (repeat (refine wN ?_ ?_; exact xW; refine xG ?_))
    refine wD <| blockN <| cutG <| xI ?_
    (refine xB ?_)
    have hs := ofB_step f i h1'
    refine wD <| loopN ⟨⟨i + 1, h1'⟩, by dsimp only; omega, ?_⟩
    rw [hw]
    simp only [Int.toNat_natCast]
    rw [hs]
    ((try dsimp only); exact xE [0] hC)
  · (refine xG ?_)
    have h1' : i = 8 := xW
    subst h1'
    refine wD <| cutE <| loopX <| blockX <| cutG <| xI ?_
    (refine xB ?_)
    (refine wP _ _ (extern_op [.int .u64 (ofB f 8 : Int)] rfl rfl rfl _ rfl (from_run _)) ?_; refine xZ ?_)
    exact wD (Ends.plain (.inr rfl) rfl rfl)
set_option maxRecDepth 100000
open Go.Sx Go.RowKit
def rdA (l : List UInt8) : Nat → Nat → Nat
  | 0, _ => 0
  | i + 1, j => if j = i / 2 then nib (rdA l i j) (unhex (l.getD i 0)).toNat else rdA l i j
theorem rdA_lt (l : List UInt8) : ∀ i j, rdA l i j < 256
  | 0, _ => by simp [rdA]
  | i + 1, j => by
    rw [rdA]
    split
    · exact nib_lt (unhex_lt _)
    · exact rdA_lt l i j
def rdC (l : List UInt8) (i : Nat) : Nat → UInt8 := fun j => UInt8.ofNat (rdA l i j)
theorem rdC_nat (l : List UInt8) (i j : Nat) : (rdC l i j).toNat = rdA l i j := by
  rw [rdC, UInt8.toNat_ofNat']; exact Nat.mod_eq_of_lt (rdA_lt l i j)
def rdB (l : List UInt8) : Bool := decide (l.length = 16) && digs l
def rdF (l : List UInt8) : Nat → UInt8 := if rdB l = true then rdC l 16 else fun _ => 0
theorem rd_val {l : List UInt8} (h : rdB l = true) : ofB (fun j => rdF l (7 - j)) 8 = valW l := by
  rw [rdF, if_pos h]
  simp only [rdB, Bool.and_eq_true, decide_eq_true_eq] at h
  obtain ⟨h, _⟩ := h
  match l, h with
  | [c0, c1, c2, c3, c4, c5, c6, c7, c8, c9, c10, c11, c12, c13, c14, c15], _ =>
    have k0 := unhex_lt c0; have k1 := unhex_lt c1; have k2 := unhex_lt c2; have k3 := unhex_lt c3
    have k4 := unhex_lt c4; have k5 := unhex_lt c5; have k6 := unhex_lt c6; have k7 := unhex_lt c7
    have k8 := unhex_lt c8; have k9 := unhex_lt c9; have k10 := unhex_lt c10; have k11 := unhex_lt c11
    have k12 := unhex_lt c12; have k13 := unhex_lt c13; have k14 := unhex_lt c14; have k15 := unhex_lt c15
    simp [ofB, rdC_nat, rdA, valW, nib]
    omega
theorem digs_at {l : List UInt8} {i : Nat} (hi : i < l.length) (h : ¬ 0 ≤ unhex (l.getD i 0)) : digs l = false := by
  rw [digs, List.all_eq_false]
  refine ⟨l.getD i 0, ?_, by simpa using h⟩
  rw [List.getD_eq_getElem?_getD, List.getElem?_eq_getElem hi]
  exact List.getElem_mem hi
theorem digs_all {l : List UInt8} (h : ∀ i, i < l.length → 0 ≤ unhex (l.getD i 0)) : digs l = true := by
  rw [digs, List.all_eq_true]
  intro c hc
  obtain ⟨i, hi, rfl⟩ := List.getElem_of_mem hc
  have := h i hi
  rw [List.getD_eq_getElem?_getD, List.getElem?_eq_getElem hi] at this
  exact decide_eq_true this
theorem hexRow : ∀ i, i < 16 → ([u8 (hexDig.getD i 0)] : List Value) = cutF [.int .u8 48, .int .u8 49, .int .u8 50, .int .u8 51, .int .u8 52, .int .u8 53, .int .u8 54, .int .u8 55, .int .u8 56, .int .u8 57, .int .u8 97, .int .u8 98, .int .u8 99, .int .u8 100, .int .u8 101, .int .u8 102] 1 (0 + i)
  | 0, _ => rfl
  | 1, _ => rfl
  | 2, _ => rfl
  | 3, _ => rfl
  | 4, _ => rfl
  | 5, _ => rfl
  | 6, _ => rfl
  | 7, _ => rfl
  | 8, _ => rfl
  | 9, _ => rfl
  | 10, _ => rfl
  | 11, _ => rfl
  | 12, _ => rfl
  | 13, _ => rfl
  | 14, _ => rfl
  | 15, _ => rfl
  | n + 16, h => by omega
theorem byte_nat (x : UInt8) : ((x.toNat : Int)).toNat.toUInt8 = x := by simp
def readSt (l : List UInt8) (i : Nat) : St :=
  ⟨[some (XV.val (strV l)), none, some (XV.sv (.ptr 1 0 0 0)), some (XV.bool false), some (XV.sv (.ptr 3 0 0 0)), none, none, none, none, none, none, none, some (XV.int .i64 (16 : Nat)), some (XV.int .i64 i)] ++ List.replicate 24 none,
   [(1, .cells 87 ((List.replicate 8 (u8 0)).map .raw)), (3, .vec 87 1 8 (bytesF (rdC l i)))], 4⟩
theorem read_can (l : List UInt8) : Reads Tryd.prog 46 (rawsD [strV l]) [] (.tup [.agg ((tabF (bytesF (rdF l)) 0 8).map .raw), .one (.raw (.bool (rdB l)))]) := by
  refine Reads.of Tryd.T_ok Tryd.func46 rfl _ _ _ rfl rfl (fun C hC => ?_)
  (replace hC : C.n0 = 1 := hC; change Tri _ _ _ ⟨_, _, 1⟩ _)
  refine xK 2 ?_
  refine wD <| cutG <| Tri.ent (Ent.arr0 (c := 3) 1 8 (u8 0) (f := bytesF (rdC l 0)) rfl rfl rfl (by decide) rfl (by rw [hC]; decide) (fun _ _ => rfl)) ?_
  refine xK 1 ?_
  simp only [bs_size]
  refine wC (fun h1 => ?_) (fun h1 => ?_)
  · (refine xG ?_)
    have h1' : rdB l = false := by
      have : ¬ l.length = 16 := fun e => by rw [e] at h1; exact absurd h1 (by decide)
      rw [rdB, decide_eq_false this]; rfl
    refine wD <| cutR <| Ends.plain (.inr rfl) rfl ?_
    rw [rdF, h1']; rfl
  · have h1' : l.length = 16 := by
      have := bne_eq_false_iff_eq.1 h1
      omega
    (refine xG ?_)
    refine wD <| cutG <| Tri.seq ?_
    refine xK 1 ?_
    refine wD <| cutG <| Tri.block ?_
    refine Tri.loop (α := { i : Nat // i ≤ 16 ∧ ∀ k, k < i → 0 ≤ unhex (l.getD k 0) }) (fun i => readSt l i.1) (fun i => 16 - i.1) ⟨0, Nat.zero_le _, fun k hk => absurd hk (Nat.not_lt_zero k)⟩ ?_ ?_
    · simp only [bs_size, h1']
      ((try dsimp only); exact xE [0, 1, 2, 3] hC)
    rintro ⟨i, hi, ha⟩
    dsimp only
    refine xK 2 ?_
    refine wC (fun h2 => ?_) (fun h2 => ?_)
    · (refine xG ?_)
      have h2' : i < 16 := xW
      have hw : IntKind.i64.wrap ((i : Int) + 1) = ((i + 1 : Nat) : Int) := xW
      have q1 : IntKind.i64.wrap (Int.tdiv (i : Int) 2) = ((i / 2 : Nat) : Int) := by
        have : Int.tdiv (i : Int) 2 = ((i / 2 : Nat) : Int) := rfl
        rw [this]; exact xW
      refine wD <| cutG <| Tri.seq <| Tri.block <| xI ?_
      (refine xB ?_)
      (refine wP _ _ (markBytes_op Tryd.T_ok (c := 7) rfl rfl rfl rfl rfl rfl rfl (Nat.zero_lt_succ 15)) ?_; refine xZ ?_)
      refine wN ⟨by omega, by rw [bs_size]; omega⟩ ?_
      (refine xG ?_)
      refine xC rfl Tryd.func62 rfl ((byteIndex_can hexDig (bAt (bs l) i : Int) (by decide)).at [8] ⟨lend_ro (lo := 0) rfl rfl (Nat.le_refl _) hexRow, lend_plain rfl, trivial⟩ trivial) ?_
      have eb : ((bAt (bs l) i : Nat) : Int).toNat.toUInt8 = l.getD i 0 := by rw [bAt_bs, byte_nat]
      rw [eb]
      change wpN _ _ _ _ (Node.cond (decide (unhex (l.getD i 0) < 0)) _ _)
      refine wC (fun h3 => ?_) (fun h3 => ?_)
      · have hB : rdB l = false := by rw [rdB, digs_at (i := i) (by omega) (by have := of_decide_eq_true h3; omega), Bool.and_false]
        (refine xG ?_)
        refine wD <| blockR <| cutR <| loopR <| blockR <| cutR <| Ends.plain (.inr rfl) rfl ?_
        rw [rdF, hB]; rfl
      · have h3' : 0 ≤ unhex (l.getD i 0) := by have := of_decide_eq_false h3; omega
        obtain ⟨n, hn⟩ := Int.eq_ofNat_of_zero_le h3'
        have hn16 := (hx_unhex hn).1
        have es : bitI .or .u8 (shlI .u8 ((rdC l i (i / 2)).toNat : Int) 4) (IntKind.u8.wrap (Lib.indexByte hexDig (l.getD i 0))) = ((rdC l (i + 1) (i / 2)).toNat : Int) := by
          have hn' : Lib.indexByte hexDig (l.getD i 0) = n := hn
          rw [hn', nib_eq (rdC l i (i / 2)).toNat_lt hn16, rdC_nat, rdC_nat, rdA, if_pos rfl, hn]
          rfl
        (refine xG ?_)
        simp only [q1]
        (repeat (refine wN ?_ ?_; exact xW; refine xG ?_))
        simp only [Int.toNat_natCast]
        rw [es]
        refine wD <| blockN <| cutG <| xI ?_
        (refine xB ?_)
        refine wD <| loopN ⟨⟨i + 1, h2', fun k hk => ?_⟩, by dsimp only; omega, ?_⟩
        · rcases Nat.lt_or_ge k i with h | h
          · exact ha k h
          · obtain rfl : k = i := by omega
            exact h3'
        rw [hw]
        ((try dsimp only); refine Ent.renC [0, 1, 2, 3] hC ?_ ?_ <;> repeat' (first | exact trivial | exact rfl | exact ⟨_, rfl, rfl, rfl, Nat.le_refl _, fun _ _ => rfl⟩ | exact ⟨_, rfl, rfl, rfl, fun _ _ => rfl⟩ | exact ⟨_, rfl, rfl, rfl⟩ | exact ⟨_, rfl, rfl⟩ | refine ⟨_, rfl, rfl, rfl, by omega, fun k hk => ?_⟩ | refine ⟨?_, ?_⟩ | fail))
        refine (updB (rdC l i) (i / 2) k (rdC l (i + 1) (i / 2))).trans ?_
        show [u8 (if k = i / 2 then rdC l (i + 1) (i / 2) else rdC l i k)] = [u8 (rdC l (i + 1) k)]
        by_cases e : k = i / 2
        · rw [if_pos e, e]
        · rw [if_neg e]
          simp only [rdC]
          rw [rdA, if_neg e]
    · (refine xG ?_)
      have h2' : i = 16 := xW
      subst h2'
      have hB : rdB l = true := by rw [rdB, decide_eq_true h1', digs_all (fun k hk => ha k (by omega))]; rfl
      refine wD <| cutE <| loopX <| blockX <| cutG <| xI ?_
      (refine xB ?_)
      refine wD (Ends.plain (.inr rfl) rfl ?_)
      rw [rdF, hB]; rfl
def revF (f : Nat → UInt8) (i j : Nat) : UInt8 := if j < i ∨ 7 - j < i then f (7 - j) else f j
def fltSt (l : List UInt8) (f : Nat → UInt8) (i : Nat) : St :=
  ⟨[some (XV.val (strV l)), none, some (XV.val (flt 0)), some (XV.bool false), some (XV.sv (.ptr 1 0 0 0)), some (XV.bool (rdB l)), some (XV.int .i64 i), some (XV.int .i64 (7 - (i : Int)))] ++ List.replicate 35 none,
   [(1, .vec 87 1 8 (bytesF (revF f i)))], 2⟩
theorem rev_step (f : Nat → UInt8) {i k : Nat} (hi : i < 4) (hk : k < 8) : (if k = 7 - i then revF f i i else if k = i then revF f i (7 - i) else revF f i k) = revF f (i + 1) k := by
  have a1 : revF f i i = f i := by rw [revF, if_neg (by omega)]
  have a2 : revF f i (7 - i) = f (7 - i) := by rw [revF, if_neg (by omega)]
  rw [a1, a2]
  by_cases h1 : k = 7 - i
  · rw [if_pos h1, revF, if_pos (by omega)]; congr 1; omega
  · by_cases h2 : k = i
    · rw [if_neg h1, if_pos h2, revF, if_pos (by omega), h2]
    · rw [if_neg h1, if_neg h2]
      unfold revF
      by_cases h3 : k < i ∨ 7 - k < i
      · rw [if_pos h3, if_pos (by omega)]
      · rw [if_neg h3, if_neg (by omega)]
theorem rev_val (l : List UInt8) (h : l ≠ nanT) : ofB (revF (rdF l) 4) 8 = fltN l := by
  have e : ofB (revF (rdF l) 4) 8 = ofB (fun j => rdF l (7 - j)) 8 := by simp [ofB, revF]
  rw [e, fltN, if_neg h]
  by_cases hb : rdB l = true
  · have hb' := hb
    simp only [rdB, Bool.and_eq_true, decide_eq_true_eq] at hb'
    rw [if_pos hb', rd_val hb]
  · have hb' : ¬ (l.length = 16 ∧ digs l = true) := fun e => hb (by rw [rdB, decide_eq_true e.1, e.2]; rfl)
    rw [if_neg hb', rdF, if_neg hb]
    simp [ofB]
theorem fltB_of {l : List UInt8} (h : l ≠ nanT) : fltB l = (rdB l && !isNan (fltN l)) := by
  rw [fltB, if_neg h, rdB]
theorem str_is (l m : List UInt8) : decide (bs l = bs m) = decide (l = m) := by
  by_cases h : l = m
  · simp [h]
  · rw [decide_eq_false h, decide_eq_false (fun e => h (bs_inj.1 e))]
set_option maxHeartbeats 1000000 in
theorem float_can (l : List UInt8) : Reads Tryd.prog 33 (rawsD [strV l]) [] (.tup [.one (.raw (flt (fltN l))), .one (.raw (.bool (fltB l)))]) := by
  refine Reads.of Tryd.T_ok Tryd.func33 rfl _ _ _ rfl rfl (fun C hC => ?_)
  (replace hC : C.n0 = 1 := hC; change Tri _ _ _ ⟨_, _, 1⟩ _)
  refine xK 2 ?_
  change wpN _ _ _ _ (Node.cond (decide (bs l = bs nanT)) _ _)
  rw [str_is]
  refine wC (fun h1 => ?_) (fun h1 => ?_)
  · obtain rfl := of_decide_eq_true h1
    (refine xG ?_)
    refine xC rfl Tryd.func45 rfl (nan_can.at [] trivial trivial) ?_
    exact wD <| cutR <| Ends.plain (.inr rfl) rfl rfl
  · have hne : l ≠ nanT := of_decide_eq_false h1
    (refine xG ?_)
    refine wD <| cutG ?_
    refine xK 1 ?_
    refine xC rfl Tryd.func46 rfl ((read_can l).at [] (lends_raws [strV l]) trivial) ?_
    refine wD <| cutG <| Tri.ent (Ent.arrT (c := 10) 1 8 (bytesF (rdF l)) rfl rfl rfl (fun _ _ => rfl) (by decide) rfl (by rw [hC]; decide)) <| Tri.seq ?_
    refine xK 1 ?_
    refine wD <| cutG <| Tri.block ?_
    refine Tri.loop (α := { i : Nat // i ≤ 4 }) (fun i => fltSt l (rdF l) i.1) (fun i => 4 - i.1) ⟨0, Nat.zero_le _⟩ ?_ ?_
    · ((try dsimp only); exact xE [0, 10] hC)
    rintro ⟨i, hi⟩
    dsimp only
    refine xK 1 ?_
    refine wC (fun h2 => ?_) (fun h2 => ?_)
    · have h2' : i < 4 := xW
      (refine xG ?_)
      refine wD <| cutG <| Tri.seq <| Tri.block <| xI ?_
      (refine xB ?_)
      (repeat (refine wN ?_ ?_; exact xW; refine xG ?_))
      have e7 : (7 - (i : Int)).toNat = 7 - i := by omega
      simp only [Int.toNat_natCast, e7]
      refine wD <| blockN <| cutG <| xI ?_
      (refine xB ?_)
      have hw : IntKind.i64.wrap ((i : Int) + 1) = ((i + 1 : Nat) : Int) := xW
      have hw2 : IntKind.i64.wrap (7 - (i : Int) - 1) = 7 - ((i + 1 : Nat) : Int) := xW
      refine wD <| loopN ⟨⟨i + 1, h2'⟩, by dsimp only; omega, ?_⟩
      rw [hw, hw2]
      ((try dsimp only); refine Ent.renC [0, 1] hC ?_ ?_ <;> repeat' (first | exact trivial | exact rfl | exact ⟨_, rfl, rfl, rfl, Nat.le_refl _, fun _ _ => rfl⟩ | exact ⟨_, rfl, rfl, rfl, fun _ _ => rfl⟩ | exact ⟨_, rfl, rfl, rfl⟩ | exact ⟨_, rfl, rfl⟩ | refine ⟨_, rfl, rfl, rfl, by omega, fun k hk => ?_⟩ | refine ⟨?_, ?_⟩ | fail))
      rw [show updF (bytesF (revF (rdF l) i)) i 0 [u8 (revF (rdF l) i (7 - i))] = bytesF (fun k => if k = i then revF (rdF l) i (7 - i) else revF (rdF l) i k) from funext fun k => updB _ _ _ _, updB]
      show [u8 _] = [u8 _]
      congr 2
      exact rev_step (rdF l) h2' hk
    · have h2' : i = 4 := xW
      subst h2'
      (refine xG ?_)
      refine wD <| cutE <| loopX <| blockX <| cutG ?_
      refine xK 1 ?_
      refine xC rfl Tryd.func47 rfl ((edgeOf_can (revF (rdF l) 4)).at [] ⟨lend_plain rfl, trivial⟩ trivial) ?_
      rw [rev_val l hne]
      refine wD <| cutG <| xI ?_
      (refine xB ?_)
      refine wC (fun h3 => ?_) (fun h3 => ?_)
      · (refine xG ?_)
        refine xC rfl Tryd.func48 rfl ((isnan_can (fltN l)).at [] ⟨lend_plain rfl, trivial⟩ trivial) ?_
        refine wD <| Ends.plain (.inr rfl) rfl ?_
        rw [fltB_of hne, h3]; rfl
      · (refine xG ?_)
        refine wD <| Ends.plain (.inr rfl) rfl ?_
        rw [fltB_of hne, h3]; rfl
set_option maxRecDepth 100000
open Go.Sx Go.RowKit
def wordsL : List (List UInt8) := [[109, 105, 110, 101], [102, 111, 114, 107], [112, 97, 121], [102, 111, 114, 119, 97, 114, 100], [99, 114, 101, 97, 116, 101], [109, 111, 118, 101], [108, 101, 97, 118, 101], [99, 101, 114, 116, 105, 102, 121], [99, 108, 97, 105, 109], [114, 97, 119], [116, 97, 107, 101], [100, 114, 111, 112], [99, 111, 112, 121], [98, 101, 110, 100]]
theorem words_row : ∀ i, i < 14 → cutF [.string { data := #[109, 105, 110, 101] }, .string { data := #[102, 111, 114, 107] }, .string { data := #[112, 97, 121] }, .string { data := #[102, 111, 114, 119, 97, 114, 100] }, .string { data := #[99, 114, 101, 97, 116, 101] }, .string { data := #[109, 111, 118, 101] }, .string { data := #[108, 101, 97, 118, 101] }, .string { data := #[99, 101, 114, 116, 105, 102, 121] }, .string { data := #[99, 108, 97, 105, 109] }, .string { data := #[114, 97, 119] }, .string { data := #[116, 97, 107, 101] }, .string { data := #[100, 114, 111, 112] }, .string { data := #[99, 111, 112, 121] }, .string { data := #[98, 101, 110, 100] }] 1 i = strsF wordsL i
  | 0, _ => rfl
  | 1, _ => rfl
  | 2, _ => rfl
  | 3, _ => rfl
  | 4, _ => rfl
  | 5, _ => rfl
  | 6, _ => rfl
  | 7, _ => rfl
  | 8, _ => rfl
  | 9, _ => rfl
  | 10, _ => rfl
  | 11, _ => rfl
  | 12, _ => rfl
  | 13, _ => rfl
  | n + 14, h => by omega
theorem words_can : Makes Tryd.prog 31 [] [] (XV.sv (.slc 0 1 0 14)) (.vec 9 1 14 (strsF wordsL)) := by
  refine Makes.of Tryd.T_ok Tryd.func31 rfl _ _ _ _ rfl rfl rfl rfl 0 (fun C hC => xI ?_)
  (refine xB ?_)
  refine wD (Ends.made (S' := ⟨[some (XV.sv (.slc 0 1 0 14)), none], [(0, .vec 9 1 14 (strsF wordsL))], 1⟩) (.inr rfl) ?_ rfl (Nat.le_refl _) rfl)
  ((try dsimp only); refine Ent.renC [1] hC ?_ ?_ <;> repeat' (first | exact trivial | exact rfl | exact ⟨_, rfl, rfl, rfl, Nat.le_refl _, fun _ _ => rfl⟩ | exact ⟨_, rfl, rfl, rfl, fun _ _ => rfl⟩ | exact ⟨_, rfl, rfl, rfl⟩ | exact ⟨_, rfl, rfl⟩ | refine ⟨_, rfl, rfl, rfl, by omega, fun k hk => ?_⟩ | refine ⟨?_, ?_⟩ | fail))
  exact words_row k hk
theorem cut_can (s : List UInt8) (hs : s.length < 4294967281) : Makes Tryd.prog 30 (rawsD [strV s]) [] (XV.sv (.slc 0 1 0 (cutAt 32 s).length)) (.vec 9 1 (cutAt 32 s).length (strsF (cutAt 32 s))) := by
  refine Makes.of Tryd.T_ok Tryd.func30 rfl _ _ _ _ rfl rfl rfl rfl 1 (fun C hC => ?_)
  (replace hC : C.n0 = 1 := hC; change Tri _ _ _ ⟨_, _, 1⟩ _)
  refine xI ?_
  (refine xB ?_)
  refine xC rfl Tryd.func19 rfl ((split_can s 32 hs).at [] (lends_raws [strV s, strV [32]]) trivial) ?_
  refine wD (Ends.made (S' := ⟨[none, none, some (XV.sv (.slc 1 1 0 (cutAt 32 s).length)), none, none], [(1, .vec 9 1 (cutAt 32 s).length (strsF (cutAt 32 s)))], 2⟩) (.inr rfl) ?_ rfl (Nat.le_refl _) rfl)
  ((try dsimp only); exact xE [0, 3] hC)
theorem rdA_low (l : List UInt8) : ∀ i j, i ≤ 2 * j → rdA l i j = 0
  | 0, _, _ => rfl
  | i + 1, j, h => by rw [rdA, if_neg (by omega), rdA_low l i j (by omega)]
theorem rdA_hi (l : List UInt8) : ∀ i j, 2 * j + 2 ≤ i → rdA l i j = 16 * (unhex (l.getD (2 * j) 0)).toNat + (unhex (l.getD (2 * j + 1) 0)).toNat
  | 0, _, h => by omega
  | i + 1, j, h => by
    rw [rdA]
    by_cases h2 : i = 2 * j + 1
    · subst h2
      have k0 := unhex_lt (l.getD (2 * j) 0)
      rw [if_pos (by omega), rdA, if_pos (by omega), rdA_low l (2 * j) j (Nat.le_refl _)]
      simp only [nib]
      omega
    · rw [if_neg (by omega), rdA_hi l i j (by omega)]
theorem unhexs_get : ∀ (l : List UInt8) (j : Nat), 2 * j + 1 < l.length → (unhexs l).getD j 0 = UInt8.ofNat (16 * (unhex (l.getD (2 * j) 0)).toNat + (unhex (l.getD (2 * j + 1) 0)).toNat)
  | [], _, h => by simp at h
  | [_], _, h => by simp at h
  | a :: b :: r, 0, _ => by simp [unhexs]
  | a :: b :: r, j + 1, h => by
    have ih := unhexs_get r j (by simp at h; omega)
    rw [unhexs, List.getD_cons_succ, ih, show 2 * (j + 1) = 2 * j + 1 + 1 by omega]
    simp only [List.getD_cons_succ]
theorem unhexs_len : ∀ (l : List UInt8), (unhexs l).length = l.length / 2
  | [] => rfl
  | [_] => by simp [unhexs]
  | a :: b :: r => by rw [unhexs, List.length_cons, unhexs_len r]; simp only [List.length_cons]; omega
def datX (l : List UInt8) : XV := .tup [.one (.slc 0 1 0 (datN l).length), .one (.raw (.bool (datB l)))]
def datC (l : List UInt8) : Chunk := .vec 5 1 (datN l).length (rowB (datN l))
def dataSt (l : List UInt8) (i : Nat) : St :=
  ⟨[some (XV.val (strV l)), none, none, none, some (XV.sv (.slc 1 1 0 (l.length / 2)))] ++ List.replicate 17 none ++ [some (XV.int .i64 l.length), some (XV.int .i64 i)] ++ List.replicate 23 none,
   [(1, .vec 5 1 (l.length / 2) (bytesF (rdC l i)))], 2⟩
theorem dat_bad {l : List UInt8} (h : datB l = false) : datN l = [] := by
  rw [datN, h]
  split <;> rfl
theorem data_can (l : List UInt8) (hl : l.length ≤ 1000000) : Makes Tryd.prog 34 (rawsD [strV l]) [] (datX l) (datC l) := by
  refine Makes.of Tryd.T_ok Tryd.func34 rfl _ _ _ _ rfl rfl rfl rfl 1 (fun C hC => ?_)
  (replace hC : C.n0 = 1 := hC; change Tri _ _ _ ⟨_, _, 1⟩ _)
  refine xK 2 ?_
  change wpN _ _ _ _ (Node.cond (decide (bs l = bs [46])) _ _)
  rw [str_is]
  refine wC (fun h1 => ?_) (fun h1 => ?_)
  · obtain rfl := of_decide_eq_true h1
    (refine xG ?_)
    refine wD <| cutR <| Ends.made (S' := ⟨[none, none, some (XV.sv (.slc 1 1 0 0)), some (XV.bool true)] ++ List.replicate 43 none, [(1, .vec 5 1 0 (rowB []))], 2⟩) (.inr rfl) ((Ent.nils (t := 2) rfl 5 1).trans ?_) rfl (Nat.le_refl _) rfl
    ((try dsimp only); refine Ent.renC [0, 7] hC ?_ ?_ <;> repeat' (first | exact trivial | exact rfl | exact ⟨_, rfl, rfl, rfl, Nat.le_refl _, fun _ _ => rfl⟩ | exact ⟨_, rfl, rfl, rfl, fun _ _ => rfl⟩ | exact ⟨_, rfl, rfl, rfl⟩ | exact ⟨_, rfl, rfl⟩ | refine ⟨_, rfl, rfl, rfl, by omega, fun k hk => ?_⟩ | refine ⟨?_, ?_⟩ | fail))
    exact absurd hk (Nat.not_lt_zero _)
  · have h46 : l ≠ [46] := of_decide_eq_false h1
    (refine xG ?_)
    refine wD <| cutG ?_
    refine xK 1 ?_
    change wpN _ _ _ _ (Node.cond (decide (bs l = bs [])) _ _)
    rw [str_is]
    refine wC (fun h2 => ?_) (fun h2 => ?_)
    · obtain rfl := of_decide_eq_true h2
      (refine xG ?_)
      refine wD <| cutR <| Ends.made (S' := ⟨[none, none, some (XV.sv (.slc 1 1 0 0)), some (XV.bool false)] ++ List.replicate 43 none, [(1, .vec 5 1 0 (rowB []))], 2⟩) (.inr rfl) ((Ent.nils (t := 2) rfl 5 1).trans ?_) rfl (Nat.le_refl _) rfl
      ((try dsimp only); refine Ent.renC [0, 15] hC ?_ ?_ <;> repeat' (first | exact trivial | exact rfl | exact ⟨_, rfl, rfl, rfl, Nat.le_refl _, fun _ _ => rfl⟩ | exact ⟨_, rfl, rfl, rfl, fun _ _ => rfl⟩ | exact ⟨_, rfl, rfl, rfl⟩ | exact ⟨_, rfl, rfl⟩ | refine ⟨_, rfl, rfl, rfl, by omega, fun k hk => ?_⟩ | refine ⟨?_, ?_⟩ | fail))
      exact absurd hk (Nat.not_lt_zero _)
    · have hne : l ≠ [] := of_decide_eq_false h2
      (refine xG ?_)
      simp only [bs_size]
      have e2 : Int.tmod (l.length : Int) 2 = ((l.length % 2 : Nat) : Int) := rfl
      refine wC (fun h3 => ?_) (fun h3 => ?_)
      · have hodd : l.length % 2 = 1 := by rw [e2, beq_iff_eq] at h3; omega
        have hb : datB l = false := by rw [datB, decide_eq_false h46, decide_eq_true hne, decide_eq_false (by omega)]; rfl
        rw [datX, datC, dat_bad hb, hb]
        (refine xG ?_)
        refine wD <| cutR <| Ends.made (S' := ⟨[none, none, some (XV.sv (.slc 1 1 0 0)), some (XV.bool false)] ++ List.replicate 43 none, [(1, .vec 5 1 0 (rowB []))], 2⟩) (.inr rfl) ((Ent.nils (t := 2) rfl 5 1).trans ?_) rfl (Nat.le_refl _) rfl
        ((try dsimp only); refine Ent.renC [0, 15] hC ?_ ?_ <;> repeat' (first | exact trivial | exact rfl | exact ⟨_, rfl, rfl, rfl, Nat.le_refl _, fun _ _ => rfl⟩ | exact ⟨_, rfl, rfl, rfl, fun _ _ => rfl⟩ | exact ⟨_, rfl, rfl, rfl⟩ | exact ⟨_, rfl, rfl⟩ | refine ⟨_, rfl, rfl, rfl, by omega, fun k hk => ?_⟩ | refine ⟨?_, ?_⟩ | fail))
        exact absurd hk (Nat.not_lt_zero _)
      · have heven : l.length % 2 = 0 := by
          rw [e2, beq_eq_false_iff_ne] at h3; omega
        (refine xG ?_)
        refine wD <| cutG ?_
        refine xK 1 ?_
        have eh : IntKind.i64.wrap (Int.tdiv (l.length : Int) 2) = ((l.length / 2 : Nat) : Int) := by
          have : Int.tdiv (l.length : Int) 2 = ((l.length / 2 : Nat) : Int) := rfl
          rw [this]; exact xW
        simp only [bs_size, eh]
        refine wN ⟨trivial, by omega, by omega⟩ ?_
        (refine xG ?_)
        refine wD <| cutG <| Tri.seq ?_
        refine xK 1 ?_
        refine wD <| cutG <| Tri.block ?_
        simp only [bs_size, Int.toNat_natCast]
        refine Tri.loop (α := { i : Nat // i ≤ l.length ∧ ∀ k, k < i → 0 ≤ unhex (l.getD k 0) }) (fun i => dataSt l i.1) (fun i => l.length - i.1) ⟨0, Nat.zero_le _, fun k hk => absurd hk (Nat.not_lt_zero k)⟩ ?_ ?_
        · ((try dsimp only); exact xE [0, 16] hC)
        rintro ⟨i, hi, ha⟩
        dsimp only
        refine xK 2 ?_
        refine wC (fun h4 => ?_) (fun h4 => ?_)
        · (refine xG ?_)
          have h4' : i < l.length := xW
          have hw : IntKind.i64.wrap ((i : Int) + 1) = ((i + 1 : Nat) : Int) := xW
          have q1 : IntKind.i64.wrap (Int.tdiv (i : Int) 2) = ((i / 2 : Nat) : Int) := by
            have : Int.tdiv (i : Int) 2 = ((i / 2 : Nat) : Int) := rfl
            rw [this]; exact xW
          refine wD <| cutG <| Tri.seq <| Tri.block <| xI ?_
          (refine xB ?_)
          refine wN ⟨by omega, by rw [bs_size]; omega⟩ ?_
          (refine xG ?_)
          refine xC rfl Tryd.func49 rfl ((indexByte_can hexDig (bAt (bs l) i : Int)).at [] (lends_raws [strV hexDig, .int .u8 (bAt (bs l) i : Int)]) trivial) ?_
          have eb : ((bAt (bs l) i : Nat) : Int).toNat.toUInt8 = l.getD i 0 := by rw [bAt_bs, byte_nat]
          rw [eb]
          change wpN _ _ _ _ (Node.cond (decide (unhex (l.getD i 0) < 0)) _ _)
          refine wC (fun h5 => ?_) (fun h5 => ?_)
          · have hb : datB l = false := by rw [datB, decide_eq_false h46, digs_at (i := i) (by omega) (by have := of_decide_eq_true h5; omega), Bool.and_false]; rfl
            rw [datX, datC, dat_bad hb, hb]
            (refine xG ?_)
            refine wD <| blockR <| cutR <| loopR <| blockR <| cutR <| Ends.made (S' := ⟨[none, none, some (XV.sv (.slc 1 1 0 0)), some (XV.bool false)] ++ List.replicate 43 none, [(1, .vec 5 1 0 (rowB []))], 2⟩) (.inr rfl) ((Ent.nils (t := 2) rfl 5 1).trans ?_) rfl (Nat.le_refl _) rfl
            ((try dsimp only); refine Ent.renC [0, 14] hC ?_ ?_ <;> repeat' (first | exact trivial | exact rfl | exact ⟨_, rfl, rfl, rfl, Nat.le_refl _, fun _ _ => rfl⟩ | exact ⟨_, rfl, rfl, rfl, fun _ _ => rfl⟩ | exact ⟨_, rfl, rfl, rfl⟩ | exact ⟨_, rfl, rfl⟩ | refine ⟨_, rfl, rfl, rfl, by omega, fun k hk => ?_⟩ | refine ⟨?_, ?_⟩ | fail))
            exact absurd hk (Nat.not_lt_zero _)
          · have h3' : 0 ≤ unhex (l.getD i 0) := by have := of_decide_eq_false h5; omega
            obtain ⟨n, hn⟩ := Int.eq_ofNat_of_zero_le h3'
            have hn16 := (hx_unhex hn).1
            have es : bitI .or .u8 (shlI .u8 ((rdC l i (i / 2)).toNat : Int) 4) (IntKind.u8.wrap (Lib.indexByte hexDig (l.getD i 0))) = ((rdC l (i + 1) (i / 2)).toNat : Int) := by
              have hn' : Lib.indexByte hexDig (l.getD i 0) = n := hn
              rw [hn', nib_eq (rdC l i (i / 2)).toNat_lt hn16, rdC_nat, rdC_nat, rdA, if_pos rfl, hn]
              rfl
            (refine xG ?_)
            simp only [q1]
            (repeat (refine wN ?_ ?_; exact xW; refine xG ?_))
            simp only [Int.toNat_natCast, Nat.zero_add]
            rw [es]
            refine wD <| blockN <| cutG <| xI ?_
            (refine xB ?_)
            refine wD <| loopN ⟨⟨i + 1, h4', fun k hk => ?_⟩, by dsimp only; omega, ?_⟩
            · rcases Nat.lt_or_ge k i with h | h
              · exact ha k h
              · obtain rfl : k = i := by omega
                exact h3'
            rw [hw]
            ((try dsimp only); refine Ent.renC [0, 1] hC ?_ ?_ <;> repeat' (first | exact trivial | exact rfl | exact ⟨_, rfl, rfl, rfl, Nat.le_refl _, fun _ _ => rfl⟩ | exact ⟨_, rfl, rfl, rfl, fun _ _ => rfl⟩ | exact ⟨_, rfl, rfl, rfl⟩ | exact ⟨_, rfl, rfl⟩ | refine ⟨_, rfl, rfl, rfl, by omega, fun k hk => ?_⟩ | refine ⟨?_, ?_⟩ | fail))
            refine (updB (rdC l i) (i / 2) k (rdC l (i + 1) (i / 2))).trans ?_
            show [u8 (if k = i / 2 then rdC l (i + 1) (i / 2) else rdC l i k)] = [u8 (rdC l (i + 1) k)]
            by_cases e : k = i / 2
            · rw [if_pos e, e]
            · rw [if_neg e]
              simp only [rdC]
              rw [rdA, if_neg e]
        · (refine xG ?_)
          have h4' : i = l.length := xW
          subst h4'
          have hd : digs l = true := digs_all ha
          have hb : datB l = true := by rw [datB, decide_eq_false h46, decide_eq_true hne, decide_eq_true heven, hd]; rfl
          have hn : datN l = unhexs l := by rw [datN, if_neg h46, if_pos hb]
          refine wD <| cutE <| loopX <| blockX <| cutG <| xI ?_
          (refine xB ?_)
          rw [datX, datC, hb, hn, unhexs_len]
          refine wD <| Ends.made (S' := ⟨[none, none, some (XV.sv (.slc 1 1 0 (l.length / 2))), some (XV.bool true)] ++ List.replicate 43 none, [(1, .vec 5 1 (l.length / 2) (rowB (unhexs l)))], 2⟩) (.inr rfl) ?_ rfl (Nat.le_refl _) rfl
          ((try dsimp only); refine Ent.renC [0, 1] hC ?_ ?_ <;> repeat' (first | exact trivial | exact rfl | exact ⟨_, rfl, rfl, rfl, Nat.le_refl _, fun _ _ => rfl⟩ | exact ⟨_, rfl, rfl, rfl, fun _ _ => rfl⟩ | exact ⟨_, rfl, rfl, rfl⟩ | exact ⟨_, rfl, rfl⟩ | refine ⟨_, rfl, rfl, rfl, by omega, fun k hk => ?_⟩ | refine ⟨?_, ?_⟩ | fail))
          show [u8 (rdC l l.length k)] = [u8 ((unhexs l).getD k 0)]
          rw [unhexs_get l k (by omega), rdC, rdA_hi l _ _ (by omega)]
set_option maxRecDepth 100000
open Go.Sx Go.RowKit
structure ChM where
  (kd who dst side n m : Int64)
  work : UInt64
  data : List UInt8
  deriving Inhabited
def ChM.raws (c : ChM) : List Value := [i64 c.kd, i64 c.who, i64 c.dst, i64 c.side, i64 c.n, i64 c.m, flt c.work.toNat]
def doN (w : List UInt8) : Nat → Nat
  | 0 => 0
  | i + 1 => if wordsL.getD i [] = w then i + 1 else doN w i
def fld (s : List UInt8) (i : Nat) : List UInt8 := (cutAt 32 s).getD i []
def okN (s : List UInt8) : Nat → Bool
  | 0 => decide (0 < doN (fld s 0) 14)
  | i + 1 => okN s i && numB (fld s (i + 1))
def chB (s : List UInt8) : Bool := decide ((cutAt 32 s).length = 8) && (okN s 5 && fltB (fld s 6) && datB (fld s 7))
def rd64 (l : List UInt8) : Value := .int .i64 (numN l)
def chV (s : List UInt8) : List Value := [.int .i64 (doN (fld s 0) 14), rd64 (fld s 1), rd64 (fld s 2), rd64 (fld s 3), rd64 (fld s 4), rd64 (fld s 5), flt (fltN (fld s 6))]
def chD (s : List UInt8) : List UInt8 := datN (fld s 7)
def ch0V : List Value := [.int .i64 0, .int .i64 0, .int .i64 0, .int .i64 0, .int .i64 0, .int .i64 0, flt 0]
def chI (s : List UInt8) : Bool := decide ((cutAt 32 s).length = 8)
def chVs (s : List UInt8) : List Value := if chI s = true then chV s else ch0V
def chDs (s : List UInt8) : List UInt8 := if chI s = true then chD s else []
def chX (s : List UInt8) : XV := .tup [.agg ((chVs s).map .raw ++ [.ins 0 1 0 (chDs s).length]), .one (.raw (.bool (chB s)))]
def chC (s : List UInt8) : Chunk := .abs (PackP [.vec 5 1 (chDs s).length (rowB (chDs s))])
def lawM (t1 t2 : TypeId) (p1 p2 : Value) : Mem := [(1, .ext powP), (2, .ext (VarP 4 (errV t1 p1))), (3, .ext (VarP 5 (errV t2 p2)))]
def chCells (k : Int) (n1 n2 n3 n4 n5 : Int) (w : Nat) (x : SV) : Chunk := .cells 45 [.raw (.int .i64 k), .raw (.int .i64 n1), .raw (.int .i64 n2), .raw (.int .i64 n3), .raw (.int .i64 n4), .raw (.int .i64 n5), .raw (flt w), x]
def chSt1 (s : List UInt8) (t1 t2 : TypeId) (p1 p2 : Value) (i : Nat) : St :=
  ⟨[none, none, some (XV.sv (.ptr 4 0 0 0)), some (XV.bool false), some (XV.sv (.slc 5 1 0 8)), some (XV.sv (.ptr 6 0 0 0))] ++ List.replicate 17 none ++ [some (XV.sv (.slc 7 1 0 14)), some (XV.int .i64 14), some (XV.int .i64 i)] ++ List.replicate 71 none,
   lawM t1 t2 p1 p2 ++ [(4, chCells 0 0 0 0 0 0 0 (.raw (.slice none 0 0))), (5, .vec 9 1 8 (strsF (cutAt 32 s))), (6, chCells (doN (fld s 0) i) 0 0 0 0 0 0 (.raw (.slice none 0 0))), (7, .vec 9 1 14 (strsF wordsL))], 8⟩
def nAt (s : List UInt8) (i k : Nat) : Int := if k ≤ i then numN (fld s k) else 0
def chSt2 (s : List UInt8) (t1 t2 : TypeId) (p1 p2 : Value) (i : Nat) : St :=
  ⟨[none, none, some (XV.sv (.ptr 4 0 0 0)), some (XV.bool false), some (XV.sv (.slc 5 1 0 8)), some (XV.sv (.ptr 6 0 0 0)), none, none, some (XV.bool (okN s i))] ++ List.replicate 38 none ++ [some (XV.sv (.slc 7 1 0 5)), some (XV.int .i64 5), some (XV.int .i64 i)] ++ List.replicate 47 none,
   lawM t1 t2 p1 p2 ++ [(4, chCells 0 0 0 0 0 0 0 (.raw (.slice none 0 0))), (5, .vec 9 1 8 (strsF (cutAt 32 s))), (6, chCells (doN (fld s 0) 14) (nAt s i 1) (nAt s i 2) (nAt s i 3) (nAt s i 4) (nAt s i 5) 0 (.raw (.slice none 0 0))), (7, .cells 73 [.ptr 6 0 0 1, .ptr 6 0 0 2, .ptr 6 0 0 3, .ptr 6 0 0 4, .ptr 6 0 0 5])], 8⟩
theorem chX_ok (s : List UInt8) : (chX s).ok (fun j => Nat.beq 0 j) = true := by simp [chX, XV.ok, CV.ok, SV.ok, Nat.beq]
theorem cutAt_len (c : UInt8) : ∀ l, ∀ p ∈ cutAt c l, p.length ≤ l.length
  | [], p, hp => by simp [cutAt] at hp; subst hp; exact Nat.le_refl _
  | x :: r, p, hp => by
    simp only [cutAt] at hp
    split at hp
    · rcases List.mem_cons.1 hp with rfl | hp
      · simp
      · exact Nat.le_succ_of_le (cutAt_len c r p hp)
    · split at hp
      · rename_i hc; exact absurd hc (cutAt_ne c r)
      · rename_i p' q hc
        have ih := cutAt_len c r
        rw [hc] at ih
        rcases List.mem_cons.1 hp with rfl | hp
        · simpa using ih p' (by simp)
        · exact Nat.le_succ_of_le (ih p (by simp [hp]))
theorem fld_len (s : List UInt8) (i : Nat) : (fld s i).length ≤ s.length := by
  rw [fld, List.getD_eq_getElem?_getD]
  cases h : (cutAt 32 s)[i]? with
  | none => simp
  | some p => exact cutAt_len 32 s p (List.mem_of_getElem? h)
theorem fld_le {s : List UInt8} (hs : s.length ≤ 300000) (i : Nat) : (fld s i).length ≤ 281474976710656 := by have := fld_len s i; omega
set_option maxHeartbeats 4000000 in
theorem choice_can (s : List UInt8) (hs : s.length ≤ 300000) {t1 t2 : TypeId} {p1 p2 : Value} : Makes Tryd.prog 20 (rawsD [strV s]) (lawsP t1 p1 t2 p2) (chX s) (chC s) := by
  refine Makes.of Tryd.T_ok Tryd.func20 rfl _ _ _ _ rfl rfl rfl (chX_ok s) 4 (fun C hC => ?_)
  (replace hC : C.n0 = 4 := hC; change Tri _ _ _ ⟨_, _, 4⟩ _)
  refine xK 2 ?_
  refine xC rfl Tryd.func30 rfl ((cut_can s (by omega)).at [] (lends_raws [strV s]) trivial) ?_
  refine wD <| cutG ?_
  refine xK 1 ?_
  refine wC (fun h1 => ?_) (fun h1 => ?_)
  · (refine xG ?_)
    have hI : chI s = false := by
      have : ¬ (cutAt 32 s).length = 8 := fun e => by rw [e] at h1; exact absurd h1 (by decide)
      exact decide_eq_false this
    have hB : chB s = false := by rw [chB, show decide ((cutAt 32 s).length = 8) = false from hI, Bool.false_and]
    have hV : chVs s = ch0V := by rw [chVs, hI]; rfl
    have hD : chDs s = [] := by rw [chDs, hI]; rfl
    rw [chX, chC, hB, hV, hD]
    refine wD <| cutR <| Ends.made (S' := ⟨[none, none, some (XV.sv (.ptr 5 0 0 0)), some (XV.bool false)] ++ List.replicate 93 none, [(4, .abs (PackP [.vec 5 1 0 (rowB [])])), (5, .cells 45 (ch0V.map .raw ++ [.ins 4 1 0 0]))], 6⟩) (.inr rfl)
      ((Ent.nilc (c := 4) (j := 7) rfl rfl 5 1).trans <| (Ent.pack2 [15] [.vec 5 1 0 (rowB [])] (by decide) rfl rfl ?_).trans ?_) rfl (Nat.le_refl _) rfl
    · intro j i ch hj hl
      match j, hj, hl with
      | 0, hj, hl => simp at hj hl; subst hj hl; exact ⟨_, rfl, rfl, rfl, Nat.le_refl _, fun i hi => absurd hi (Nat.not_lt_zero _)⟩
      | j + 1, hj, _ => simp at hj
    · ((try dsimp only); exact xE [0, 1, 2, 3, 16, 4] hC)
  · have h8 : (cutAt 32 s).length = 8 := by
      have := bne_eq_false_iff_eq.1 h1
      omega
    (refine xG ?_)
    simp only [h8]
    refine wD <| cutG ?_
    refine xK 1 ?_
    refine wD <| cutG <| Tri.seq ?_
    refine xK 1 ?_
    refine xC rfl Tryd.func31 rfl (words_can.at [] trivial trivial) ?_
    refine wD <| cutG <| Tri.block ?_
    refine Tri.loop (α := { i : Nat // i ≤ 14 }) (fun i => chSt1 s t1 t2 p1 p2 i.1) (fun i => 14 - i.1) ⟨0, Nat.zero_le _⟩ ?_ ?_
    · ((try dsimp only); exact xE [0, 1, 2, 3, 4, 7, 12, 13] hC)
    rintro ⟨i, hi⟩
    dsimp only
    refine xK 2 ?_
    refine wC (fun h2 => ?_) (fun h2 => ?_)
    · have h2' : i < 14 := xW
      (refine xG ?_)
      have hw : IntKind.i64.wrap ((i : Int) + 1) = ((i + 1 : Nat) : Int) := xW
      refine wD <| cutG <| Tri.seq <| Tri.block <| xI ?_
      (refine xB ?_)
      (repeat (refine wN ?_ ?_; exact xW; refine xG ?_))
      simp only [Nat.zero_add, Int.toNat_natCast]
      change wpN _ _ _ _ (Node.cond (decide (bs (wordsL.getD i []) = bs (fld s 0))) _ _)
      rw [str_is]
      refine wC (fun h3 => ?_) (fun h3 => ?_)
      · have hs' : doN (fld s 0) (i + 1) = i + 1 := by rw [doN, if_pos (of_decide_eq_true h3)]
        (refine xG ?_)
        simp only [hw]
        refine wD <| blockN <| cutG <| xI ?_
        (refine xB ?_)
        refine wD <| loopN ⟨⟨i + 1, h2'⟩, by dsimp only; omega, ?_⟩
        rw [hw]
        ((try dsimp only); refine Ent.renC [0, 1, 2, 3, 4, 5, 6, 7] hC ?_ ?_ <;> repeat' (first | exact trivial | exact rfl | exact ⟨_, rfl, rfl, rfl, Nat.le_refl _, fun _ _ => rfl⟩ | exact ⟨_, rfl, rfl, rfl, fun _ _ => rfl⟩ | exact ⟨_, rfl, rfl, rfl⟩ | exact ⟨_, rfl, rfl⟩ | refine ⟨_, rfl, rfl, rfl, by omega, fun k hk => ?_⟩ | refine ⟨?_, ?_⟩ | fail))
        rw [hs']; rfl
      · have hs' : doN (fld s 0) (i + 1) = doN (fld s 0) i := by rw [doN, if_neg (of_decide_eq_false h3)]
        (refine xG ?_)
        refine wD <| blockN <| cutG <| xI ?_
        (refine xB ?_)
        refine wD <| loopN ⟨⟨i + 1, h2'⟩, by dsimp only; omega, ?_⟩
        rw [hw]
        ((try dsimp only); refine Ent.renC [0, 1, 2, 3, 4, 5, 6, 7] hC ?_ ?_ <;> repeat' (first | exact trivial | exact rfl | exact ⟨_, rfl, rfl, rfl, Nat.le_refl _, fun _ _ => rfl⟩ | exact ⟨_, rfl, rfl, rfl, fun _ _ => rfl⟩ | exact ⟨_, rfl, rfl, rfl⟩ | exact ⟨_, rfl, rfl⟩ | refine ⟨_, rfl, rfl, rfl, by omega, fun k hk => ?_⟩ | refine ⟨?_, ?_⟩ | fail))
        rw [hs']; rfl
    · have h2' : i = 14 := xW
      subst h2'
      (refine xG ?_)
      refine wD <| cutE <| loopX <| blockX <| cutG ?_
      refine xK 1 ?_
      refine wD <| cutG <| Tri.seq ?_
      refine xK 1 ?_
      (refine wP _ _ (boxSlice_op Tryd.T_ok rfl rfl rfl) ?_; refine xZ ?_)
      refine wD <| cutG <| Tri.block ?_
      refine Tri.loop (α := { i : Nat // i ≤ 5 }) (fun i => chSt2 s t1 t2 p1 p2 i.1) (fun i => 5 - i.1) ⟨0, Nat.zero_le _⟩ ?_ ?_
      · ((try dsimp only); refine Ent.renC [0, 1, 2, 3, 4, 5, 6, 18] hC ?_ ?_ <;> repeat' (first | exact trivial | exact rfl | exact ⟨_, rfl, rfl, rfl, Nat.le_refl _, fun _ _ => rfl⟩ | exact ⟨_, rfl, rfl, rfl, fun _ _ => rfl⟩ | exact ⟨_, rfl, rfl, rfl⟩ | exact ⟨_, rfl, rfl⟩ | refine ⟨_, rfl, rfl, rfl, by omega, fun k hk => ?_⟩ | refine ⟨?_, ?_⟩ | fail))
        exact congrArg (fun b => some (XV.bool b)) (show decide ((0 : Int) < doN (fld s 0) 14) = okN s 0 by rw [okN]; exact decide_eq_decide.2 (by omega))
      rintro ⟨i, hi⟩
      have he : i = 0 ∨ i = 1 ∨ i = 2 ∨ i = 3 ∨ i = 4 ∨ i = 5 := by omega
      rcases he with rfl | rfl | rfl | rfl | rfl | rfl
      · dsimp only
        refine xK 2 ?_
        (repeat (refine wN ?_ ?_; exact xW; refine xG ?_))
        refine wD <| cutG <| Tri.seq <| Tri.block <| xI ?_
        (refine xB ?_)
        (repeat (refine wN ?_ ?_; exact xW; refine xG ?_))
        refine xC rfl Tryd.func32 rfl ((number_can (fld s 1) (fld_le hs 1)).at [1, 2, 3] (lends_raws [strV (fld s 1)]) ⟨lend_ext (c := 1) rfl rfl, lend_ext (c := 2) rfl rfl, lend_ext (c := 3) rfl rfl, trivial⟩) ?_
        refine wC (fun hk => ?_) (fun hk => ?_)
        · have ho : okN s 1 = numB (fld s 1) := by rw [okN, hk, Bool.true_and]
          (refine xG ?_)
          refine wD <| blockN <| cutG <| xI ?_
          (refine xB ?_)
          refine wD <| loopN ⟨⟨1, by decide⟩, by dsimp only; omega, ?_⟩
          ((try dsimp only); refine Ent.renC [0, 1, 2, 3, 4, 5, 6, 7] hC ?_ ?_ <;> repeat' (first | exact trivial | exact rfl | exact ⟨_, rfl, rfl, rfl, Nat.le_refl _, fun _ _ => rfl⟩ | exact ⟨_, rfl, rfl, rfl, fun _ _ => rfl⟩ | exact ⟨_, rfl, rfl, rfl⟩ | exact ⟨_, rfl, rfl⟩ | refine ⟨_, rfl, rfl, rfl, by omega, fun k hk => ?_⟩ | refine ⟨?_, ?_⟩ | fail))
          rw [ho]; rfl
        · have ho : okN s 1 = false := by rw [okN, hk, Bool.false_and]
          (refine xG ?_)
          refine wD <| blockN <| cutG <| xI ?_
          (refine xB ?_)
          refine wD <| loopN ⟨⟨1, by decide⟩, by dsimp only; omega, ?_⟩
          ((try dsimp only); refine Ent.renC [0, 1, 2, 3, 4, 5, 6, 7] hC ?_ ?_ <;> repeat' (first | exact trivial | exact rfl | exact ⟨_, rfl, rfl, rfl, Nat.le_refl _, fun _ _ => rfl⟩ | exact ⟨_, rfl, rfl, rfl, fun _ _ => rfl⟩ | exact ⟨_, rfl, rfl, rfl⟩ | exact ⟨_, rfl, rfl⟩ | refine ⟨_, rfl, rfl, rfl, by omega, fun k hk => ?_⟩ | refine ⟨?_, ?_⟩ | fail))
          rw [ho]; rfl
      · dsimp only
        refine xK 2 ?_
        (repeat (refine wN ?_ ?_; exact xW; refine xG ?_))
        refine wD <| cutG <| Tri.seq <| Tri.block <| xI ?_
        (refine xB ?_)
        (repeat (refine wN ?_ ?_; exact xW; refine xG ?_))
        refine xC rfl Tryd.func32 rfl ((number_can (fld s 2) (fld_le hs 2)).at [1, 2, 3] (lends_raws [strV (fld s 2)]) ⟨lend_ext (c := 1) rfl rfl, lend_ext (c := 2) rfl rfl, lend_ext (c := 3) rfl rfl, trivial⟩) ?_
        refine wC (fun hk => ?_) (fun hk => ?_)
        · have ho : okN s 2 = numB (fld s 2) := by rw [okN, hk, Bool.true_and]
          (refine xG ?_)
          refine wD <| blockN <| cutG <| xI ?_
          (refine xB ?_)
          refine wD <| loopN ⟨⟨2, by decide⟩, by dsimp only; omega, ?_⟩
          ((try dsimp only); refine Ent.renC [0, 1, 2, 3, 4, 5, 6, 7] hC ?_ ?_ <;> repeat' (first | exact trivial | exact rfl | exact ⟨_, rfl, rfl, rfl, Nat.le_refl _, fun _ _ => rfl⟩ | exact ⟨_, rfl, rfl, rfl, fun _ _ => rfl⟩ | exact ⟨_, rfl, rfl, rfl⟩ | exact ⟨_, rfl, rfl⟩ | refine ⟨_, rfl, rfl, rfl, by omega, fun k hk => ?_⟩ | refine ⟨?_, ?_⟩ | fail))
          rw [ho]; rfl
        · have ho : okN s 2 = false := by rw [okN, hk, Bool.false_and]
          (refine xG ?_)
          refine wD <| blockN <| cutG <| xI ?_
          (refine xB ?_)
          refine wD <| loopN ⟨⟨2, by decide⟩, by dsimp only; omega, ?_⟩
          ((try dsimp only); refine Ent.renC [0, 1, 2, 3, 4, 5, 6, 7] hC ?_ ?_ <;> repeat' (first | exact trivial | exact rfl | exact ⟨_, rfl, rfl, rfl, Nat.le_refl _, fun _ _ => rfl⟩ | exact ⟨_, rfl, rfl, rfl, fun _ _ => rfl⟩ | exact ⟨_, rfl, rfl, rfl⟩ | exact ⟨_, rfl, rfl⟩ | refine ⟨_, rfl, rfl, rfl, by omega, fun k hk => ?_⟩ | refine ⟨?_, ?_⟩ | fail))
          rw [ho]; rfl
      · dsimp only
        refine xK 2 ?_
        (repeat (refine wN ?_ ?_; exact xW; refine xG ?_))
        refine wD <| cutG <| Tri.seq <| Tri.block <| xI ?_
        (refine xB ?_)
        (repeat (refine wN ?_ ?_; exact xW; refine xG ?_))
        refine xC rfl Tryd.func32 rfl ((number_can (fld s 3) (fld_le hs 3)).at [1, 2, 3] (lends_raws [strV (fld s 3)]) ⟨lend_ext (c := 1) rfl rfl, lend_ext (c := 2) rfl rfl, lend_ext (c := 3) rfl rfl, trivial⟩) ?_
        refine wC (fun hk => ?_) (fun hk => ?_)
        · have ho : okN s 3 = numB (fld s 3) := by rw [okN, hk, Bool.true_and]
          (refine xG ?_)
          refine wD <| blockN <| cutG <| xI ?_
          (refine xB ?_)
          refine wD <| loopN ⟨⟨3, by decide⟩, by dsimp only; omega, ?_⟩
          ((try dsimp only); refine Ent.renC [0, 1, 2, 3, 4, 5, 6, 7] hC ?_ ?_ <;> repeat' (first | exact trivial | exact rfl | exact ⟨_, rfl, rfl, rfl, Nat.le_refl _, fun _ _ => rfl⟩ | exact ⟨_, rfl, rfl, rfl, fun _ _ => rfl⟩ | exact ⟨_, rfl, rfl, rfl⟩ | exact ⟨_, rfl, rfl⟩ | refine ⟨_, rfl, rfl, rfl, by omega, fun k hk => ?_⟩ | refine ⟨?_, ?_⟩ | fail))
          rw [ho]; rfl
        · have ho : okN s 3 = false := by rw [okN, hk, Bool.false_and]
          (refine xG ?_)
          refine wD <| blockN <| cutG <| xI ?_
          (refine xB ?_)
          refine wD <| loopN ⟨⟨3, by decide⟩, by dsimp only; omega, ?_⟩
          ((try dsimp only); refine Ent.renC [0, 1, 2, 3, 4, 5, 6, 7] hC ?_ ?_ <;> repeat' (first | exact trivial | exact rfl | exact ⟨_, rfl, rfl, rfl, Nat.le_refl _, fun _ _ => rfl⟩ | exact ⟨_, rfl, rfl, rfl, fun _ _ => rfl⟩ | exact ⟨_, rfl, rfl, rfl⟩ | exact ⟨_, rfl, rfl⟩ | refine ⟨_, rfl, rfl, rfl, by omega, fun k hk => ?_⟩ | refine ⟨?_, ?_⟩ | fail))
          rw [ho]; rfl
      · dsimp only
        refine xK 2 ?_
        (repeat (refine wN ?_ ?_; exact xW; refine xG ?_))
        refine wD <| cutG <| Tri.seq <| Tri.block <| xI ?_
        (refine xB ?_)
        (repeat (refine wN ?_ ?_; exact xW; refine xG ?_))
        refine xC rfl Tryd.func32 rfl ((number_can (fld s 4) (fld_le hs 4)).at [1, 2, 3] (lends_raws [strV (fld s 4)]) ⟨lend_ext (c := 1) rfl rfl, lend_ext (c := 2) rfl rfl, lend_ext (c := 3) rfl rfl, trivial⟩) ?_
        refine wC (fun hk => ?_) (fun hk => ?_)
        · have ho : okN s 4 = numB (fld s 4) := by rw [okN, hk, Bool.true_and]
          (refine xG ?_)
          refine wD <| blockN <| cutG <| xI ?_
          (refine xB ?_)
          refine wD <| loopN ⟨⟨4, by decide⟩, by dsimp only; omega, ?_⟩
          ((try dsimp only); refine Ent.renC [0, 1, 2, 3, 4, 5, 6, 7] hC ?_ ?_ <;> repeat' (first | exact trivial | exact rfl | exact ⟨_, rfl, rfl, rfl, Nat.le_refl _, fun _ _ => rfl⟩ | exact ⟨_, rfl, rfl, rfl, fun _ _ => rfl⟩ | exact ⟨_, rfl, rfl, rfl⟩ | exact ⟨_, rfl, rfl⟩ | refine ⟨_, rfl, rfl, rfl, by omega, fun k hk => ?_⟩ | refine ⟨?_, ?_⟩ | fail))
          rw [ho]; rfl
        · have ho : okN s 4 = false := by rw [okN, hk, Bool.false_and]
          (refine xG ?_)
          refine wD <| blockN <| cutG <| xI ?_
          (refine xB ?_)
          refine wD <| loopN ⟨⟨4, by decide⟩, by dsimp only; omega, ?_⟩
          ((try dsimp only); refine Ent.renC [0, 1, 2, 3, 4, 5, 6, 7] hC ?_ ?_ <;> repeat' (first | exact trivial | exact rfl | exact ⟨_, rfl, rfl, rfl, Nat.le_refl _, fun _ _ => rfl⟩ | exact ⟨_, rfl, rfl, rfl, fun _ _ => rfl⟩ | exact ⟨_, rfl, rfl, rfl⟩ | exact ⟨_, rfl, rfl⟩ | refine ⟨_, rfl, rfl, rfl, by omega, fun k hk => ?_⟩ | refine ⟨?_, ?_⟩ | fail))
          rw [ho]; rfl
      · dsimp only
        refine xK 2 ?_
        (repeat (refine wN ?_ ?_; exact xW; refine xG ?_))
        refine wD <| cutG <| Tri.seq <| Tri.block <| xI ?_
        (refine xB ?_)
        (repeat (refine wN ?_ ?_; exact xW; refine xG ?_))
        refine xC rfl Tryd.func32 rfl ((number_can (fld s 5) (fld_le hs 5)).at [1, 2, 3] (lends_raws [strV (fld s 5)]) ⟨lend_ext (c := 1) rfl rfl, lend_ext (c := 2) rfl rfl, lend_ext (c := 3) rfl rfl, trivial⟩) ?_
        refine wC (fun hk => ?_) (fun hk => ?_)
        · have ho : okN s 5 = numB (fld s 5) := by rw [okN, hk, Bool.true_and]
          (refine xG ?_)
          refine wD <| blockN <| cutG <| xI ?_
          (refine xB ?_)
          refine wD <| loopN ⟨⟨5, by decide⟩, by dsimp only; omega, ?_⟩
          ((try dsimp only); refine Ent.renC [0, 1, 2, 3, 4, 5, 6, 7] hC ?_ ?_ <;> repeat' (first | exact trivial | exact rfl | exact ⟨_, rfl, rfl, rfl, Nat.le_refl _, fun _ _ => rfl⟩ | exact ⟨_, rfl, rfl, rfl, fun _ _ => rfl⟩ | exact ⟨_, rfl, rfl, rfl⟩ | exact ⟨_, rfl, rfl⟩ | refine ⟨_, rfl, rfl, rfl, by omega, fun k hk => ?_⟩ | refine ⟨?_, ?_⟩ | fail))
          rw [ho]; rfl
        · have ho : okN s 5 = false := by rw [okN, hk, Bool.false_and]
          (refine xG ?_)
          refine wD <| blockN <| cutG <| xI ?_
          (refine xB ?_)
          refine wD <| loopN ⟨⟨5, by decide⟩, by dsimp only; omega, ?_⟩
          ((try dsimp only); refine Ent.renC [0, 1, 2, 3, 4, 5, 6, 7] hC ?_ ?_ <;> repeat' (first | exact trivial | exact rfl | exact ⟨_, rfl, rfl, rfl, Nat.le_refl _, fun _ _ => rfl⟩ | exact ⟨_, rfl, rfl, rfl, fun _ _ => rfl⟩ | exact ⟨_, rfl, rfl, rfl⟩ | exact ⟨_, rfl, rfl⟩ | refine ⟨_, rfl, rfl, rfl, by omega, fun k hk => ?_⟩ | refine ⟨?_, ?_⟩ | fail))
          rw [ho]; rfl
      · dsimp only
        refine xK 2 ?_
        refine wD <| cutE <| loopX <| blockX <| cutG ?_
        refine xK 2 ?_
        refine xC rfl Tryd.func33 rfl ((float_can (fld s 6)).at [] (lends_raws [strV (fld s 6)]) trivial) ?_
        refine xC rfl Tryd.func34 rfl ((data_can (fld s 7) (by have := fld_len s 7; omega)).at [] (lends_raws [strV (fld s 7)]) trivial) ?_
        refine wD <| cutG <| xI ?_
        (refine xB ?_)
        have hI : chI s = true := decide_eq_true h8
        have hV : chVs s = chV s := by rw [chVs, hI]; rfl
        have hD : chDs s = datN (fld s 7) := by rw [chDs, hI]; rfl
        have hB : chB s = (okN s 5 && fltB (fld s 6) && datB (fld s 7)) := by rw [chB, show decide ((cutAt 32 s).length = 8) = true from hI, Bool.true_and]
        refine wC (fun hk => ?_) (fun hk => ?_)
        · (refine xG ?_)
          refine wC (fun hf => ?_) (fun hf => ?_)
          · (refine xG ?_)
            rw [chX, chC, hV, hD, hB, hk, hf, Bool.true_and, Bool.true_and]
            refine wD <| Ends.made (S' := ⟨[none, none, some (XV.sv (.ptr 5 0 0 0)), some (XV.bool (datB (fld s 7)))] ++ List.replicate 93 none, [(4, .abs (PackP [.vec 5 1 (datN (fld s 7)).length (rowB (datN (fld s 7)))])), (5, .cells 45 ((chV s).map .raw ++ [.ins 4 1 0 (datN (fld s 7)).length]))], 6⟩) (.inr rfl)
              ((Ent.pack2 [21] [.vec 5 1 (datN (fld s 7)).length (rowB (datN (fld s 7)))] (by decide) rfl rfl ?_).trans ?_) rfl (Nat.le_refl _) rfl
            · intro j i ch hj hl
              match j, hj, hl with
              | 0, hj, hl => simp at hj hl; subst hj hl; exact ⟨_, rfl, rfl, rfl, Nat.le_refl _, fun i hi => rfl⟩
              | j + 1, hj, _ => simp at hj
            · ((try dsimp only); exact xE [0, 1, 2, 3, 43, 4] hC)
          · (refine xG ?_)
            rw [chX, chC, hV, hD, hB, hk, hf, Bool.true_and, Bool.false_and]
            refine wD <| Ends.made (S' := ⟨[none, none, some (XV.sv (.ptr 5 0 0 0)), some (XV.bool false)] ++ List.replicate 93 none, [(4, .abs (PackP [.vec 5 1 (datN (fld s 7)).length (rowB (datN (fld s 7)))])), (5, .cells 45 ((chV s).map .raw ++ [.ins 4 1 0 (datN (fld s 7)).length]))], 6⟩) (.inr rfl)
              ((Ent.pack2 [21] [.vec 5 1 (datN (fld s 7)).length (rowB (datN (fld s 7)))] (by decide) rfl rfl ?_).trans ?_) rfl (Nat.le_refl _) rfl
            · intro j i ch hj hl
              match j, hj, hl with
              | 0, hj, hl => simp at hj hl; subst hj hl; exact ⟨_, rfl, rfl, rfl, Nat.le_refl _, fun i hi => rfl⟩
              | j + 1, hj, _ => simp at hj
            · ((try dsimp only); exact xE [0, 1, 2, 3, 43, 4] hC)
        · (refine xG ?_)
          rw [chX, chC, hV, hD, hB, hk, Bool.false_and, Bool.false_and]
          refine wD <| Ends.made (S' := ⟨[none, none, some (XV.sv (.ptr 5 0 0 0)), some (XV.bool false)] ++ List.replicate 93 none, [(4, .abs (PackP [.vec 5 1 (datN (fld s 7)).length (rowB (datN (fld s 7)))])), (5, .cells 45 ((chV s).map .raw ++ [.ins 4 1 0 (datN (fld s 7)).length]))], 6⟩) (.inr rfl)
            ((Ent.pack2 [21] [.vec 5 1 (datN (fld s 7)).length (rowB (datN (fld s 7)))] (by decide) rfl rfl ?_).trans ?_) rfl (Nat.le_refl _) rfl
          · intro j i ch hj hl
            match j, hj, hl with
            | 0, hj, hl => simp at hj hl; subst hj hl; exact ⟨_, rfl, rfl, rfl, Nat.le_refl _, fun i hi => rfl⟩
            | j + 1, hj, _ => simp at hj
          · ((try dsimp only); exact xE [0, 1, 2, 3, 43, 4] hC)
end Go.Proofs.YtdeodhahkjgfiaaDoor

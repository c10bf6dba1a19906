/- Parts Hh Hi Hj. -/
import Derived.Test.YtmoohekgheoliaaGreatDoorG14
set_option linter.unusedSimpArgs false
set_option linter.unusedVariables false
namespace Go.Proofs.YtmoohekgheoliaaGreatDoor
set_option maxRecDepth 100000
open Go.Sx
def rowsL (bss : List (List UInt8)) : List (Nat × (Nat → List Value)) := bss.map fun b => (b.length, rowB b)
theorem lend_parts {M : Mem} {rd : List Nat} {c e : Nat} {cs : List SV} (bss : List (List UInt8)) (hm : M.get c = some (.cells e cs)) (hrd : nmem c rd = true) (hn : cs.length = bss.length) (ha : AllRows M rd 1 cs (rowsL bss)) : Lends M rd (.one (.slc c 1 0 bss.length)) (partsA bss) := by
  refine lend_rows (rowsL bss) hm hrd hn ha (fun i x hx => ?_)
  rw [rowsL, List.getElem?_map] at hx
  cases hb : bss[i]? with
  | none => rw [hb] at hx; cases hx
  | some b =>
    rw [hb] at hx
    simp only [Option.map_some, Option.some.injEq] at hx
    subst hx
    simp [List.getD_eq_getElem?_getD, hb]
theorem lend_vecN {M : Mem} {rd : List Nat} {c e sz n lo k k' : Nat} {f g : Nat → List Value} (hkk : k' = k) (hm : M.get c = some (.vec e sz n f)) (hrd : nmem c rd = true) (hk : lo + k ≤ n) (hg : ∀ i, i < k → g i = f (lo + i)) : Lends M rd (.one (.slc c sz lo k')) (.row sz k g) := by
  subst hkk; exact lend_vec hm hrd hk hg
theorem H8.l_len (h : H8) : h.l.length = 8 := rfl
theorem short1 (p : UInt8) (a : List UInt8) (h : a.length ≤ 900000000) : Short (encAll p [a]) := by
  show (encN p [a] 1).length ≤ _
  rw [encN_length]
  show [p].length + 4 + a.length ≤ _
  simp; omega
theorem short2 (p : UInt8) (a b : List UInt8) (h : a.length + b.length ≤ 900000000) : Short (encAll p [a, b]) := by
  show (encN p [a, b] 2).length ≤ _
  rw [encN_length, encN_length]
  show [p].length + 4 + a.length + 4 + b.length ≤ _
  simp; omega
def leafH (h : H8) : H8 := dig 108 [h.l]
def joinH (a b : H8) : H8 := dig 109 [a.l, b.l]
def markH (h : H8) : H8 := dig 112 [h.l]
abbrev H8.x (h : H8) : CV := .agg (h.cells.map .raw)
def hashX (h : H8) : XV := .cv h.x
theorem ptwo_can (p : UInt8) (a b : H8) : Reads Tryz.prog 152 [.plain (.one (.raw (u8 p))), .plain a.x, .plain b.x] [stepsP] (hashX (dig p [a.l, b.l])) := by
  refine Reads.of Tryz.T_ok Tryz.func152 rfl _ _ _ rfl rfl (fun C hC => ?_)
  (replace hC : C.n0 = 4 := hC; change Tri _ _ _ ⟨_, _, 4⟩ _)
  refine Tri.of Tryz.mixed Tryz.T_ok ?_
  (refine wBegin ?_; ((conv => arg 5; whnf); repeat ((with_reducible first | refine xT ?_ | refine xF ?_ | refine xO ?_ | refine xN ?_ | refine xU ?_ | refine xV ?_); conv => arg 5; whnf)))
  (refine wP _ _ (cellsNew_op Tryz.T_ok rfl rfl rfl) ?_; ((conv => arg 5; whnf); repeat ((with_reducible first | refine xT ?_ | refine xF ?_ | refine xO ?_ | refine xN ?_ | refine xU ?_ | refine xV ?_); conv => arg 5; whnf)))
  (apply wP; exact (call_op rfl (entersB_of Tryz.func96 (by kernel_rfl)) rfl ((of_can p [a.l, b.l] (short2 _ _ _ (by simp [H8.l_len]))).at [10, 4, 5, 3] ⟨lend_plain rfl, lend_parts [a.l, b.l] rfl rfl rfl ⟨lend_sla rfl rfl (fun _ _ => rfl) rfl, lend_sla rfl rfl (fun _ _ => rfl) rfl, trivial⟩, trivial⟩ ⟨lend_ext (c := 3) rfl rfl, trivial⟩)); ((conv => arg 5; whnf); repeat ((with_reducible first | refine xT ?_ | refine xF ?_ | refine xO ?_ | refine xN ?_ | refine xU ?_ | refine xV ?_); conv => arg 5; whnf)))
  exact wD (Ends.plain (.inr rfl) rfl rfl)
theorem rtwo_can (p : UInt8) (a b : H8) : Reads Tryz.prog 119 [.plain (.one (.raw (u8 p))), .plain a.x, .plain b.x] [] (hashX (dig p [a.l, b.l])) := by
  refine Reads.of Tryz.T_ok Tryz.func119 rfl _ _ _ rfl rfl (fun C hC => ?_)
  (replace hC : C.n0 = 3 := hC; change Tri _ _ _ ⟨_, _, 3⟩ _)
  refine Tri.of Tryz.mixed Tryz.T_ok ?_
  (refine wBegin ?_; ((conv => arg 5; whnf); repeat ((with_reducible first | refine xT ?_ | refine xF ?_ | refine xO ?_ | refine xN ?_ | refine xU ?_ | refine xV ?_); conv => arg 5; whnf)))
  (refine wP _ _ (cellsNew_op Tryz.T_ok rfl rfl rfl) ?_; ((conv => arg 5; whnf); repeat ((with_reducible first | refine xT ?_ | refine xF ?_ | refine xO ?_ | refine xN ?_ | refine xU ?_ | refine xV ?_); conv => arg 5; whnf)))
  (apply wP; exact (call_op rfl (entersB_of Tryz.func35 (by kernel_rfl)) rfl ((digest_can p [a.l, b.l] (short2 _ _ _ (by simp [H8.l_len]))).at [9, 3, 4] ⟨lend_plain rfl, lend_parts [a.l, b.l] rfl rfl rfl ⟨lend_sla rfl rfl (fun _ _ => rfl) rfl, lend_sla rfl rfl (fun _ _ => rfl) rfl, trivial⟩, trivial⟩ trivial)); ((conv => arg 5; whnf); repeat ((with_reducible first | refine xT ?_ | refine xF ?_ | refine xO ?_ | refine xN ?_ | refine xU ?_ | refine xV ?_); conv => arg 5; whnf)))
  exact wD (Ends.plain (.inr rfl) rfl rfl)
theorem leaf_can (a : H8) : Reads Tryz.prog 133 [.plain a.x] [stepsP] (hashX (leafH a)) := by
  refine Reads.of Tryz.T_ok Tryz.func133 rfl _ _ _ rfl rfl (fun C hC => ?_)
  (replace hC : C.n0 = 2 := hC; change Tri _ _ _ ⟨_, _, 2⟩ _)
  refine Tri.of Tryz.mixed Tryz.T_ok ?_
  (refine wBegin ?_; ((conv => arg 5; whnf); repeat ((with_reducible first | refine xT ?_ | refine xF ?_ | refine xO ?_ | refine xN ?_ | refine xU ?_ | refine xV ?_); conv => arg 5; whnf)))
  (refine wP _ _ (cellsNew_op Tryz.T_ok rfl rfl rfl) ?_; ((conv => arg 5; whnf); repeat ((with_reducible first | refine xT ?_ | refine xF ?_ | refine xO ?_ | refine xN ?_ | refine xU ?_ | refine xV ?_); conv => arg 5; whnf)))
  (apply wP; exact (call_op rfl (entersB_of Tryz.func96 (by kernel_rfl)) rfl ((of_can 108 [a.l] (short1 _ _ (by simp [H8.l_len]))).at [5, 2, 1] ⟨lend_plain rfl, lend_parts [a.l] rfl rfl rfl ⟨lend_sla rfl rfl (fun _ _ => rfl) rfl, trivial⟩, trivial⟩ ⟨lend_ext (c := 1) rfl rfl, trivial⟩)); ((conv => arg 5; whnf); repeat ((with_reducible first | refine xT ?_ | refine xF ?_ | refine xO ?_ | refine xN ?_ | refine xU ?_ | refine xV ?_); conv => arg 5; whnf)))
  exact wD (Ends.plain (.inr rfl) rfl rfl)
theorem mark_can (a : H8) : Reads Tryz.prog 136 [.plain a.x] [stepsP] (hashX (markH a)) := by
  refine Reads.of Tryz.T_ok Tryz.func136 rfl _ _ _ rfl rfl (fun C hC => ?_)
  (replace hC : C.n0 = 2 := hC; change Tri _ _ _ ⟨_, _, 2⟩ _)
  refine Tri.of Tryz.mixed Tryz.T_ok ?_
  (refine wBegin ?_; ((conv => arg 5; whnf); repeat ((with_reducible first | refine xT ?_ | refine xF ?_ | refine xO ?_ | refine xN ?_ | refine xU ?_ | refine xV ?_); conv => arg 5; whnf)))
  (refine wP _ _ (cellsNew_op Tryz.T_ok rfl rfl rfl) ?_; ((conv => arg 5; whnf); repeat ((with_reducible first | refine xT ?_ | refine xF ?_ | refine xO ?_ | refine xN ?_ | refine xU ?_ | refine xV ?_); conv => arg 5; whnf)))
  (apply wP; exact (call_op rfl (entersB_of Tryz.func96 (by kernel_rfl)) rfl ((of_can 112 [a.l] (short1 _ _ (by simp [H8.l_len]))).at [5, 2, 1] ⟨lend_plain rfl, lend_parts [a.l] rfl rfl rfl ⟨lend_sla rfl rfl (fun _ _ => rfl) rfl, trivial⟩, trivial⟩ ⟨lend_ext (c := 1) rfl rfl, trivial⟩)); ((conv => arg 5; whnf); repeat ((with_reducible first | refine xT ?_ | refine xF ?_ | refine xO ?_ | refine xN ?_ | refine xU ?_ | refine xV ?_); conv => arg 5; whnf)))
  exact wD (Ends.plain (.inr rfl) rfl rfl)
theorem rmark_can (a : H8) : Reads Tryz.prog 92 [.plain a.x] [] (hashX (markH a)) := by
  refine Reads.of Tryz.T_ok Tryz.func92 rfl _ _ _ rfl rfl (fun C hC => ?_)
  (replace hC : C.n0 = 1 := hC; change Tri _ _ _ ⟨_, _, 1⟩ _)
  refine Tri.of Tryz.mixed Tryz.T_ok ?_
  (refine wBegin ?_; ((conv => arg 5; whnf); repeat ((with_reducible first | refine xT ?_ | refine xF ?_ | refine xO ?_ | refine xN ?_ | refine xU ?_ | refine xV ?_); conv => arg 5; whnf)))
  (refine wP _ _ (cellsNew_op Tryz.T_ok rfl rfl rfl) ?_; ((conv => arg 5; whnf); repeat ((with_reducible first | refine xT ?_ | refine xF ?_ | refine xO ?_ | refine xN ?_ | refine xU ?_ | refine xV ?_); conv => arg 5; whnf)))
  (apply wP; exact (call_op rfl (entersB_of Tryz.func35 (by kernel_rfl)) rfl ((digest_can 112 [a.l] (short1 _ _ (by simp [H8.l_len]))).at [4, 1] ⟨lend_plain rfl, lend_parts [a.l] rfl rfl rfl ⟨lend_sla rfl rfl (fun _ _ => rfl) rfl, trivial⟩, trivial⟩ trivial)); ((conv => arg 5; whnf); repeat ((with_reducible first | refine xT ?_ | refine xF ?_ | refine xO ?_ | refine xN ?_ | refine xU ?_ | refine xV ?_); conv => arg 5; whnf)))
  exact wD (Ends.plain (.inr rfl) rfl rfl)
theorem join_can (a b : H8) : Reads Tryz.prog 134 [.plain a.x, .plain b.x] [stepsP] (hashX (joinH a b)) := by
  refine Reads.of Tryz.T_ok Tryz.func134 rfl _ _ _ rfl rfl (fun C hC => ?_)
  (replace hC : C.n0 = 3 := hC; change Tri _ _ _ ⟨_, _, 3⟩ _)
  refine Tri.of Tryz.mixed Tryz.T_ok ?_
  (refine wBegin ?_; ((conv => arg 5; whnf); repeat ((with_reducible first | refine xT ?_ | refine xF ?_ | refine xO ?_ | refine xN ?_ | refine xU ?_ | refine xV ?_); conv => arg 5; whnf)))
  (apply wP; exact (call_op rfl (entersB_of Tryz.func152 (by kernel_rfl)) rfl ((ptwo_can 109 a b).at [2] ⟨lend_plain rfl, lend_plain rfl, lend_plain rfl, trivial⟩ ⟨lend_ext (c := 2) rfl rfl, trivial⟩)); ((conv => arg 5; whnf); repeat ((with_reducible first | refine xT ?_ | refine xF ?_ | refine xO ?_ | refine xN ?_ | refine xU ?_ | refine xV ?_); conv => arg 5; whnf)))
  exact wD (Ends.plain (.inr rfl) rfl rfl)
theorem row4 {x0 x1 x2 x3 : UInt8} {v0 v1 v2 v3 : Value} (h0 : v0 = u8 x0) (h1 : v1 = u8 x1) (h2 : v2 = u8 x2) (h3 : v3 = u8 x3) : ∀ i, i < [x0, x1, x2, x3].length → rowB [x0, x1, x2, x3] i = cutF [v0, v1, v2, v3] 1 (0 + i) := by
  subst h0 h1 h2 h3
  intro i hi
  match i, hi with
  | 0, _ => rfl
  | 1, _ => rfl
  | 2, _ => rfl
  | 3, _ => rfl
def secretH (seed : H8) (idx i b : Int) : H8 := dig 115 [seed.l, [byteI (IntKind.u8.wrap idx), byteI (IntKind.u8.wrap i), byteI (IntKind.u8.wrap b), 0]]
theorem secret_can (seed : H8) (idx i b : Int) : Reads Tryz.prog 90 [.plain seed.x, .plain (.one (.raw (.int .i64 idx))), .plain (.one (.raw (.int .i64 i))), .plain (.one (.raw (.int .i64 b)))] [] (hashX (secretH seed idx i b)) := by
  refine Reads.of Tryz.T_ok Tryz.func90 rfl _ _ _ rfl rfl (fun C hC => ?_)
  (replace hC : C.n0 = 4 := hC; change Tri _ _ _ ⟨_, _, 4⟩ _)
  refine Tri.of Tryz.mixed Tryz.T_ok ?_
  (refine wBegin ?_; ((conv => arg 5; whnf); repeat ((with_reducible first | refine xT ?_ | refine xF ?_ | refine xO ?_ | refine xN ?_ | refine xU ?_ | refine xV ?_); conv => arg 5; whnf)))
  (refine wP _ _ (cellsNew_op Tryz.T_ok rfl rfl rfl) ?_; ((conv => arg 5; whnf); repeat ((with_reducible first | refine xT ?_ | refine xF ?_ | refine xO ?_ | refine xN ?_ | refine xU ?_ | refine xV ?_); conv => arg 5; whnf)))
  (apply wP; exact (call_op rfl (entersB_of Tryz.func35 (by kernel_rfl)) rfl ((digest_can 115 [seed.l, [byteI (IntKind.u8.wrap idx), byteI (IntKind.u8.wrap i), byteI (IntKind.u8.wrap b), 0]] (short2 _ _ _ (by simp [H8.l_len]))).at [14, 4, 13] ⟨lend_plain rfl, lend_parts [seed.l, [byteI (IntKind.u8.wrap idx), byteI (IntKind.u8.wrap i), byteI (IntKind.u8.wrap b), 0]] rfl rfl rfl ⟨lend_sla rfl rfl (fun _ _ => rfl) rfl, lend_vec (lo := 0) rfl rfl (Nat.le_refl _) (row4 (u8_byteI _).symm (u8_byteI _).symm (u8_byteI _).symm rfl), trivial⟩, trivial⟩ trivial)); ((conv => arg 5; whnf); repeat ((with_reducible first | refine xT ?_ | refine xF ?_ | refine xO ?_ | refine xN ?_ | refine xU ?_ | refine xV ?_); conv => arg 5; whnf)))
  exact wD (Ends.plain (.inr rfl) rfl rfl)
end Go.Proofs.YtmoohekgheoliaaGreatDoor
namespace Go.Proofs.YtmoohekgheoliaaGreatDoor
set_option maxRecDepth 100000
open Go.Sx
def bitN (m : H8) (i : Nat) : Nat := ((m.l.getD (i / 8) 0).toNat / 2 ^ (i % 8)) % 2
theorem bitN_cases (m : H8) (i : Nat) : bitN m i = 0 ∨ bitN m i = 1 := by unfold bitN; omega
theorem ofInt_nat (n y : Nat) : BitVec.ofInt n (y : Int) = BitVec.ofNat n y := by
  apply BitVec.eq_of_toNat_eq
  rw [BitVec.toNat_ofInt, BitVec.toNat_ofNat]
  omega
theorem and1_u8 (y : Nat) : bitI .and .u8 (y : Int) 1 = ((y % 2 : Nat) : Int) := by
  show IntKind.u8.wrap (((BitVec.ofInt 8 (y : Int) &&& BitVec.ofInt 8 ((1 : Nat) : Int)).toNat : Int)) = _
  rw [ofInt_nat, ofInt_nat, BitVec.toNat_and, BitVec.toNat_ofNat, BitVec.toNat_ofNat, show 1 % 2 ^ 8 = 1 from rfl, Nat.and_one_is_mod, IntKind.wrap_u8]
  omega
theorem and1_i64 (y : Nat) : bitI .and .i64 (y : Int) 1 = ((y % 2 : Nat) : Int) := by
  show IntKind.i64.wrap (((BitVec.ofInt 64 (y : Int) &&& BitVec.ofInt 64 ((1 : Nat) : Int)).toNat : Int)) = _
  rw [ofInt_nat, ofInt_nat, BitVec.toNat_and, BitVec.toNat_ofNat, BitVec.toNat_ofNat, show 1 % 2 ^ 64 = 1 from rfl, Nat.and_one_is_mod, IntKind.wrap_i64]
  omega
theorem shr_nat (k : IntKind) (y s : Nat) (hs : s ≤ k.bits) : shrI k (y : Int) (s : Int) = ((y / 2 ^ s : Nat) : Int) := by
  have e : min ((s : Int).toNat) k.bits = s := by omega
  have h2 : ((2 : Int) ^ s) = ((2 ^ s : Nat) : Int) := by rw [Int.natCast_pow]; rfl
  rw [shrI, e, h2, Int.fdiv_eq_ediv_of_nonneg _ (Int.natCast_nonneg _), Int.natCast_ediv]
theorem bit_can (m : H8) (i : Nat) (hi : i < 64) : Reads Tryz.prog 135 [.plain m.x, .plain (.one (.raw (.int .i64 i)))] [] (XV.int .i64 (bitN m i)) := by
  refine Reads.of Tryz.T_ok Tryz.func135 rfl _ _ _ rfl rfl (fun C hC => ?_)
  (replace hC : C.n0 = 2 := hC; change Tri _ _ _ ⟨_, _, 2⟩ _)
  (refine Tri.cut 1 Tryz.mixed Tryz.T_ok ?_; ((conv => arg 5; whnf); repeat ((with_reducible first | refine xT ?_ | refine xF ?_ | refine xO ?_ | refine xN ?_ | refine xU ?_ | refine xV ?_); conv => arg 5; whnf)))
  refine wD <| cutG <| Tri.ent (Ent.arrT (c := 2) 1 8 (rowB m.l) rfl rfl rfl (fun _ _ => rfl) (by decide) rfl (by rw [hC]; decide)) <| Tri.of Tryz.mixed Tryz.T_ok ?_
  have q1 : IntKind.i64.wrap (Int.tdiv (i : Int) 8) = ((i / 8 : Nat) : Int) := by
    have : Int.tdiv (i : Int) 8 = ((i / 8 : Nat) : Int) := rfl
    rw [this]; exact (by (try simp only [ww1, ww2, ww3, ww4, ww5, ww6, ww7] at *); omega)
  have q2 : Int.tmod (i : Int) 8 = ((i % 8 : Nat) : Int) := rfl
  (refine wBegin ?_; ((conv => arg 5; whnf); repeat ((with_reducible first | refine xT ?_ | refine xF ?_ | refine xO ?_ | refine xN ?_ | refine xU ?_ | refine xV ?_); conv => arg 5; whnf)))
  simp only [q1]
  (repeat (refine wN ?_ ?_; exact (by (try simp only [ww1, ww2, ww3, ww4, ww5, ww6, ww7] at *); omega); refine wGo ?_; ((conv => arg 5; whnf); repeat ((with_reducible first | refine xT ?_ | refine xF ?_ | refine xO ?_ | refine xN ?_ | refine xU ?_ | refine xV ?_); conv => arg 5; whnf))))
  simp only [q2]
  (repeat (refine wN ?_ ?_; exact (by (try simp only [ww1, ww2, ww3, ww4, ww5, ww6, ww7] at *); omega); refine wGo ?_; ((conv => arg 5; whnf); repeat ((with_reducible first | refine xT ?_ | refine xF ?_ | refine xO ?_ | refine xN ?_ | refine xU ?_ | refine xV ?_); conv => arg 5; whnf))))
  refine wD (Ends.plain (.inr rfl) rfl ?_)
  have e : IntKind.i64.wrap (bitI .and .u8 (shrI .u8 ((m.l.getD (((i / 8 : Nat) : Int).toNat) 0).toNat : Int) ((i % 8 : Nat) : Int)) 1) = ((bitN m i : Nat) : Int) := by
    have h8 : i % 8 ≤ IntKind.u8.bits := Nat.le_of_lt (Nat.mod_lt _ (by decide))
    rw [shr_nat _ _ _ h8, and1_u8, Int.toNat_natCast, IntKind.wrap_i64]
    unfold bitN
    omega
  exact congrArg (fun n : Int => XV.int .i64 n) e
theorem rbit_can (m : H8) (i : Nat) (hi : i < 64) : Reads Tryz.prog 91 [.plain m.x, .plain (.one (.raw (.int .i64 i)))] [] (XV.int .i64 (bitN m i)) := by
  refine Reads.of Tryz.T_ok Tryz.func91 rfl _ _ _ rfl rfl (fun C hC => ?_)
  (replace hC : C.n0 = 2 := hC; change Tri _ _ _ ⟨_, _, 2⟩ _)
  (refine Tri.cut 1 Tryz.mixed Tryz.T_ok ?_; ((conv => arg 5; whnf); repeat ((with_reducible first | refine xT ?_ | refine xF ?_ | refine xO ?_ | refine xN ?_ | refine xU ?_ | refine xV ?_); conv => arg 5; whnf)))
  refine wD <| cutG <| Tri.ent (Ent.arrT (c := 2) 1 8 (rowB m.l) rfl rfl rfl (fun _ _ => rfl) (by decide) rfl (by rw [hC]; decide)) <| Tri.of Tryz.mixed Tryz.T_ok ?_
  have q1 : IntKind.i64.wrap (Int.tdiv (i : Int) 8) = ((i / 8 : Nat) : Int) := by
    have : Int.tdiv (i : Int) 8 = ((i / 8 : Nat) : Int) := rfl
    rw [this]; exact (by (try simp only [ww1, ww2, ww3, ww4, ww5, ww6, ww7] at *); omega)
  have q2 : Int.tmod (i : Int) 8 = ((i % 8 : Nat) : Int) := rfl
  (refine wBegin ?_; ((conv => arg 5; whnf); repeat ((with_reducible first | refine xT ?_ | refine xF ?_ | refine xO ?_ | refine xN ?_ | refine xU ?_ | refine xV ?_); conv => arg 5; whnf)))
  simp only [q1]
  (repeat (refine wN ?_ ?_; exact (by (try simp only [ww1, ww2, ww3, ww4, ww5, ww6, ww7] at *); omega); refine wGo ?_; ((conv => arg 5; whnf); repeat ((with_reducible first | refine xT ?_ | refine xF ?_ | refine xO ?_ | refine xN ?_ | refine xU ?_ | refine xV ?_); conv => arg 5; whnf))))
  simp only [q2]
  (repeat (refine wN ?_ ?_; exact (by (try simp only [ww1, ww2, ww3, ww4, ww5, ww6, ww7] at *); omega); refine wGo ?_; ((conv => arg 5; whnf); repeat ((with_reducible first | refine xT ?_ | refine xF ?_ | refine xO ?_ | refine xN ?_ | refine xU ?_ | refine xV ?_); conv => arg 5; whnf))))
  refine wD (Ends.plain (.inr rfl) rfl ?_)
  have e : bitI .and .i64 (shrI .i64 (IntKind.i64.wrap ((m.l.getD (((i / 8 : Nat) : Int).toNat) 0).toNat : Int)) (IntKind.u64.wrap ((i % 8 : Nat) : Int))) 1 = ((bitN m i : Nat) : Int) := by
    have h8 : i % 8 ≤ IntKind.i64.bits := Nat.le_trans (Nat.le_of_lt (Nat.mod_lt i (by decide : 8 > 0))) (by decide)
    have hb := (m.l.getD (i / 8) 0).toNat_lt
    have e1 : IntKind.i64.wrap ((m.l.getD (i / 8) 0).toNat : Int) = ((m.l.getD (i / 8) 0).toNat : Int) := (by (try simp only [ww1, ww2, ww3, ww4, ww5, ww6, ww7] at *); omega)
    have e2 : IntKind.u64.wrap ((i % 8 : Nat) : Int) = ((i % 8 : Nat) : Int) := (by (try simp only [ww1, ww2, ww3, ww4, ww5, ww6, ww7] at *); omega)
    rw [Int.toNat_natCast, e1, e2, shr_nat _ _ _ h8, and1_i64]
    rfl
  exact congrArg (fun n : Int => XV.int .i64 n) e
end Go.Proofs.YtmoohekgheoliaaGreatDoor
namespace Go.Proofs.YtmoohekgheoliaaGreatDoor
set_option maxRecDepth 100000
open Go.Sx
def zeroH : H8 := ⟨0, 0, 0, 0, 0, 0, 0, 0⟩
def hashF (h : Nat → H8) : Nat → List Value := fun i => (h i).cells
def uptoH (h : Nat → H8) (n : Nat) : Nat → H8 := fun k => if k < n then h k else zeroH
theorem updH (w : Nat → H8) (i k : Nat) (h : H8) : updF (hashF w) i 0 h.cells k = hashF (fun k => if k = i then h else w k) k := by
  by_cases hk : k = i
  · subst hk; rw [updF_whole (by rfl)]; simp [hashF]
  · rw [updF_ne hk]; simp [hashF, hk]
theorem uptoH_step (h : Nat → H8) (i k : Nat) : (if k = i then h i else uptoH h i k) = uptoH h (i + 1) k := by
  unfold uptoH
  by_cases hk : k = i
  · subst hk; rw [if_pos rfl, if_pos (Nat.lt_succ_self k)]
  · rw [if_neg hk]
    by_cases hk3 : k < i
    · rw [if_pos hk3, if_pos (by omega)]
    · rw [if_neg hk3, if_neg (by omega)]
def rowX (h : Nat → H8) (n : Nat) : CV := .agg ((tabF (hashF h) 0 n).map .raw)
def openS (seed : H8) (idx : Int) (m : H8) (i : Nat) : H8 := secretH seed idx (i : Int) ((bitN m i : Nat) : Int)
def shutS (seed : H8) (idx : Int) (m : H8) (i : Nat) : H8 := markH (secretH seed idx (i : Int) ((1 - bitN m i : Nat) : Int))
def signSt (seed : H8) (idx : Int) (m : H8) (i : Nat) : St :=
  ⟨[none, some (XV.int .i64 idx), none, some (XV.sv (.ptr 3 0 0 0)), none, some (XV.sv (.ptr 4 0 0 0)), some (XV.sv (.ptr 5 0 0 0)), some (XV.sv (.ptr 6 0 0 0)), some (XV.sv (.ptr 7 0 0 0)), some (XV.sv (.ptr 8 0 0 0)), some (XV.int .i64 i)] ++ List.replicate 26 none,
   [(3, .cells 39 (seed.cells.map .raw)), (4, .cells 39 (m.cells.map .raw)), (5, .cells 45 ((List.replicate 128 (u8 0)).map .raw)), (6, .cells 45 ((List.replicate 128 (u8 0)).map .raw)), (7, .vec 45 8 16 (hashF (uptoH (openS seed idx m) i))), (8, .vec 45 8 16 (hashF (uptoH (shutS seed idx m) i)))], 9⟩
set_option maxHeartbeats 4000000 in
theorem sign_can (seed : H8) (idx : Int) (m : H8) : Reads Tryz.prog 49 [.plain seed.x, .plain (.one (.raw (.int .i64 idx))), .plain m.x] [] (.tup [rowX (openS seed idx m) 16, rowX (shutS seed idx m) 16]) := by
  refine Reads.of Tryz.T_ok Tryz.func49 rfl _ _ _ rfl (by simp only [XV.ok, List.all_cons, List.all_nil, Bool.and_true, Bool.and_eq_true]; exact ⟨raws_ok _ _, raws_ok _ _⟩) (fun C hC => ?_)
  (replace hC : C.n0 = 3 := hC; change Tri _ _ _ ⟨_, _, 3⟩ _)
  (refine Tri.cut 2 Tryz.mixed Tryz.T_ok ?_; ((conv => arg 5; whnf); repeat ((with_reducible first | refine xT ?_ | refine xF ?_ | refine xO ?_ | refine xN ?_ | refine xU ?_ | refine xV ?_); conv => arg 5; whnf)))
  refine wD <| cutG <| Tri.ent (Ent.arr0 (c := 7) 8 16 (u8 0) (f := hashF (uptoH (openS seed idx m) 0)) rfl rfl rfl (by decide) rfl (by rw [hC]; decide) (fun _ _ => rfl)) <| Tri.ent (Ent.arr0 (c := 8) 8 16 (u8 0) (f := hashF (uptoH (shutS seed idx m) 0)) rfl rfl rfl (by decide) rfl (by rw [hC]; decide) (fun _ _ => rfl)) <| Tri.seq ?_
  (refine Tri.cut 1 Tryz.mixed Tryz.T_ok ?_; ((conv => arg 5; whnf); repeat ((with_reducible first | refine xT ?_ | refine xF ?_ | refine xO ?_ | refine xN ?_ | refine xU ?_ | refine xV ?_); conv => arg 5; whnf)))
  refine wD <| cutG <| Tri.block ?_
  refine Tri.loop (α := { i : Nat // i ≤ 16 }) (fun i => signSt seed idx m i.1) (fun i => 16 - i.1) ⟨0, Nat.zero_le _⟩ ?_ ?_
  · exact Ent.ren [0, 1, 2, 3, 4, 5, 6, 7, 8] (by decide) rfl (fun i hi => by replace hi := Nat.lt_of_lt_of_eq hi hC; revert i; decide) (Nat.le_trans (Nat.le_of_eq hC) (by decide)) rfl (by repeat' (first | exact trivial | exact rfl | refine ⟨?_, ?_⟩ | fail)) (by repeat' (first | exact trivial | exact ⟨_, rfl, rfl, rfl, Nat.le_refl _, fun _ _ => rfl⟩ | exact ⟨_, rfl, rfl, rfl, fun _ _ => rfl⟩ | exact ⟨_, rfl, rfl, rfl⟩ | exact ⟨_, rfl, rfl⟩ | refine ⟨?_, ?_⟩ | fail))
  rintro ⟨i, hi⟩
  dsimp only
  (refine Tri.cut 1 Tryz.mixed Tryz.T_ok ?_; ((conv => arg 5; whnf); repeat ((with_reducible first | refine xT ?_ | refine xF ?_ | refine xO ?_ | refine xN ?_ | refine xU ?_ | refine xV ?_); conv => arg 5; whnf)))
  refine wC (fun h1 => ?_) (fun h1 => ?_)
  · (refine wGo ?_; ((conv => arg 5; whnf); repeat ((with_reducible first | refine xT ?_ | refine xF ?_ | refine xO ?_ | refine xN ?_ | refine xU ?_ | refine xV ?_); conv => arg 5; whnf)))
    have h1' : i < 16 := (by (try simp only [ww1, ww2, ww3, ww4, ww5, ww6, ww7] at *); omega)
    have hb := bitN_cases m i
    have eb : IntKind.i64.wrap (1 - ((bitN m i : Nat) : Int)) = ((1 - bitN m i : Nat) : Int) := (by (try simp only [ww1, ww2, ww3, ww4, ww5, ww6, ww7] at *); omega)
    refine wD <| cutG <| Tri.seq <| Tri.block ?_
    (refine Tri.cut 1 Tryz.mixed Tryz.T_ok ?_; ((conv => arg 5; whnf); repeat ((with_reducible first | refine xT ?_ | refine xF ?_ | refine xO ?_ | refine xN ?_ | refine xU ?_ | refine xV ?_); conv => arg 5; whnf)))
    (apply wP; exact (call_op rfl (entersB_of Tryz.func91 (by kernel_rfl)) rfl ((rbit_can m i (by omega)).at [] ⟨lend_plain rfl, lend_plain rfl, trivial⟩ trivial)); ((conv => arg 5; whnf); repeat ((with_reducible first | refine xT ?_ | refine xF ?_ | refine xO ?_ | refine xN ?_ | refine xU ?_ | refine xV ?_); conv => arg 5; whnf)))
    (apply wP; exact (call_op rfl (entersB_of Tryz.func90 (by kernel_rfl)) rfl ((secret_can seed idx i ((bitN m i : Nat) : Int)).at [] ⟨lend_plain rfl, lend_plain rfl, lend_plain rfl, lend_plain rfl, trivial⟩ trivial)); ((conv => arg 5; whnf); repeat ((with_reducible first | refine xT ?_ | refine xF ?_ | refine xO ?_ | refine xN ?_ | refine xU ?_ | refine xV ?_); conv => arg 5; whnf)))
    (repeat (refine wN ?_ ?_; exact (by (try simp only [ww1, ww2, ww3, ww4, ww5, ww6, ww7] at *); omega); refine wGo ?_; ((conv => arg 5; whnf); repeat ((with_reducible first | refine xT ?_ | refine xF ?_ | refine xO ?_ | refine xN ?_ | refine xU ?_ | refine xV ?_); conv => arg 5; whnf))))
    refine wD <| cutG <| Tri.of Tryz.mixed Tryz.T_ok ?_
    (refine wBegin ?_; ((conv => arg 5; whnf); repeat ((with_reducible first | refine xT ?_ | refine xF ?_ | refine xO ?_ | refine xN ?_ | refine xU ?_ | refine xV ?_); conv => arg 5; whnf)))
    (apply wP; exact (call_op rfl (entersB_of Tryz.func91 (by kernel_rfl)) rfl ((rbit_can m i (by omega)).at [] ⟨lend_plain rfl, lend_plain rfl, trivial⟩ trivial)); ((conv => arg 5; whnf); repeat ((with_reducible first | refine xT ?_ | refine xF ?_ | refine xO ?_ | refine xN ?_ | refine xU ?_ | refine xV ?_); conv => arg 5; whnf)))
    simp only [eb]
    (apply wP; exact (call_op rfl (entersB_of Tryz.func90 (by kernel_rfl)) rfl ((secret_can seed idx i ((1 - bitN m i : Nat) : Int)).at [] ⟨lend_plain rfl, lend_plain rfl, lend_plain rfl, lend_plain rfl, trivial⟩ trivial)); ((conv => arg 5; whnf); repeat ((with_reducible first | refine xT ?_ | refine xF ?_ | refine xO ?_ | refine xN ?_ | refine xU ?_ | refine xV ?_); conv => arg 5; whnf)))
    (apply wP; exact (call_op rfl (entersB_of Tryz.func92 (by kernel_rfl)) rfl ((rmark_can (secretH seed idx i ((1 - bitN m i : Nat) : Int))).at [] ⟨lend_plain rfl, trivial⟩ trivial)); ((conv => arg 5; whnf); repeat ((with_reducible first | refine xT ?_ | refine xF ?_ | refine xO ?_ | refine xN ?_ | refine xU ?_ | refine xV ?_); conv => arg 5; whnf)))
    (repeat (refine wN ?_ ?_; exact (by (try simp only [ww1, ww2, ww3, ww4, ww5, ww6, ww7] at *); omega); refine wGo ?_; ((conv => arg 5; whnf); repeat ((with_reducible first | refine xT ?_ | refine xF ?_ | refine xO ?_ | refine xN ?_ | refine xU ?_ | refine xV ?_); conv => arg 5; whnf))))
    refine wD <| blockN <| cutG <| Tri.of Tryz.mixed Tryz.T_ok ?_
    (refine wBegin ?_; ((conv => arg 5; whnf); repeat ((with_reducible first | refine xT ?_ | refine xF ?_ | refine xO ?_ | refine xN ?_ | refine xU ?_ | refine xV ?_); conv => arg 5; whnf)))
    have hw : IntKind.i64.wrap ((i : Int) + 1) = ((i + 1 : Nat) : Int) := (by (try simp only [ww1, ww2, ww3, ww4, ww5, ww6, ww7] at *); omega)
    refine wD <| loopN ⟨⟨i + 1, h1'⟩, by dsimp only; omega, ?_⟩
    rw [hw]
    ((try dsimp only); refine Ent.renC [0, 1, 2, 3, 4, 5, 6, 7, 8] hC ?_ ?_ <;> repeat' (first | exact trivial | exact rfl | exact ⟨_, rfl, rfl, rfl, Nat.le_refl _, fun _ _ => rfl⟩ | exact ⟨_, rfl, rfl, rfl, fun _ _ => rfl⟩ | exact ⟨_, rfl, rfl, rfl⟩ | exact ⟨_, rfl, rfl⟩ | refine ⟨_, rfl, rfl, rfl, by omega, fun k hk => ?_⟩ | refine ⟨?_, ?_⟩ | fail))
    · refine (updH (uptoH (openS seed idx m) i) i k (openS seed idx m i)).trans ?_
      simp only [hashF, uptoH_step]
    · refine (updH (uptoH (shutS seed idx m) i) i k (shutS seed idx m i)).trans ?_
      simp only [hashF, uptoH_step]
  · (refine wGo ?_; ((conv => arg 5; whnf); repeat ((with_reducible first | refine xT ?_ | refine xF ?_ | refine xO ?_ | refine xN ?_ | refine xU ?_ | refine xV ?_); conv => arg 5; whnf)))
    have h1' : i = 16 := (by (try simp only [ww1, ww2, ww3, ww4, ww5, ww6, ww7] at *); omega)
    subst h1'
    have hf : ∀ (g : Nat → H8) k, k < 16 → hashF (uptoH g 16) k = hashF g k := fun g k hk => by simp [hashF, uptoH, hk]
    refine wD <| cutE <| loopX <| blockX <| cutG <| Tri.ent (Ent.chg0 (c := 7) (g := hashF (openS seed idx m)) rfl (hf _)) <| Tri.ent (Ent.chg0 (c := 8) (g := hashF (shutS seed idx m)) rfl (hf _)) <| Tri.of Tryz.mixed Tryz.T_ok ?_
    (refine wBegin ?_; ((conv => arg 5; whnf); repeat ((with_reducible first | refine xT ?_ | refine xF ?_ | refine xO ?_ | refine xN ?_ | refine xU ?_ | refine xV ?_); conv => arg 5; whnf)))
    (repeat (refine wN ?_ ?_; exact (by (try simp only [ww1, ww2, ww3, ww4, ww5, ww6, ww7] at *); omega); refine wGo ?_; ((conv => arg 5; whnf); repeat ((with_reducible first | refine xT ?_ | refine xF ?_ | refine xO ?_ | refine xN ?_ | refine xU ?_ | refine xV ?_); conv => arg 5; whnf))))
    exact wD (Ends.plain (.inr rfl) rfl rfl)
def allB (mk : Nat → Nat → H8) : Nat → List UInt8
  | 0 => []
  | i + 1 => allB mk i ++ (mk i 0).l ++ (mk i 1).l
theorem allB_length (mk : Nat → Nat → H8) : ∀ i, (allB mk i).length = 16 * i
  | 0 => rfl
  | i + 1 => by simp only [allB, List.length_append, allB_length mk i, H8.l_len]; omega
def pubH (mk : Nat → Nat → H8) : H8 := dig 107 [allB mk 16]
def markOf (m : H8) (o s : Nat → H8) (i b : Nat) : H8 := if b = bitN m i then markH (o i) else s i
def rpubSt (m : H8) (o s : Nat → H8) (i : Nat) : St :=
  ⟨[none, none, none, some (XV.sv (.ptr 3 0 0 0)), some (XV.sv (.ptr 4 0 0 0)), some (XV.sv (.ptr 5 0 0 0)), some (XV.sv (.ptr 6 0 0 0)), some (XV.sv (.slc 7 1 0 (16 * i))), some (XV.int .i64 i)] ++ List.replicate 27 none,
   [(3, .cells 39 (m.cells.map .raw)), (4, .vec 45 8 16 (hashF o)), (5, .vec 45 8 16 (hashF s)), (6, .cells 39 ((List.replicate 8 (u8 0)).map .raw)), (7, .vec 5 1 (16 * i) (rowB (allB (markOf m o s) i)))], 8⟩
set_option maxHeartbeats 4000000 in
theorem rpublic_can (m : H8) (o s : Nat → H8) : Reads Tryz.prog 84 [.plain m.x, .plain (rowX o 16), .plain (rowX s 16)] [] (hashX (pubH (markOf m o s))) := by
  refine Reads.of Tryz.T_ok Tryz.func84 rfl _ _ _ (by simp only [canX, AD.plain, List.all_cons, List.all_nil, Bool.and_true, Bool.and_eq_true]; exact ⟨raws_ok _ _, raws_ok _ _, raws_ok _ _⟩) rfl (fun C hC => ?_)
  (replace hC : C.n0 = 3 := hC; change Tri _ _ _ ⟨_, _, 3⟩ _)
  (refine Tri.cut 2 Tryz.mixed Tryz.T_ok ?_; ((conv => arg 5; whnf); repeat ((with_reducible first | refine xT ?_ | refine xF ?_ | refine xO ?_ | refine xN ?_ | refine xU ?_ | refine xV ?_); conv => arg 5; whnf)))
  refine wD <| cutG <| Tri.ent (Ent.arrT (c := 4) 8 16 (hashF o) rfl rfl rfl (fun _ _ => rfl) (by decide) rfl (by rw [hC]; decide)) <| Tri.ent (Ent.arrT (c := 5) 8 16 (hashF s) rfl rfl rfl (fun _ _ => rfl) (by decide) rfl (by rw [hC]; decide)) <| Tri.ent (Ent.nils (t := 7) rfl 5 1) <| Tri.seq ?_
  (refine Tri.cut 1 Tryz.mixed Tryz.T_ok ?_; ((conv => arg 5; whnf); repeat ((with_reducible first | refine xT ?_ | refine xF ?_ | refine xO ?_ | refine xN ?_ | refine xU ?_ | refine xV ?_); conv => arg 5; whnf)))
  refine wD <| cutG <| Tri.block ?_
  refine Tri.loop (α := { i : Nat // i ≤ 16 }) (fun i => rpubSt m o s i.1) (fun i => 16 - i.1) ⟨0, Nat.zero_le _⟩ ?_ ?_
  · ((try dsimp only); refine Ent.renC [0, 1, 2, 3, 4, 5, 6, 8] hC ?_ ?_ <;> repeat' (first | exact trivial | exact rfl | exact ⟨_, rfl, rfl, rfl, Nat.le_refl _, fun _ _ => rfl⟩ | exact ⟨_, rfl, rfl, rfl, fun _ _ => rfl⟩ | exact ⟨_, rfl, rfl, rfl⟩ | exact ⟨_, rfl, rfl⟩ | refine ⟨_, rfl, rfl, rfl, by omega, fun k hk => ?_⟩ | refine ⟨?_, ?_⟩ | fail))
    exact absurd hk (Nat.not_lt_zero _)
  rintro ⟨i, hi⟩
  dsimp only
  (refine Tri.cut 1 Tryz.mixed Tryz.T_ok ?_; ((conv => arg 5; whnf); repeat ((with_reducible first | refine xT ?_ | refine xF ?_ | refine xO ?_ | refine xN ?_ | refine xU ?_ | refine xV ?_); conv => arg 5; whnf)))
  refine wC (fun h1 => ?_) (fun h1 => ?_)
  · (refine wGo ?_; ((conv => arg 5; whnf); repeat ((with_reducible first | refine xT ?_ | refine xF ?_ | refine xO ?_ | refine xN ?_ | refine xU ?_ | refine xV ?_); conv => arg 5; whnf)))
    have h1' : i < 16 := (by (try simp only [ww1, ww2, ww3, ww4, ww5, ww6, ww7] at *); omega)
    have hw : IntKind.i64.wrap ((i : Int) + 1) = ((i + 1 : Nat) : Int) := (by (try simp only [ww1, ww2, ww3, ww4, ww5, ww6, ww7] at *); omega)
    have hj : ∀ (a b : H8) (k : Nat), k < 16 * (i + 1) → joinF (joinF (rowB (allB (markOf m o s) i)) (16 * i) (rowB a.l)) (16 * i + 8) (rowB b.l) k = rowB (allB (markOf m o s) i ++ a.l ++ b.l) k := fun a b k hk =>
      rowB_join (a := allB (markOf m o s) i ++ a.l) (b := b.l) (by rw [List.length_append, allB_length]; rfl) (fun i' hi' => rowB_join (b := a.l) (allB_length _ _).symm (fun _ _ => rfl) (fun _ _ => rfl) (by rw [← List.length_append]; exact hi')) (fun _ _ => rfl) (by rw [List.length_append, allB_length]; simp only [H8.l_len]; omega)
    refine wD <| cutG <| Tri.seq <| Tri.block ?_
    (refine Tri.cut 1 Tryz.mixed Tryz.T_ok ?_; ((conv => arg 5; whnf); repeat ((with_reducible first | refine xT ?_ | refine xF ?_ | refine xO ?_ | refine xN ?_ | refine xU ?_ | refine xV ?_); conv => arg 5; whnf)))
    (repeat (refine wN ?_ ?_; exact (by (try simp only [ww1, ww2, ww3, ww4, ww5, ww6, ww7] at *); omega); refine wGo ?_; ((conv => arg 5; whnf); repeat ((with_reducible first | refine xT ?_ | refine xF ?_ | refine xO ?_ | refine xN ?_ | refine xU ?_ | refine xV ?_); conv => arg 5; whnf))))
    (apply wP; exact (call_op rfl (entersB_of Tryz.func92 (by kernel_rfl)) rfl ((rmark_can (o i)).at [] ⟨lend_plain rfl, trivial⟩ trivial)); ((conv => arg 5; whnf); repeat ((with_reducible first | refine xT ?_ | refine xF ?_ | refine xO ?_ | refine xN ?_ | refine xU ?_ | refine xV ?_); conv => arg 5; whnf)))
    (repeat (refine wN ?_ ?_; exact (by (try simp only [ww1, ww2, ww3, ww4, ww5, ww6, ww7] at *); omega); refine wGo ?_; ((conv => arg 5; whnf); repeat ((with_reducible first | refine xT ?_ | refine xF ?_ | refine xO ?_ | refine xN ?_ | refine xU ?_ | refine xV ?_); conv => arg 5; whnf))))
    refine wD <| cutG <| Tri.seq ?_
    (refine Tri.cut 1 Tryz.mixed Tryz.T_ok ?_; ((conv => arg 5; whnf); repeat ((with_reducible first | refine xT ?_ | refine xF ?_ | refine xO ?_ | refine xN ?_ | refine xU ?_ | refine xV ?_); conv => arg 5; whnf)))
    (apply wP; exact (call_op rfl (entersB_of Tryz.func91 (by kernel_rfl)) rfl ((rbit_can m i (by omega)).at [] ⟨lend_plain rfl, lend_plain rfl, trivial⟩ trivial)); ((conv => arg 5; whnf); repeat ((with_reducible first | refine xT ?_ | refine xF ?_ | refine xO ?_ | refine xN ?_ | refine xU ?_ | refine xV ?_); conv => arg 5; whnf)))
    refine wD <| cutG <| Tri.cond (b := (((bitN m i : Nat) : Int) == 1)) rfl (fun hb => ?_) (fun hb => ?_)
    · have hb' : bitN m i = 1 := by
        have := eq_of_beq hb
        omega
      refine Tri.of Tryz.mixed Tryz.T_ok ?_
      (refine wBegin ?_; ((conv => arg 5; whnf); repeat ((with_reducible first | refine xT ?_ | refine xF ?_ | refine xO ?_ | refine xN ?_ | refine xU ?_ | refine xV ?_); conv => arg 5; whnf)))
      refine wD <| cutG <| Tri.of Tryz.mixed Tryz.T_ok ?_
      (refine wBegin ?_; ((conv => arg 5; whnf); repeat ((with_reducible first | refine xT ?_ | refine xF ?_ | refine xO ?_ | refine xN ?_ | refine xU ?_ | refine xV ?_); conv => arg 5; whnf)))
      (refine wP _ _ (append_op Tryz.T_ok rfl rfl rfl rfl rfl [7, 17] (old_vec rfl rfl (Nat.le_refl _) rfl) (new_sla (g := rowB (s i).l) rfl rfl rfl (fun _ _ => rfl) rfl) rfl (fun _ _ => rfl) (by simp only [maxLen]; omega) (by dsimp only; omega)) ?_; ((conv => arg 5; whnf); repeat ((with_reducible first | refine xT ?_ | refine xF ?_ | refine xO ?_ | refine xN ?_ | refine xU ?_ | refine xV ?_); conv => arg 5; whnf)))
      (refine wP _ _ (append_op Tryz.T_ok rfl rfl rfl rfl rfl [31, 18] (old_vec rfl rfl (Nat.le_refl _) rfl) (new_sla (g := rowB (markH (o i)).l) rfl rfl rfl (fun _ _ => rfl) rfl) rfl (fun _ _ => rfl) (by simp only [maxLen]; omega) (by dsimp only; omega)) ?_; ((conv => arg 5; whnf); repeat ((with_reducible first | refine xT ?_ | refine xF ?_ | refine xO ?_ | refine xN ?_ | refine xU ?_ | refine xV ?_); conv => arg 5; whnf)))
      refine wD <| blockN <| cutG <| Tri.of Tryz.mixed Tryz.T_ok ?_
      (refine wBegin ?_; ((conv => arg 5; whnf); repeat ((with_reducible first | refine xT ?_ | refine xF ?_ | refine xO ?_ | refine xN ?_ | refine xU ?_ | refine xV ?_); conv => arg 5; whnf)))
      refine wD <| loopN ⟨⟨i + 1, h1'⟩, by dsimp only; omega, ?_⟩
      rw [hw]
      have e1 : 16 * i + (((8 : Nat) : Int).toNat - (0 : Int).toNat) + (((8 : Nat) : Int).toNat - (0 : Int).toNat) = 16 * (i + 1) := by omega
      rw [e1]
      ((try dsimp only); refine Ent.renC [0, 1, 2, 3, 4, 5, 6, 33] hC ?_ ?_ <;> repeat' (first | exact trivial | exact rfl | exact ⟨_, rfl, rfl, rfl, Nat.le_refl _, fun _ _ => rfl⟩ | exact ⟨_, rfl, rfl, rfl, fun _ _ => rfl⟩ | exact ⟨_, rfl, rfl, rfl⟩ | exact ⟨_, rfl, rfl⟩ | refine ⟨_, rfl, rfl, rfl, by omega, fun k hk => ?_⟩ | refine ⟨?_, ?_⟩ | fail))
      have hm0 : (markOf m o s i 0) = s i := by unfold markOf; rw [if_neg (by omega)]
      have hm1 : (markOf m o s i 1) = markH (o i) := by unfold markOf; rw [if_pos hb'.symm]
      refine (hj _ _ k hk).trans ?_
      rw [allB, hm0, hm1]
    · have hb' : bitN m i = 0 := by
        have h2 := bitN_cases m i
        have h3 : ¬ ((bitN m i : Nat) : Int) = 1 := by simpa using hb
        omega
      refine Tri.skip (cutG ?_)
      refine Tri.of Tryz.mixed Tryz.T_ok ?_
      (refine wBegin ?_; ((conv => arg 5; whnf); repeat ((with_reducible first | refine xT ?_ | refine xF ?_ | refine xO ?_ | refine xN ?_ | refine xU ?_ | refine xV ?_); conv => arg 5; whnf)))
      (refine wP _ _ (append_op Tryz.T_ok rfl rfl rfl rfl rfl [7, 17] (old_vec rfl rfl (Nat.le_refl _) rfl) (new_sla (g := rowB (markH (o i)).l) rfl rfl rfl (fun _ _ => rfl) rfl) rfl (fun _ _ => rfl) (by simp only [maxLen]; omega) (by dsimp only; omega)) ?_; ((conv => arg 5; whnf); repeat ((with_reducible first | refine xT ?_ | refine xF ?_ | refine xO ?_ | refine xN ?_ | refine xU ?_ | refine xV ?_); conv => arg 5; whnf)))
      (refine wP _ _ (append_op Tryz.T_ok rfl rfl rfl rfl rfl [27, 18] (old_vec rfl rfl (Nat.le_refl _) rfl) (new_sla (g := rowB (s i).l) rfl rfl rfl (fun _ _ => rfl) rfl) rfl (fun _ _ => rfl) (by simp only [maxLen]; omega) (by dsimp only; omega)) ?_; ((conv => arg 5; whnf); repeat ((with_reducible first | refine xT ?_ | refine xF ?_ | refine xO ?_ | refine xN ?_ | refine xU ?_ | refine xV ?_); conv => arg 5; whnf)))
      refine wD <| blockN <| cutG <| Tri.of Tryz.mixed Tryz.T_ok ?_
      (refine wBegin ?_; ((conv => arg 5; whnf); repeat ((with_reducible first | refine xT ?_ | refine xF ?_ | refine xO ?_ | refine xN ?_ | refine xU ?_ | refine xV ?_); conv => arg 5; whnf)))
      refine wD <| loopN ⟨⟨i + 1, h1'⟩, by dsimp only; omega, ?_⟩
      rw [hw]
      have e1 : 16 * i + (((8 : Nat) : Int).toNat - (0 : Int).toNat) + (((8 : Nat) : Int).toNat - (0 : Int).toNat) = 16 * (i + 1) := by omega
      rw [e1]
      ((try dsimp only); refine Ent.renC [0, 1, 2, 3, 4, 5, 6, 29] hC ?_ ?_ <;> repeat' (first | exact trivial | exact rfl | exact ⟨_, rfl, rfl, rfl, Nat.le_refl _, fun _ _ => rfl⟩ | exact ⟨_, rfl, rfl, rfl, fun _ _ => rfl⟩ | exact ⟨_, rfl, rfl, rfl⟩ | exact ⟨_, rfl, rfl⟩ | refine ⟨_, rfl, rfl, rfl, by omega, fun k hk => ?_⟩ | refine ⟨?_, ?_⟩ | fail))
      have hm0 : (markOf m o s i 0) = markH (o i) := by unfold markOf; rw [if_pos hb'.symm]
      have hm1 : (markOf m o s i 1) = s i := by unfold markOf; rw [if_neg (by omega)]
      refine (hj _ _ k hk).trans ?_
      rw [allB, hm0, hm1]
  · (refine wGo ?_; ((conv => arg 5; whnf); repeat ((with_reducible first | refine xT ?_ | refine xF ?_ | refine xO ?_ | refine xN ?_ | refine xU ?_ | refine xV ?_); conv => arg 5; whnf)))
    have h1' : i = 16 := (by (try simp only [ww1, ww2, ww3, ww4, ww5, ww6, ww7] at *); omega)
    subst h1'
    obtain ⟨L, hL, hlen⟩ : ∃ L, allB (markOf m o s) 16 = L ∧ L.length = 16 * 16 := ⟨_, rfl, allB_length _ _⟩
    refine wD <| cutE <| loopX <| blockX <| cutG <| Tri.of Tryz.mixed Tryz.T_ok ?_
    rw [hL]
    (refine wBegin ?_; ((conv => arg 5; whnf); repeat ((with_reducible first | refine xT ?_ | refine xF ?_ | refine xO ?_ | refine xN ?_ | refine xU ?_ | refine xV ?_); conv => arg 5; whnf)))
    (refine wP _ _ (cellsNew_op Tryz.T_ok rfl rfl rfl) ?_; ((conv => arg 5; whnf); repeat ((with_reducible first | refine xT ?_ | refine xF ?_ | refine xO ?_ | refine xN ?_ | refine xU ?_ | refine xV ?_); conv => arg 5; whnf)))
    (apply wP; exact (call_op rfl (entersB_of Tryz.func35 (by kernel_rfl)) rfl ((digest_can 107 [L] (short1 _ _ (by rw [hlen]; decide))).at [11, 7] ⟨lend_plain rfl, lend_parts [L] rfl rfl rfl ⟨lend_vecN (lo := 0) hlen.symm rfl rfl (by show 0 + L.length ≤ 16 * 16; omega) (fun i _ => by rw [Nat.zero_add]), trivial⟩, trivial⟩ trivial)); ((conv => arg 5; whnf); repeat ((with_reducible first | refine xT ?_ | refine xF ?_ | refine xO ?_ | refine xN ?_ | refine xU ?_ | refine xV ?_); conv => arg 5; whnf)))
    exact wD (Ends.plain (v := hashX (dig 107 [L])) (.inr rfl) rfl (by rw [pubH, hL]))
end Go.Proofs.YtmoohekgheoliaaGreatDoor

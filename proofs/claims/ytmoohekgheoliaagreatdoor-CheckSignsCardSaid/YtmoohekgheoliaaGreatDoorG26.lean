/- Parts Wd Pg We Ph Hp Hq Hr Hs Hw Hx Hy Hz Hu Hv Ht Wf Wg Wh Wi Wj Wk. -/
import Derived.Test.YtmoohekgheoliaaGreatDoorG25
import Derived.Test.YtmoohekgheoliaaGreatDoorG24
import Derived.Test.YtmoohekgheoliaaGreatDoorG17
set_option linter.unusedSimpArgs false
set_option linter.unusedVariables false
namespace Go.Proofs.YtmoohekgheoliaaGreatDoor
set_option maxRecDepth 100000
open Go.Sx
theorem lend_insN {M : Mem} {rd : List Nat} {c j m k k' n e sz : Nat} {l : List Chunk} {f : Nat → List Value} (hkk : k' = k) (hm : M.get c = some (.abs (PackP l))) (hrd : nmem c rd = true) (hml : m = l.length) (hl : l[j]? = some (.vec e sz n f)) (hk : k ≤ n) : Lends M rd (.one (.ins c m j k')) (.row sz k f) := by
  subst hkk; exact lend_ins hm hrd hml hl hk fun _ _ => rfl
theorem makeT_sized {p : PlanM} {l : List LCoin} (h1 : p.ins.length ≤ 1000) (h2 : p.outs.length ≤ 1000) (h3 : p.fwds.length ≤ 1000) : Sized (makeT p l) := mkTx_sized (by rw [mkIns_len]; exact h1) h2 h3
theorem lend_made {M : Mem} {rd : List Nat} {c : Nat} (p : PlanM) (coins : List LCoin) (hm : M.get c = some (.abs (PackP [.vec 65 298 p.ins.length (insF (mkIns p coins p.ins.length)), .vec 67 9 p.outs.length (outsF (p.outs.map LCoin.out)), .vec 56 11 p.fwds.length (fwdsF p.fwds)]))) (hrd : nmem c rd = true) :
    Lends M rd (.agg (mkCells (.ins c 3 0 p.ins.length) (.ins c 3 1 p.outs.length) (.ins c 3 2 p.fwds.length))) (.box (makeT p coins).ac) :=
  lend_tx (t := makeT p coins) (lend_insN (mkIns_len p coins p.ins.length).symm hm hrd rfl rfl (Nat.le_of_eq (mkIns_len p coins p.ins.length))) (lend_insN (List.length_map _).symm hm hrd rfl rfl (Nat.le_of_eq (List.length_map _))) (lend_insN rfl hm hrd rfl rfl (Nat.le_refl _)) (lend_nil _ _) (lend_nil _ _) (lend_nil _ _)
def awC1 : LCoin := ⟨1, 5, 0, false⟩
def awPl : PlanM := ⟨[0], [⟨2, 3, 0, false⟩], [], 0⟩
def awSt (F : FillM) : St := ⟨[none, some (XV.sv (.ptr 1 0 0 0)), some (XV.sv (.ptr 2 0 0 0)), some (XV.sv (.slc 3 4 0 F.I.length))] ++ List.replicate 38 none,
  [(0, .ext stepsP), (1, .abs (usetP F.S)), (2, .abs (rcP F.R)), (3, .vec 79 4 F.I.length (coinsF F.I))], 4⟩
set_option maxHeartbeats 4000000 in
theorem awake_walk (F : FillM) (hF : fillN [awC1] 1 = F) (hm : mayPay (makeT awPl F.I) claim0_wf = true) (D : USet × (Int × Int)) (hD : doE F.S (makeT awPl F.I) 4 = D) (h1 : D.2 = (2, 0)) (h2 : D.1.total = 3) (h3 : D.1.coins.length = 1) : Reads Tryz.prog 9 [] [stepsP] (XV.bool true) := by
  have hlen := fillN_len [awC1] 1
  rw [hF] at hlen
  obtain ⟨l1, l2, l3, l4⟩ := hlen
  have hfill := fill_can [awC1] (by decide)
  rw [show fillN [awC1] [awC1].length = F from hF] at hfill
  have hdo := do_can F.S (makeT awPl F.I) 4 rfl (makeT_sized (by decide) (by decide) (by decide)) claim0_wf hm (by omega)
  rw [hD, h1] at hdo
  refine Reads.of Tryz.T_ok Tryz.func9 rfl _ _ _ rfl rfl (fun C hC => ?_)
  (replace hC : C.n0 = 1 := hC; change Tri _ _ _ ⟨_, _, 1⟩ _)
  (refine Tri.cut 2 Tryz.mixed Tryz.T_ok ?_; ((conv => arg 5; whnf); repeat (refine xS ?_; conv => arg 5; whnf)))
  (apply wP; exact (call_op rfl (entersB_of Tryz.func11 (by kernel_rfl)) rfl (hfill.at [3] ⟨lend_vec (lo := 0) rfl rfl (Nat.le_refl _) (lt1 rfl), trivial⟩ trivial)); ((conv => arg 5; whnf); repeat (refine xS ?_; conv => arg 5; whnf)))
  refine wD <| cutG <| Tri.ent (Ent.unpack (c := 4) (l := fillPack F) rfl) <| Tri.ent (S' := awSt F) ?_ (Tri.of Tryz.mixed Tryz.T_ok ?_)
  · unfold awSt
    ((try dsimp only); refine Ent.renC [0, 12, 13, 14] hC ?_ ?_ <;> repeat' (first | exact trivial | exact rfl | exact ⟨_, rfl, rfl, rfl, Nat.le_refl _, fun _ _ => rfl⟩ | exact ⟨_, rfl, rfl, rfl, fun _ _ => rfl⟩ | exact ⟨_, rfl, rfl, rfl⟩ | exact ⟨_, rfl, rfl⟩ | refine ⟨_, rfl, rfl, rfl, by omega, fun k hk => ?_⟩ | refine ⟨?_, ?_⟩ | fail))
  unfold awSt
  (refine wBegin ?_; ((conv => arg 5; whnf); repeat (refine xS ?_; conv => arg 5; whnf)))
  (apply wP; exact (call_op rfl (entersB_of Tryz.func12 (by kernel_rfl)) rfl ((make_can awPl F.I (by decide) (by decide) (by decide) (by omega)).at [7, 9, 3] ⟨lend_box ⟨lend_vec (lo := 0) rfl rfl (Nat.le_refl _) (lt1 rfl), lend_vec (lo := 0) rfl rfl (Nat.le_refl _) (lt1 rfl), lend_nil _ _, rfl, trivial⟩, lend_vec0 rfl rfl, trivial⟩ trivial)); ((conv => arg 5; whnf); repeat (refine xS ?_; conv => arg 5; whnf)))
  (apply wP; exact (call_op rfl (entersB_of Tryz.func14 (by kernel_rfl)) rfl (hdo.at [12, 0] rfl rfl rfl ⟨lend_made awPl F.I rfl rfl, lend_plain rfl, trivial⟩ ⟨lend_ext (c := 0) rfl rfl, trivial⟩)); ((conv => arg 5; whnf); repeat (refine xS ?_; conv => arg 5; whnf)))
  (apply wP; exact (call_op rfl (entersB_of Tryz.func13 (by kernel_rfl)) rfl (total_spec D.1 rfl rfl)); ((conv => arg 5; whnf); repeat (refine xS ?_; conv => arg 5; whnf)))
  (refine wTd ?_ ?_; (first | refine decide_eq_true ?_ | rw [beq_iff_eq] | rw [bne_iff_ne]); exact (by (try simp only [ww] at *); omega); refine wGo ?_; ((conv => arg 5; whnf); repeat (refine xS ?_; conv => arg 5; whnf)))
  (apply wP; exact (call_op rfl (entersB_of Tryz.func17 (by kernel_rfl)) rfl (len_spec D.1 rfl rfl)); ((conv => arg 5; whnf); repeat (refine xS ?_; conv => arg 5; whnf)))
  refine wD (Ends.plain (.inr rfl) rfl (congrArg (fun b : Bool => XV.bool b) ?_))
  rw [beq_iff_eq]
  omega
def OutM.v (c : OutM) : Value := .agg c.cells.toArray
theorem OutM.inj (a b : OutM) (h : a.v = b.v) : a = b := by
  have h : a.cells = b.cells := by
    have := congrArg (fun v => v.cells.toList) h
    simpa [OutM.v, Value.cells] using this
  obtain ⟨⟨_, _, _, _, _, _, _, _⟩, _⟩ := a
  obtain ⟨⟨_, _, _, _, _, _, _, _⟩, _⟩ := b
  simp only [OutM.cells, H8.cells, List.cons_append, List.nil_append, List.cons.injEq] at h
  obtain ⟨h0, h1, h2, h3, h4, h5, h6, h7, h8, _⟩ := h
  rw [u8_inj h0, u8_inj h1, u8_inj h2, u8_inj h3, u8_inj h4, u8_inj h5, u8_inj h6, u8_inj h7, i64_inj h8]
end Go.Proofs.YtmoohekgheoliaaGreatDoor
namespace Go.Proofs.YtmoohekgheoliaaGreatDoor
set_option maxRecDepth 100000
open Go.Sx
def SameOK : Prop := ∀ (S : USet) (R : RC), Twin S R → S.coins.length ≤ 1000 → ∀ {M : Mem} {c0 c1 d : Nat}, M.get c0 = some (.abs (usetP S)) → M.get c1 = some (.abs (rcP R)) → (Nat.beq c0 c1 || Nat.beq d c0 || Nat.beq d c1) = false →
    CallSpec Tryz.prog 20 [.one (.ptr c0 0 0 0), .one (.ptr c1 0 0 0)] M d { v := XV.bool true, upd := [(c0, .abs (usetP S)), (c1, .abs (rcP R))], wr := [c0, c1] } [c0, c1]
theorem rpay_bad (R : RC) (t : TxM) (h : Int) (hk : t.kind = 2) (hs : Sized t) (hc : t.claim.Wf) (hm : mayPay t hc = false) :
    Acts Tryz.prog 19 (.abs (rcP R)) (.abs (rcP R)) [.box t.ac, .plain (.one (.raw (.int .i64 h)))] [] (intsX (0, 4)) := by
  have hmay := mayTx_can t hk hs hc
  rw [hm] at hmay
  refine Acts.of Tryz.T_ok Tryz.func19 rfl _ _ _ _ _ rfl rfl rfl (fun C hC => ?_)
  (replace hC : C.n0 = 8 := hC; change Tri _ _ _ ⟨_, _, 8⟩ _)
  (refine Tri.cut 2 Tryz.mixed Tryz.T_ok ?_; ((conv => arg 5; whnf); repeat (refine xS ?_; conv => arg 5; whnf)))
  (refine wFd ?_ ?_; (first | refine decide_eq_false ?_ | rw [beq_eq_false_iff_ne] | rw [bne_eq_false_iff_eq]); exact (by (try simp only [ww] at *); omega); refine wGo ?_; ((conv => arg 5; whnf); repeat (refine xS ?_; conv => arg 5; whnf)))
  (apply wP; exact (call_op rfl (entersB_of Tryz.func41 (by kernel_rfl)) rfl (hmay.at [1, 2, 3, 4, 5, 6] ⟨lend_tx (t := t) (lend_ro0 rfl rfl) (lend_ro0 rfl rfl) (lend_ro0 rfl rfl) (lend_ro0 rfl rfl) (lend_ro0 rfl rfl) (lend_ro0 rfl rfl), trivial⟩ trivial)); ((conv => arg 5; whnf); repeat (refine xS ?_; conv => arg 5; whnf)))
  exact wD <| cutR <| Ends.shutN (.inr rfl) (Ent.refl _) rfl rfl rfl
noncomputable def payX (S : USet) (t : TxM) (hc : t.claim.Wf) (h : Int) : Int × Int := if mayPay t hc = true then payE S t h else (0, 4)
noncomputable def doX (S : USet) (t : TxM) (hc : t.claim.Wf) (h : Int64) : USet × (Int × Int) := if mayPay t hc = true then doE S t h else (S, (0, 4))
theorem rpayX_can {S : USet} {R : RC} (hT : Twin S R) (hR : R.P.length < 800000) (t : TxM) (h : Int) (hk : t.kind = 2) (hs : Sized t) (hc : t.claim.Wf) : Acts Tryz.prog 19 (.abs (rcP R)) (.abs (rcP R)) [.box t.ac, .plain (.one (.raw (.int .i64 h)))] [] (intsX (payX S t hc h)) := by
  by_cases hm : mayPay t hc = true
  · rw [payX, if_pos hm]; exact rpay_can S R hT.look hT.lens.2 (by omega) t h hk hs hc hm
  · rw [payX, if_neg hm]; exact rpay_bad R t h hk hs hc (by simpa using hm)
theorem doX_can (S : USet) (t : TxM) (h : Int64) (hk : t.kind = 2) (hs : Sized t) (hc : t.claim.Wf) (hS : S.steps.length < 800000) : Acts Tryz.prog 14 (.abs (usetP S)) (.abs (usetP (doX S t hc h).1)) [.box t.ac, .plain (.one (.raw (.int .i64 h.toInt)))] [stepsP] (intsX (doX S t hc h).2) := by
  by_cases hm : mayPay t hc = true
  · rw [doX, if_pos hm]; exact do_can S t h hk hs hc hm hS
  · rw [doX, if_neg hm]; exact do_bad S t h.toInt hk hs hc (by simpa using hm)
theorem fill_coins (l : List LCoin) (n : Nat) : (fillN l n).S.coins.length ≤ n := by
  have h1 := (twin_fill l n).lens
  have h2 := fillN_len l n
  omega
end Go.Proofs.YtmoohekgheoliaaGreatDoor
namespace Go.Proofs.YtmoohekgheoliaaGreatDoor
set_option maxRecDepth 100000
open Go.Sx
def keM0 (l : List LCoin) (p : PlanM) : Mem := [(0, .ro 4 l.length (coinsF l)), (1, .ro 1 p.ins.length (rowB p.ins)), (2, .ro 4 p.outs.length (coinsF p.outs)), (3, .ro 11 p.fwds.length (fwdsF p.fwds)), (5, .ext stepsP)]
end Go.Proofs.YtmoohekgheoliaaGreatDoor
namespace Go.Proofs.YtmoohekgheoliaaGreatDoor
set_option maxRecDepth 100000
open Go.Sx
def paM (l : List LCoin) (p : PlanM) : Mem := keM0 l p ++ [(6, .cells 26 (boxC 1 p.ac))]
theorem few_facts {p : PlanM} {n : Nat} (h : fewB p n = true) : p.ins.length ≤ 10 ∧ p.outs.length ≤ 30 ∧ p.fwds.length ≤ 30 ∧ n ≤ 60 := by
  rw [fewB, Bool.and_eq_true, Bool.and_eq_true, Bool.and_eq_true, decide_eq_true_eq, decide_eq_true_eq, decide_eq_true_eq, decide_eq_true_eq] at h
  omega
end Go.Proofs.YtmoohekgheoliaaGreatDoor
namespace Go.Proofs.YtmoohekgheoliaaGreatDoor
set_option maxRecDepth 100000
open Go.Sx
noncomputable def frc {α : Type} (x : Nat) (k : Nat → α) : α := @Nat.rec (fun _ => α) (k 0) (fun n _ => k (Nat.succ n)) x
theorem frc_eq {α : Type} (x : Nat) (k : Nat → α) : frc x k = k x := by cases x <;> rfl
def nrot (x n m : Nat) : Nat := Nat.lor (Nat.shiftRight x n) (Nat.mod (Nat.shiftLeft x m) 4294967296)
def nS0 (x : Nat) : Nat := Nat.xor (Nat.xor (nrot x 2 30) (nrot x 13 19)) (nrot x 22 10)
def nS1 (x : Nat) : Nat := Nat.xor (Nat.xor (nrot x 6 26) (nrot x 11 21)) (nrot x 25 7)
def ns0 (x : Nat) : Nat := Nat.xor (Nat.xor (nrot x 7 25) (nrot x 18 14)) (Nat.shiftRight x 3)
def ns1 (x : Nat) : Nat := Nat.xor (Nat.xor (nrot x 17 15) (nrot x 19 13)) (Nat.shiftRight x 10)
def nch (e f g : Nat) : Nat := Nat.xor (Nat.land e f) (Nat.land (Nat.xor 4294967295 e) g)
def nmaj (a b c : Nat) : Nat := Nat.xor (Nat.xor (Nat.land a b) (Nat.land a c)) (Nat.land b c)
def nT (e f g h k w : Nat) : Nat := Nat.mod (Nat.add (Nat.add (Nat.add (Nat.add h (nS1 e)) (nch e f g)) k) w) 4294967296
def nadd (a b : Nat) : Nat := Nat.mod (Nat.add a b) 4294967296
def nmix (w0 w1 w9 w14 : Nat) : Nat := Nat.mod (Nat.add (Nat.add (Nat.add w0 w9) (ns0 w1)) (ns1 w14)) 4294967296
abbrev B32 (x : Nat) : Prop := x < 4294967296
theorem bit_nat (f : BitVec 32 → BitVec 32 → BitVec 32) (g : Nat → Nat → Nat) (hf : ∀ a b, (f a b).toNat = g a.toNat b.toNat) {x y : Nat} (hx : B32 x) (hy : B32 y) : IntKind.u32.wrap ((f (BitVec.ofInt 32 (x : Int)) (BitVec.ofInt 32 (y : Int))).toNat : Int) = ((g x y : Nat) : Int) ∧ B32 (g x y) := by
  have e1 : (BitVec.ofInt 32 (x : Int)).toNat = x := by rw [ofInt_nat, BitVec.toNat_ofNat]; exact Nat.mod_eq_of_lt hx
  have e2 : (BitVec.ofInt 32 (y : Int)).toNat = y := by rw [ofInt_nat, BitVec.toNat_ofNat]; exact Nat.mod_eq_of_lt hy
  have h := (f (BitVec.ofInt 32 (x : Int)) (BitVec.ofInt 32 (y : Int))).isLt
  rw [hf, e1, e2] at h ⊢
  refine ⟨?_, h⟩
  rw [IntKind.wrap_u32]
  exact Int.emod_eq_of_lt (by omega) (by omega)
theorem xor_nat {x y : Nat} (hx : B32 x) (hy : B32 y) : bitI .xor .u32 (x : Int) (y : Int) = ((Nat.xor x y : Nat) : Int) := (bit_nat (· ^^^ ·) Nat.xor (fun a b => BitVec.toNat_xor a b) hx hy).1
theorem and_nat {x y : Nat} (hx : B32 x) (hy : B32 y) : bitI .and .u32 (x : Int) (y : Int) = ((Nat.land x y : Nat) : Int) := (bit_nat (· &&& ·) Nat.land (fun a b => BitVec.toNat_and a b) hx hy).1
theorem or_nat {x y : Nat} (hx : B32 x) (hy : B32 y) : bitI .or .u32 (x : Int) (y : Int) = ((Nat.lor x y : Nat) : Int) := (bit_nat (· ||| ·) Nat.lor (fun a b => BitVec.toNat_or a b) hx hy).1
theorem xor_lt {x y : Nat} (hx : B32 x) (hy : B32 y) : B32 (Nat.xor x y) := (bit_nat (· ^^^ ·) Nat.xor (fun a b => BitVec.toNat_xor a b) hx hy).2
theorem and_lt {x y : Nat} (hx : B32 x) (hy : B32 y) : B32 (Nat.land x y) := (bit_nat (· &&& ·) Nat.land (fun a b => BitVec.toNat_and a b) hx hy).2
theorem or_lt {x y : Nat} (hx : B32 x) (hy : B32 y) : B32 (Nat.lor x y) := (bit_nat (· ||| ·) Nat.lor (fun a b => BitVec.toNat_or a b) hx hy).2
theorem shr32_nat (x n : Nat) (hn : n ≤ 32) : shrI .u32 (x : Int) (n : Int) = ((Nat.shiftRight x n : Nat) : Int) := by
  have hb : IntKind.u32.bits = 32 := rfl
  have e : min ((n : Int).toNat) IntKind.u32.bits = n := by rw [hb]; omega
  rw [shrI, e, Int.fdiv_eq_ediv_of_nonneg _ (Int.le_of_lt (Int.pow_pos (by decide)))]
  show _ = ((x >>> n : Nat) : Int)
  rw [Nat.shiftRight_eq_div_pow, Int.natCast_ediv, Int.natCast_pow]
  rfl
theorem shl32_nat (x n : Nat) (hn : n ≤ 32) : shlI .u32 (x : Int) (n : Int) = ((Nat.mod (Nat.shiftLeft x n) 4294967296 : Nat) : Int) := by
  have hb : IntKind.u32.bits = 32 := rfl
  have e : min ((n : Int).toNat) IntKind.u32.bits = n := by rw [hb]; omega
  rw [shlI, e, IntKind.wrap_u32]
  show _ = ((x <<< n % 4294967296 : Nat) : Int)
  rw [Nat.shiftLeft_eq, Int.natCast_emod, Int.natCast_mul, Int.natCast_pow]
  rfl
theorem mod_lt32 (x : Nat) : B32 (Nat.mod x 4294967296) := Nat.mod_lt _ (by decide)
theorem shr_lt {x : Nat} (n : Nat) (hx : B32 x) : B32 (Nat.shiftRight x n) := by
  show x >>> n < _
  rw [Nat.shiftRight_eq_div_pow]
  exact Nat.lt_of_le_of_lt (Nat.div_le_self _ _) hx
theorem rot_lt {x : Nat} (n m : Nat) (hx : B32 x) : B32 (nrot x n m) := or_lt (shr_lt n hx) (mod_lt32 _)
theorem turn_nat {x n m : Nat} (hx : B32 x) (hn : n ≤ 32) (hm : m ≤ 32) (e : IntKind.u64.wrap (32 - (n : Int)) = (m : Int)) : turn (x : Int) (n : Int) = ((nrot x n m : Nat) : Int) := by
  rw [turn, e, shr32_nat x n hn, shl32_nat x m hm, or_nat (shr_lt n hx) (mod_lt32 _)]
  rfl
theorem w32_nat (a b : Nat) : w32 (a : Int) (b : Int) = ((nadd a b : Nat) : Int) := by
  rw [w32, IntKind.wrap_u32]
  show _ = (((a + b) % 4294967296 : Nat) : Int)
  omega
theorem rotR_nat {x : Nat} (hx : B32 x) : rotR (x : Int) 2 = ((nrot x 2 30 : Nat) : Int) ∧ rotR (x : Int) 13 = ((nrot x 13 19 : Nat) : Int) ∧ rotR (x : Int) 22 = ((nrot x 22 10 : Nat) : Int) ∧ rotR (x : Int) 6 = ((nrot x 6 26 : Nat) : Int) ∧ rotR (x : Int) 11 = ((nrot x 11 21 : Nat) : Int) ∧ rotR (x : Int) 25 = ((nrot x 25 7 : Nat) : Int)
    ∧ rotR (x : Int) 7 = ((nrot x 7 25 : Nat) : Int) ∧ rotR (x : Int) 18 = ((nrot x 18 14 : Nat) : Int) ∧ rotR (x : Int) 17 = ((nrot x 17 15 : Nat) : Int) ∧ rotR (x : Int) 19 = ((nrot x 19 13 : Nat) : Int) := by
  rw [← turn2, ← turn13, ← turn22, ← turn6, ← turn11, ← turn25, ← turn7, ← turn18, ← turn17, ← turn19]
  exact ⟨turn_nat (n := 2) (m := 30) hx (by decide) (by decide) (by decide), turn_nat (n := 13) (m := 19) hx (by decide) (by decide) (by decide), turn_nat (n := 22) (m := 10) hx (by decide) (by decide) (by decide), turn_nat (n := 6) (m := 26) hx (by decide) (by decide) (by decide), turn_nat (n := 11) (m := 21) hx (by decide) (by decide) (by decide), turn_nat (n := 25) (m := 7) hx (by decide) (by decide) (by decide),
    turn_nat (n := 7) (m := 25) hx (by decide) (by decide) (by decide), turn_nat (n := 18) (m := 14) hx (by decide) (by decide) (by decide), turn_nat (n := 17) (m := 15) hx (by decide) (by decide) (by decide), turn_nat (n := 19) (m := 13) hx (by decide) (by decide) (by decide)⟩
theorem sumA_nat {v : Nat → Int} {a : Nat} (h : v 0 = (a : Int)) (ha : B32 a) : sumA v = ((nS0 a : Nat) : Int) := by
  obtain ⟨r2, r13, r22, _⟩ := rotR_nat ha
  rw [sumA, h, r2, r13, r22, xor_nat (rot_lt _ _ ha) (rot_lt _ _ ha), xor_nat (xor_lt (rot_lt _ _ ha) (rot_lt _ _ ha)) (rot_lt _ _ ha)]
  rfl
theorem sumE_nat {v : Nat → Int} {a : Nat} (h : v 4 = (a : Int)) (ha : B32 a) : sumE v = ((nS1 a : Nat) : Int) := by
  obtain ⟨_, _, _, r6, r11, r25, _⟩ := rotR_nat ha
  rw [sumE, h, r6, r11, r25, xor_nat (rot_lt _ _ ha) (rot_lt _ _ ha), xor_nat (xor_lt (rot_lt _ _ ha) (rot_lt _ _ ha)) (rot_lt _ _ ha)]
  rfl
theorem sg0_nat {a : Nat} (ha : B32 a) : sg0 (a : Int) = ((ns0 a : Nat) : Int) := by
  obtain ⟨_, _, _, _, _, _, r7, r18, _⟩ := rotR_nat ha
  rw [sg0, r7, r18, show shrI .u32 (a : Int) 3 = _ from shr32_nat a 3 (by decide), xor_nat (rot_lt _ _ ha) (rot_lt _ _ ha), xor_nat (xor_lt (rot_lt _ _ ha) (rot_lt _ _ ha)) (shr_lt _ ha)]
  rfl
theorem sg1_nat {a : Nat} (ha : B32 a) : sg1 (a : Int) = ((ns1 a : Nat) : Int) := by
  obtain ⟨_, _, _, _, _, _, _, _, r17, r19⟩ := rotR_nat ha
  rw [sg1, r17, r19, show shrI .u32 (a : Int) 10 = _ from shr32_nat a 10 (by decide), xor_nat (rot_lt _ _ ha) (rot_lt _ _ ha), xor_nat (xor_lt (rot_lt _ _ ha) (rot_lt _ _ ha)) (shr_lt _ ha)]
  rfl
theorem chE_nat {v : Nat → Int} {e f g : Nat} (h4 : v 4 = (e : Int)) (h5 : v 5 = (f : Int)) (h6 : v 6 = (g : Int)) (he : B32 e) (hf : B32 f) (hg : B32 g) : chE v = ((nch e f g : Nat) : Int) := by
  have hm : (if IntKind.u32.signed then (-1 : Int) else IntKind.u32.max) = ((4294967295 : Nat) : Int) := by decide
  have h1 : B32 4294967295 := by decide
  rw [chE, h4, h5, h6, hm, and_nat he hf, xor_nat h1 he, and_nat (xor_lt h1 he) hg, xor_nat (and_lt he hf) (and_lt (xor_lt h1 he) hg)]
  rfl
theorem majA_nat {v : Nat → Int} {a b c : Nat} (h0 : v 0 = (a : Int)) (h1 : v 1 = (b : Int)) (h2 : v 2 = (c : Int)) (ha : B32 a) (hb : B32 b) (hc : B32 c) : majA v = ((nmaj a b c : Nat) : Int) := by
  rw [majA, h0, h1, h2, and_nat ha hb, and_nat ha hc, and_nat hb hc, xor_nat (and_lt ha hb) (and_lt ha hc), xor_nat (xor_lt (and_lt ha hb) (and_lt ha hc)) (and_lt hb hc)]
  rfl
structure R8 (v : Nat → Int) (a b c d e f g h : Nat) : Prop where
  (h0 : v 0 = (a : Int)) (h1 : v 1 = (b : Int)) (h2 : v 2 = (c : Int)) (h3 : v 3 = (d : Int)) (h4 : v 4 = (e : Int)) (h5 : v 5 = (f : Int)) (h6 : v 6 = (g : Int)) (h7 : v 7 = (h : Int))
  (l0 : B32 a) (l1 : B32 b) (l2 : B32 c) (l3 : B32 d) (l4 : B32 e) (l5 : B32 f) (l6 : B32 g) (l7 : B32 h)
theorem stT_nat {v : Nat → Int} {a b c d e f g h k w : Nat} (R : R8 v a b c d e f g h) : stT v (k : Int) (w : Int) = ((nT e f g h k w : Nat) : Int) := by
  rw [stT, R.h7, sumE_nat R.h4 R.l4, chE_nat R.h4 R.h5 R.h6 R.l4 R.l5 R.l6, w32_nat, w32_nat, w32_nat, w32_nat]
  congr 1
  show (((((h + nS1 e) % 4294967296 + nch e f g) % 4294967296) + k) % 4294967296 + w) % 4294967296 = (h + nS1 e + nch e f g + k + w) % 4294967296
  omega
theorem step_nat {v : Nat → Int} {a b c d e f g h k w : Nat} (R : R8 v a b c d e f g h) : R8 (stepV v (k : Int) (w : Int)) (Nat.mod (Nat.add (nT e f g h k w) (Nat.add (nS0 a) (nmaj a b c))) 4294967296) a b c (Nat.mod (Nat.add d (nT e f g h k w)) 4294967296) e f g := by
  refine ⟨?_, R.h0, R.h1, R.h2, ?_, R.h4, R.h5, R.h6, mod_lt32 _, R.l0, R.l1, R.l2, mod_lt32 _, R.l4, R.l5, R.l6⟩
  · show w32 (stT v k w) (stU v) = _
    rw [stT_nat R, stU, sumA_nat R.h0 R.l0, majA_nat R.h0 R.h1 R.h2 R.l0 R.l1 R.l2, w32_nat, w32_nat]
    congr 1
    show (nT e f g h k w + (nS0 a + nmaj a b c) % 4294967296) % 4294967296 = (nT e f g h k w + (nS0 a + nmaj a b c)) % 4294967296
    omega
  · show w32 (v 3) (stT v k w) = _
    rw [stT_nat R, R.h3, w32_nat]
    rfl
end Go.Proofs.YtmoohekgheoliaaGreatDoor
namespace Go.Proofs.YtmoohekgheoliaaGreatDoor
set_option maxRecDepth 100000
open Go.Sx
noncomputable def nrnd {α : Type} (K : Nat → Nat → Nat → Nat → Nat → Nat → Nat → Nat → α) (ks : List Nat) : Nat → Nat → Nat → Nat → Nat → Nat → Nat → Nat → Nat → Nat → Nat → Nat → Nat → Nat → Nat → Nat → Nat → Nat → Nat → Nat → Nat → Nat → Nat → Nat → α :=
  @List.rec Nat (fun _ => Nat → Nat → Nat → Nat → Nat → Nat → Nat → Nat → Nat → Nat → Nat → Nat → Nat → Nat → Nat → Nat → Nat → Nat → Nat → Nat → Nat → Nat → Nat → Nat → α)
    (fun a b c d e f g h _ _ _ _ _ _ _ _ _ _ _ _ _ _ _ _ => K a b c d e f g h)
    (fun k _ ih a b c d e f g h w0 w1 w2 w3 w4 w5 w6 w7 w8 w9 w10 w11 w12 w13 w14 w15 =>
      frc (nT e f g h k w0) fun t => frc (Nat.mod (Nat.add t (Nat.add (nS0 a) (nmaj a b c))) 4294967296) fun a' => frc (Nat.mod (Nat.add d t) 4294967296) fun e' =>
      frc (nmix w0 w1 w9 w14) fun w16 => ih a' a b c e' e f g w1 w2 w3 w4 w5 w6 w7 w8 w9 w10 w11 w12 w13 w14 w15 w16) ks
def ksN : List Nat := [1116352408, 1899447441, 3049323471, 3921009573, 961987163, 1508970993, 2453635748, 2870763221, 3624381080, 310598401, 607225278, 1426881987, 1925078388, 2162078206, 2614888103, 3248222580, 3835390401, 4022224774, 264347078, 604807628, 770255983, 1249150122, 1555081692, 1996064986, 2554220882, 2821834349, 2952996808, 3210313671, 3336571891, 3584528711, 113926993, 338241895, 666307205, 773529912, 1294757372, 1396182291, 1695183700, 1986661051, 2177026350, 2456956037, 2730485921, 2820302411, 3259730800, 3345764771, 3516065817, 3600352804, 4094571909, 275423344, 430227734, 506948616, 659060556, 883997877, 958139571, 1322822218, 1537002063, 1747873779, 1955562222, 2024104815, 2227730452, 2361852424, 2428436474, 2756734187, 3204031479, 3329325298]
noncomputable def nblocks {α : Type} (n : Nat) : List Nat → Nat → Nat → Nat → Nat → Nat → Nat → Nat → Nat → (Nat → Nat → α) → α :=
  @Nat.rec (fun _ => List Nat → Nat → Nat → Nat → Nat → Nat → Nat → Nat → Nat → (Nat → Nat → α) → α)
    (fun _ a b _ _ _ _ _ _ k => k a b)
    (fun _ ih l a b c d e f g h k =>
      frc (l.getD 0 0) fun w0 => frc (l.getD 1 0) fun w1 => frc (l.getD 2 0) fun w2 => frc (l.getD 3 0) fun w3 => frc (l.getD 4 0) fun w4 => frc (l.getD 5 0) fun w5 => frc (l.getD 6 0) fun w6 => frc (l.getD 7 0) fun w7 => frc (l.getD 8 0) fun w8 => frc (l.getD 9 0) fun w9 => frc (l.getD 10 0) fun w10 => frc (l.getD 11 0) fun w11 => frc (l.getD 12 0) fun w12 => frc (l.getD 13 0) fun w13 => frc (l.getD 14 0) fun w14 => frc (l.getD 15 0) fun w15 =>
      nrnd (fun a' b' c' d' e' f' g' h' => frc (nadd a a') fun a => frc (nadd b b') fun b => frc (nadd c c') fun c => frc (nadd d d') fun d => frc (nadd e e') fun e => frc (nadd f f') fun f => frc (nadd g g') fun g => frc (nadd h h') fun h => ih (l.drop 16) a b c d e f g h k)
        ksN a b c d e f g h w0 w1 w2 w3 w4 w5 w6 w7 w8 w9 w10 w11 w12 w13 w14 w15) n
theorem sched_val (b : Nat → UInt8) {n : Nat} : ∀ N, n < N → sched b N n = if n < 16 then word b n else mix (sched b n) n
  | 0, h => absurd h (Nat.not_lt_zero _)
  | N + 1, h => by
    rw [sched_step]
    by_cases e : n = N
    · subst e; rw [if_pos rfl]
    · rw [if_neg e]; exact sched_val b N (by omega)
theorem sched_same (b : Nat → UInt8) {n N N' : Nat} (h : n < N) (h' : n < N') : sched b N n = sched b N' n := by rw [sched_val b N h, sched_val b N' h']
theorem nmix_eq {w0 w1 w9 w14 : Nat} (h1 : B32 w1) (h14 : B32 w14) : w32 (w32 (w32 (w0 : Int) (w9 : Int)) (sg0 (w1 : Int))) (sg1 (w14 : Int)) = ((nmix w0 w1 w9 w14 : Nat) : Int) := by
  rw [sg0_nat h1, sg1_nat h14, w32_nat, w32_nat, w32_nat]
  congr 1
  show (((w0 + w9) % 4294967296 + ns0 w1) % 4294967296 + ns1 w14) % 4294967296 = (w0 + w9 + ns0 w1 + ns1 w14) % 4294967296
  omega
theorem sched_next (b : Nat → UInt8) {n w0 w1 w9 w14 : Nat} (hn : n + 16 < 64) (e0 : sched b 64 n = (w0 : Int)) (e1 : sched b 64 (n + 1) = (w1 : Int)) (e9 : sched b 64 (n + 9) = (w9 : Int)) (e14 : sched b 64 (n + 14) = (w14 : Int)) (h1 : B32 w1) (h14 : B32 w14) : sched b 64 (n + 16) = ((nmix w0 w1 w9 w14 : Nat) : Int) := by
  rw [sched_val b 64 hn, if_neg (by omega), mix, sched_same b (N' := 64) (n := n + 16 - 16) (by omega) (by omega), sched_same b (N' := 64) (n := n + 16 - 7) (by omega) (by omega), sched_same b (N' := 64) (n := n + 16 - 15) (by omega) (by omega), sched_same b (N' := 64) (n := n + 16 - 2) (by omega) (by omega),
    show n + 16 - 16 = n by omega, show n + 16 - 7 = n + 9 by omega, show n + 16 - 15 = n + 1 by omega, show n + 16 - 2 = n + 14 by omega, e0, e1, e9, e14, nmix_eq h1 h14]
theorem stepW_nat : ∀ n, n < 64 → stepW n = ((ksN.getD n 0 : Nat) : Int) := by decide
theorem ksN_drop {n : Nat} (h : n < 64) : ksN.drop n = ksN.getD n 0 :: ksN.drop (n + 1) := by
  have hl : ksN.length = 64 := rfl
  rw [List.drop_eq_getElem_cons (by omega), List.getD_eq_getElem?_getD, List.getElem?_eq_getElem (by omega)]; rfl
def WOk (b : Nat → UInt8) (n : Nat) (ws : Nat → Nat) : Prop := ∀ i, i < 16 → n + i < 64 → sched b 64 (n + i) = (ws i : Int) ∧ B32 (ws i)
theorem nrnd_eq {α : Type} (h0 : Nat → Int) (b : Nat → UInt8) (K : Nat → Nat → Nat → Nat → Nat → Nat → Nat → Nat → α) : ∀ m n, n + m = 64 → ∀ (a b' c d e f g h : Nat), R8 (stepsV h0 b n) a b' c d e f g h → ∀ ws, WOk b n ws →
    ∃ a2 b2 c2 d2 e2 f2 g2 h2, R8 (stepsV h0 b 64) a2 b2 c2 d2 e2 f2 g2 h2 ∧ nrnd K (ksN.drop n) a b' c d e f g h (ws 0) (ws 1) (ws 2) (ws 3) (ws 4) (ws 5) (ws 6) (ws 7) (ws 8) (ws 9) (ws 10) (ws 11) (ws 12) (ws 13) (ws 14) (ws 15) = K a2 b2 c2 d2 e2 f2 g2 h2
  | 0, n, hn, a, b', c, d, e, f, g, h, R, ws, W => by
    obtain rfl : n = 64 := by omega
    exact ⟨a, b', c, d, e, f, g, h, R, rfl⟩
  | m + 1, n, hn, a, b', c, d, e, f, g, h, R, ws, W => by
    rw [ksN_drop (by omega)]
    have hw := W 0 (by decide) (by omega)
    have hR := step_nat (k := ksN.getD n 0) (w := ws 0) R
    rw [← stepW_nat n (by omega), ← (show sched b 64 n = (ws 0 : Int) from hw.1)] at hR
    let ws' : Nat → Nat := fun i => if i < 15 then ws (i + 1) else nmix (ws 0) (ws 1) (ws 9) (ws 14)
    have hW : WOk b (n + 1) ws' := by
      intro i hi hni
      by_cases h15 : i < 15
      · have := W (i + 1) (by omega) (by omega)
        rw [show n + 1 + i = n + (i + 1) by omega]
        simp only [ws', if_pos h15]
        exact this
      · obtain rfl : i = 15 := by omega
        have q0 := W 0 (by decide) (by omega)
        have q1 := W 1 (by decide) (by omega)
        have q9 := W 9 (by decide) (by omega)
        have q14 := W 14 (by decide) (by omega)
        refine ⟨?_, mod_lt32 _⟩
        rw [show n + 1 + 15 = n + 16 by omega]
        exact sched_next b (by omega) q0.1 q1.1 q9.1 q14.1 q1.2 q14.2
    obtain ⟨a2, b2, c2, d2, e2, f2, g2, h2, R2, e2'⟩ := nrnd_eq h0 b K m (n + 1) (by omega) _ _ _ _ _ _ _ _ hR ws' hW
    refine ⟨a2, b2, c2, d2, e2, f2, g2, h2, R2, ?_⟩
    rw [← e2']
    show (frc (nT e f g h (ksN.getD n 0) (ws 0)) fun t => frc (Nat.mod (Nat.add t (Nat.add (nS0 a) (nmaj a b' c))) 4294967296) fun a' => frc (Nat.mod (Nat.add d t) 4294967296) fun e' =>
      frc (nmix (ws 0) (ws 1) (ws 9) (ws 14)) fun w16 => nrnd K (ksN.drop (n + 1)) a' a b' c e' e f g (ws 1) (ws 2) (ws 3) (ws 4) (ws 5) (ws 6) (ws 7) (ws 8) (ws 9) (ws 10) (ws 11) (ws 12) (ws 13) (ws 14) (ws 15) w16) = _
    rw [frc_eq, frc_eq, frc_eq, frc_eq]
    rfl
end Go.Proofs.YtmoohekgheoliaaGreatDoor
namespace Go.Proofs.YtmoohekgheoliaaGreatDoor
set_option maxRecDepth 100000
open Go.Sx
def w4v (a b c d : UInt8) : Nat := Nat.add (Nat.mul (Nat.add (Nat.mul (Nat.add (Nat.mul a.toNat 256) b.toNat) 256) c.toNat) 256) d.toNat
def w4 : List UInt8 → List Nat
  | a :: b :: c :: d :: r => w4v a b c d :: w4 r
  | _ => []
theorem w4_get : ∀ (i : Nat) (l : List UInt8), 4 * i + 3 < l.length → (w4 l).getD i 0 = w4v (l.getD (4 * i) 0) (l.getD (4 * i + 1) 0) (l.getD (4 * i + 2) 0) (l.getD (4 * i + 3) 0)
  | i, [], h => by simp at h
  | i, [_], h => by simp at h
  | i, [_, _], h => by simp only [List.length_cons, List.length_nil] at h; omega
  | i, [_, _, _], h => by simp only [List.length_cons, List.length_nil] at h; omega
  | 0, a :: b :: c :: d :: r, h => rfl
  | i + 1, a :: b :: c :: d :: r, h => by
    have := w4_get i r (by simp only [List.length_cons] at h; omega)
    show (w4 r).getD i 0 = _
    rw [this]
    rfl
theorem push_nat {w : Nat} (h : w < 16777216) (x : UInt8) : push (w : Int) x = ((Nat.add (Nat.mul w 256) x.toNat : Nat) : Int) := by
  have hx := x.toNat_lt
  have e1 : shlI .u32 (w : Int) 8 = ((Nat.mod (Nat.shiftLeft w 8) 4294967296 : Nat) : Int) := shl32_nat w 8 (by decide)
  have e2 : Nat.mod (Nat.shiftLeft w 8) 4294967296 = w <<< 8 := by
    show (w <<< 8) % 4294967296 = _
    rw [Nat.shiftLeft_eq]; omega
  have e3 : IntKind.u32.wrap (x.toNat : Int) = (x.toNat : Int) := by rw [IntKind.wrap_u32]; omega
  have b1 : B32 (w <<< 8) := by rw [Nat.shiftLeft_eq]; omega
  rw [push, e1, e2, e3, or_nat b1 (by omega)]
  congr 1
  show (w <<< 8) ||| x.toNat = w * 256 + x.toNat
  rw [← Nat.shiftLeft_add_eq_or_of_lt (by omega : x.toNat < 2 ^ 8), Nat.shiftLeft_eq]
theorem word_nat (b : Nat → UInt8) (i : Nat) : word b i = ((w4v (b (4 * i)) (b (4 * i + 1)) (b (4 * i + 2)) (b (4 * i + 3)) : Nat) : Int) ∧ B32 (w4v (b (4 * i)) (b (4 * i + 1)) (b (4 * i + 2)) (b (4 * i + 3))) := by
  have h0 := (b (4 * i)).toNat_lt
  have h1 := (b (4 * i + 1)).toNat_lt
  have h2 := (b (4 * i + 2)).toNat_lt
  have h3 := (b (4 * i + 3)).toNat_lt
  constructor
  · rw [word, show (0 : Int) = ((0 : Nat) : Int) from rfl, push_nat (by decide), push_nat, push_nat, push_nat]
    · show (((((0 * 256 + (b (4 * i)).toNat) * 256 + (b (4 * i + 1)).toNat) * 256 + (b (4 * i + 2)).toNat) * 256 + (b (4 * i + 3)).toNat : Nat) : Int) = _
      rw [Nat.zero_mul, Nat.zero_add]
      rfl
    · show ((0 * 256 + (b (4 * i)).toNat) * 256 + (b (4 * i + 1)).toNat) * 256 + (b (4 * i + 2)).toNat < _
      omega
    · show (0 * 256 + (b (4 * i)).toNat) * 256 + (b (4 * i + 1)).toNat < _
      omega
    · show 0 * 256 + (b (4 * i)).toNat < _
      omega
  · show (((b (4 * i)).toNat * 256 + (b (4 * i + 1)).toNat) * 256 + (b (4 * i + 2)).toNat) * 256 + (b (4 * i + 3)).toNat < _
    omega
theorem added_nat {h0 : Nat → Int} {b : Nat → UInt8} {a b' c d e f g h a2 b2 c2 d2 e2 f2 g2 h2 : Nat} (R : R8 h0 a b' c d e f g h) (R2 : R8 (stepsV h0 b 64) a2 b2 c2 d2 e2 f2 g2 h2) : R8 (blockW h0 b) (nadd a a2) (nadd b' b2) (nadd c c2) (nadd d d2) (nadd e e2) (nadd f f2) (nadd g g2) (nadd h h2) := by
  refine ⟨?_, ?_, ?_, ?_, ?_, ?_, ?_, ?_, mod_lt32 _, mod_lt32 _, mod_lt32 _, mod_lt32 _, mod_lt32 _, mod_lt32 _, mod_lt32 _, mod_lt32 _⟩
  · rw [blockW, R.h0, R2.h0, w32_nat]
  · rw [blockW, R.h1, R2.h1, w32_nat]
  · rw [blockW, R.h2, R2.h2, w32_nat]
  · rw [blockW, R.h3, R2.h3, w32_nat]
  · rw [blockW, R.h4, R2.h4, w32_nat]
  · rw [blockW, R.h5, R2.h5, w32_nat]
  · rw [blockW, R.h6, R2.h6, w32_nat]
  · rw [blockW, R.h7, R2.h7, w32_nat]
theorem getD_drop {E : Type} (l : List E) (n i : Nat) (d : E) : (l.drop n).getD i d = l.getD (n + i) d := by rw [List.getD_eq_getElem?_getD, List.getElem?_drop, ← List.getD_eq_getElem?_getD]
theorem nblocks_eq {α : Type} (l : List UInt8) (k : Nat → Nat → α) : ∀ m t, t + m = blocksN l → ∀ (a b c d e f g h : Nat), R8 (stateH l t) a b c d e f g h →
    ∃ x y : Nat, stateH l (blocksN l) 0 = (x : Int) ∧ stateH l (blocksN l) 1 = (y : Int) ∧ nblocks m ((w4 (padL l)).drop (16 * t)) a b c d e f g h k = k x y
  | 0, t, ht, a, b, c, d, e, f, g, h, R => by
    obtain rfl : t = blocksN l := by omega
    exact ⟨a, b, R.h0, R.h1, rfl⟩
  | m + 1, t, ht, a, b, c, d, e, f, g, h, R => by
    have hbl := blocks_eq l
    let ws : Nat → Nat := fun i => ((w4 (padL l)).drop (16 * t)).getD i 0
    have hW : WOk (blockAt l t) 0 ws := by
      intro i hi _
      have hg : ws i = w4v (blockAt l t (4 * i)) (blockAt l t (4 * i + 1)) (blockAt l t (4 * i + 2)) (blockAt l t (4 * i + 3)) := by
        show ((w4 (padL l)).drop (16 * t)).getD i 0 = _
        rw [getD_drop, w4_get _ _ (by omega)]
        simp only [blockAt, show 4 * (16 * t + i) = 64 * t + 4 * i by omega, Nat.add_assoc]
      have hw := word_nat (blockAt l t) i
      rw [hg, Nat.zero_add, sched_val _ 64 (by omega), if_pos hi]
      exact hw
    let K : Nat → Nat → Nat → Nat → Nat → Nat → Nat → Nat → α := fun a' b' c' d' e' f' g' h' => frc (nadd a a') fun a => frc (nadd b b') fun b => frc (nadd c c') fun c => frc (nadd d d') fun d => frc (nadd e e') fun e => frc (nadd f f') fun f => frc (nadd g g') fun g => frc (nadd h h') fun h => nblocks m (((w4 (padL l)).drop (16 * t)).drop 16) a b c d e f g h k
    obtain ⟨a2, b2, c2, d2, e2, f2, g2, h2, R2, hK⟩ := nrnd_eq (stateH l t) (blockAt l t) K 64 0 rfl a b c d e f g h R ws hW
    have hR : R8 (stateH l (t + 1)) _ _ _ _ _ _ _ _ := added_nat R R2
    obtain ⟨x, y, q1, q2, q3⟩ := nblocks_eq l k m (t + 1) (by omega) _ _ _ _ _ _ _ _ hR
    refine ⟨x, y, q1, q2, ?_⟩
    rw [← q3]
    have e1 : nblocks (m + 1) ((w4 (padL l)).drop (16 * t)) a b c d e f g h k = nrnd K (ksN.drop 0) a b c d e f g h (ws 0) (ws 1) (ws 2) (ws 3) (ws 4) (ws 5) (ws 6) (ws 7) (ws 8) (ws 9) (ws 10) (ws 11) (ws 12) (ws 13) (ws 14) (ws 15) := by
      show (frc (ws 0) fun w0 => frc (ws 1) fun w1 => frc (ws 2) fun w2 => frc (ws 3) fun w3 => frc (ws 4) fun w4 => frc (ws 5) fun w5 => frc (ws 6) fun w6 => frc (ws 7) fun w7 => frc (ws 8) fun w8 => frc (ws 9) fun w9 => frc (ws 10) fun w10 => frc (ws 11) fun w11 => frc (ws 12) fun w12 => frc (ws 13) fun w13 => frc (ws 14) fun w14 => frc (ws 15) fun w15 => nrnd K ksN a b c d e f g h w0 w1 w2 w3 w4 w5 w6 w7 w8 w9 w10 w11 w12 w13 w14 w15) = _
      simp only [frc_eq]
      rfl
    rw [e1, hK]
    show (frc (nadd a a2) fun a => frc (nadd b b2) fun b => frc (nadd c c2) fun c => frc (nadd d d2) fun d => frc (nadd e e2) fun e => frc (nadd f f2) fun f => frc (nadd g g2) fun g => frc (nadd h h2) fun h => nblocks m (((w4 (padL l)).drop (16 * t)).drop 16) a b c d e f g h k) = _
    simp only [frc_eq]
    rw [List.drop_drop, show 16 * t + 16 = 16 * (t + 1) by omega]
def h8of (x y : Nat) : H8 := ⟨UInt8.ofNat (Nat.shiftRight x 24), UInt8.ofNat (Nat.shiftRight x 16), UInt8.ofNat (Nat.shiftRight x 8), UInt8.ofNat x, UInt8.ofNat (Nat.shiftRight y 24), UInt8.ofNat (Nat.shiftRight y 16), UInt8.ofNat (Nat.shiftRight y 8), UInt8.ofNat y⟩
noncomputable def fsum {α : Type} (l : List UInt8) (k : H8 → α) : α := nblocks (blocksN l) (w4 (padL l)) 1779033703 3144134277 1013904242 2773480762 1359893119 2600822924 528734635 1541459225 fun x y => k (h8of x y)
noncomputable def fdig {α : Type} (p : UInt8) (bss : List (List UInt8)) (k : H8 → α) : α := fsum (encAll p bss) k
theorem byte_nat (x n : Nat) (hn : n ≤ 32) : byteI (IntKind.u8.wrap (shrI .u32 (x : Int) (n : Int))) = UInt8.ofNat (Nat.shiftRight x n) := by
  rw [shr32_nat x n hn, IntKind.wrap_u8, byteI]
  apply UInt8.toNat_inj.1
  rw [UInt8.toNat_ofNat', UInt8.toNat_ofNat']
  omega
theorem fdig_eq {α : Type} (p : UInt8) (bss : List (List UInt8)) (k : H8 → α) : fdig p bss k = k (dig p bss) := by
  have h0 : R8 (stateH (encAll p bss) 0) 1779033703 3144134277 1013904242 2773480762 1359893119 2600822924 528734635 1541459225 := by
    constructor <;> first | rfl | decide
  obtain ⟨x, y, hx, hy, hk⟩ := nblocks_eq (encAll p bss) (fun x y => k (h8of x y)) (blocksN (encAll p bss)) 0 (Nat.zero_add _) _ _ _ _ _ _ _ _ h0
  rw [fdig, fsum]
  refine hk.trans (congrArg k ?_)
  have b := byte_nat
  have s0 : ∀ z : Nat, Nat.shiftRight z 0 = z := fun _ => rfl
  have f : ∀ j : Nat, j < 8 → shaB (encAll p bss) j = UInt8.ofNat (Nat.shiftRight (if j < 4 then x else y) (24 - j % 4 * 8)) := by
    intro j hj
    rw [shaB]
    by_cases h4 : j < 4
    · rw [show j / 4 = 0 by omega, hx, if_pos h4, byte_nat _ _ (by omega)]
    · rw [show j / 4 = 1 by omega, hy, if_neg h4, byte_nat _ _ (by omega)]
  rw [dig, f 0 (by decide), f 1 (by decide), f 2 (by decide), f 3 (by decide), f 4 (by decide), f 5 (by decide), f 6 (by decide), f 7 (by decide)]
  rfl
end Go.Proofs.YtmoohekgheoliaaGreatDoor
namespace Go.Proofs.YtmoohekgheoliaaGreatDoor
set_option maxRecDepth 100000
open Go.Sx
noncomputable def fsecret {α : Type} (seed : H8) (idx i b : Nat) (k : H8 → α) : α := fdig 115 [seed.l, [byteI (IntKind.u8.wrap (idx : Int)), byteI (IntKind.u8.wrap (i : Int)), byteI (IntKind.u8.wrap (b : Int)), 0]] k
theorem fsecret_eq {α : Type} (seed : H8) (idx i b : Nat) (k : H8 → α) : fsecret seed idx i b k = k (secretH seed (idx : Int) (i : Int) (b : Int)) := fdig_eq _ _ _
noncomputable def fmark {α : Type} (h : H8) (k : H8 → α) : α := fdig 112 [h.l] k
theorem fmark_eq {α : Type} (h : H8) (k : H8 → α) : fmark h k = k (markH h) := fdig_eq _ _ _
noncomputable def fall {α : Type} (seed : H8) (idx : Nat) (n : Nat) : Nat → List UInt8 → (List UInt8 → α) → α :=
  @Nat.rec (fun _ => Nat → List UInt8 → (List UInt8 → α) → α) (fun _ acc k => k acc)
    (fun _ ih i acc k => fsecret seed idx i 0 fun s0 => fmark s0 fun m0 => fsecret seed idx i 1 fun s1 => fmark s1 fun m1 => ih (Nat.succ i) (acc ++ m0.l ++ m1.l) k) n
theorem fall_eq {α : Type} (seed : H8) (idx : Nat) (k : List UInt8 → α) : ∀ n i, fall seed idx n i (allB (fun i b => markH (secretH seed (idx : Int) (i : Int) (b : Int))) i) k = k (allB (fun i b => markH (secretH seed (idx : Int) (i : Int) (b : Int))) (i + n))
  | 0, i => rfl
  | n + 1, i => by
    show (fsecret seed idx i 0 fun s0 => fmark s0 fun m0 => fsecret seed idx i 1 fun s1 => fmark s1 fun m1 => fall seed idx n (Nat.succ i) (allB (fun i b => markH (secretH seed (idx : Int) (i : Int) (b : Int))) i ++ m0.l ++ m1.l) k) = _
    rw [fsecret_eq, fmark_eq, fsecret_eq, fmark_eq]
    rw [show i + (n + 1) = (i + 1) + n by omega]
    exact fall_eq seed idx k n (i + 1)
noncomputable def fpub {α : Type} (seed : H8) (idx : Nat) (k : H8 → α) : α := fall seed idx 16 0 [] fun l => fdig 107 [l] k
theorem fpub_eq {α : Type} (seed : H8) (idx : Nat) (k : H8 → α) : fpub seed idx k = k (pubS seed idx) := by
  have := fall_eq seed idx (fun l => fdig 107 [l] k) 16 0
  rw [fpub]
  refine this.trans ?_
  rw [fdig_eq]
  rfl
noncomputable def ftree {α : Type} (seed : H8) (k : H8 → α) : α :=
  fpub seed 0 fun p0 => fpub seed 1 fun p1 => fpub seed 2 fun p2 => fpub seed 3 fun p3 => fpub seed 4 fun p4 => fpub seed 5 fun p5 => fpub seed 6 fun p6 => fpub seed 7 fun p7 =>
  fdig 108 [p0.l] fun l0 => fdig 108 [p1.l] fun l1 => fdig 108 [p2.l] fun l2 => fdig 108 [p3.l] fun l3 => fdig 108 [p4.l] fun l4 => fdig 108 [p5.l] fun l5 => fdig 108 [p6.l] fun l6 => fdig 108 [p7.l] fun l7 =>
  fdig 109 [l0.l, l1.l] fun a => fdig 109 [l2.l, l3.l] fun b => fdig 109 [l4.l, l5.l] fun c => fdig 109 [l6.l, l7.l] fun d => fdig 109 [a.l, b.l] fun x => fdig 109 [c.l, d.l] fun y => fdig 109 [x.l, y.l] k
theorem ftree_eq {α : Type} (seed : H8) (k : H8 → α) : ftree seed k = k (treeH seed) := by
  rw [ftree]
  simp only [fpub_eq, fdig_eq]
  refine congrArg k ?_
  have h8 : halfN 8 = 4 := rfl
  have h4 : halfN 4 = 2 := rfl
  have h2 : halfN 2 = 1 := rfl
  rw [treeH, rootN_step (n := 8) (by decide), h8, rootN_step (n := 4) (by decide), h4, rootN_step (n := 2) (by decide), h2]
  simp only [show 8 - 4 = 4 from rfl, show 4 - 2 = 2 from rfl, show 2 - 1 = 1 from rfl]
  rw [rootN_step (n := 4) (by decide), h4]
  simp only [show 4 - 2 = 2 from rfl, rootN_step (n := 2) (by decide), h2, show 2 - 1 = 1 from rfl]
  rfl
def isZ (h : H8) : Bool := Nat.beq h.b0.toNat 0
theorem not_zero {h : H8} (e : isZ h = false) : h ≠ zeroH := by
  rintro rfl
  cases e
end Go.Proofs.YtmoohekgheoliaaGreatDoor
namespace Go.Proofs.YtmoohekgheoliaaGreatDoor
set_option maxRecDepth 100000
open Go.Sx
def isH (c h : H8) : Bool := Nat.beq h.b0.toNat c.b0.toNat && (Nat.beq h.b1.toNat c.b1.toNat && (Nat.beq h.b2.toNat c.b2.toNat && (Nat.beq h.b3.toNat c.b3.toNat && (Nat.beq h.b4.toNat c.b4.toNat && (Nat.beq h.b5.toNat c.b5.toNat && (Nat.beq h.b6.toNat c.b6.toNat && Nat.beq h.b7.toNat c.b7.toNat))))))
theorem of_isH {c h : H8} (e : isH c h = true) : h = c := by
  obtain ⟨a0, a1, a2, a3, a4, a5, a6, a7⟩ := h
  obtain ⟨c0, c1, c2, c3, c4, c5, c6, c7⟩ := c
  simp only [isH, Bool.and_eq_true, nbeq, decide_eq_true_eq, UInt8.toNat_inj] at e
  obtain ⟨rfl, rfl, rfl, rfl, rfl, rfl, rfl, rfl⟩ := e
  rfl
end Go.Proofs.YtmoohekgheoliaaGreatDoor
namespace Go.Proofs.YtmoohekgheoliaaGreatDoor
set_option maxRecDepth 100000
open Go.Sx
def swap16 (l : List UInt8) : List UInt8 := (l.drop 8).take 8 ++ l.take 8 ++ l.drop 16
def marks0 (seed : H8) (i b : Nat) : H8 := markH (secretH seed ((0 : Nat) : Int) (i : Int) (b : Int))
def pubW (seed : H8) : H8 := dig 107 [swap16 (allB (marks0 seed) 16)]
noncomputable def fpubW {α : Type} (seed : H8) (k : H8 → α) : α := fall seed 0 16 0 [] fun l => fdig 107 [swap16 l] k
theorem fpubW_eq {α : Type} (seed : H8) (k : H8 → α) : fpubW seed k = k (pubW seed) := by
  have := fall_eq seed 0 (fun l => fdig 107 [swap16 l] k) 16 0
  rw [fpubW]
  refine this.trans ?_
  rw [fdig_eq]
  rfl
def swapP (seed : H8) (k : Nat) : H8 := if k = 0 then pubW seed else pubS seed k
theorem root8 (h : Nat → H8) : rootN h 8 = dig 109 [(dig 109 [(dig 109 [(dig 108 [(h 0).l]).l, (dig 108 [(h 1).l]).l]).l, (dig 109 [(dig 108 [(h 2).l]).l, (dig 108 [(h 3).l]).l]).l]).l, (dig 109 [(dig 109 [(dig 108 [(h 4).l]).l, (dig 108 [(h 5).l]).l]).l, (dig 109 [(dig 108 [(h 6).l]).l, (dig 108 [(h 7).l]).l]).l]).l] := by
  have h8 : halfN 8 = 4 := rfl
  have h4 : halfN 4 = 2 := rfl
  have h2 : halfN 2 = 1 := rfl
  rw [rootN_step (n := 8) (by decide), h8, rootN_step (n := 4) (by decide), h4, rootN_step (n := 2) (by decide), h2]
  simp only [show 8 - 4 = 4 from rfl, show 4 - 2 = 2 from rfl, show 2 - 1 = 1 from rfl]
  rw [rootN_step (n := 4) (by decide), h4]
  simp only [show 4 - 2 = 2 from rfl, rootN_step (n := 2) (by decide), h2, show 2 - 1 = 1 from rfl]
  rfl
noncomputable def ftreeW {α : Type} (seed : H8) (k : H8 → α) : α :=
  fpubW seed fun p0 => fpub seed 1 fun p1 => fpub seed 2 fun p2 => fpub seed 3 fun p3 => fpub seed 4 fun p4 => fpub seed 5 fun p5 => fpub seed 6 fun p6 => fpub seed 7 fun p7 =>
  fdig 108 [p0.l] fun l0 => fdig 108 [p1.l] fun l1 => fdig 108 [p2.l] fun l2 => fdig 108 [p3.l] fun l3 => fdig 108 [p4.l] fun l4 => fdig 108 [p5.l] fun l5 => fdig 108 [p6.l] fun l6 => fdig 108 [p7.l] fun l7 =>
  fdig 109 [l0.l, l1.l] fun a => fdig 109 [l2.l, l3.l] fun b => fdig 109 [l4.l, l5.l] fun c => fdig 109 [l6.l, l7.l] fun d => fdig 109 [a.l, b.l] fun x => fdig 109 [c.l, d.l] fun y => fdig 109 [x.l, y.l] k
theorem swapP_zero (seed : H8) : swapP seed 0 = pubW seed := if_pos rfl
theorem swapP_pos (seed : H8) {k : Nat} (h : k ≠ 0) : swapP seed k = pubS seed k := if_neg h
theorem ftreeW_eq {α : Type} (seed : H8) (k : H8 → α) : ftreeW seed k = k (rootN (swapP seed) 8) := by
  rw [ftreeW]
  simp only [fpubW_eq, fpub_eq, fdig_eq]
  rw [root8, swapP_zero, swapP_pos seed (k := 1) (by decide), swapP_pos seed (k := 2) (by decide), swapP_pos seed (k := 3) (by decide), swapP_pos seed (k := 4) (by decide), swapP_pos seed (k := 5) (by decide), swapP_pos seed (k := 6) (by decide), swapP_pos seed (k := 7) (by decide)]
theorem not_isH {c h : H8} (e : isH c h = false) (hc : isH c c = true) : h ≠ c := by
  rintro rfl
  rw [e] at hc
  cases hc
end Go.Proofs.YtmoohekgheoliaaGreatDoor
namespace Go.Proofs.YtmoohekgheoliaaGreatDoor
set_option maxRecDepth 100000
open Go.Sx
theorem swap0_test : ftreeW ⟨117, 0, 0, 0, 0, 0, 0, 0⟩ (isH ⟨185, 28, 109, 200, 218, 138, 122, 171⟩) = false := by kernel_rfl
theorem swap0 : rootN (swapP ⟨117, 0, 0, 0, 0, 0, 0, 0⟩) 8 ≠ ⟨185, 28, 109, 200, 218, 138, 122, 171⟩ := not_isH ((ftreeW_eq _ (isH ⟨185, 28, 109, 200, 218, 138, 122, 171⟩)).symm.trans swap0_test) (by decide)
theorem swap1_test : ftreeW ⟨117, 1, 0, 0, 0, 0, 0, 0⟩ (isH ⟨124, 194, 226, 3, 222, 79, 80, 171⟩) = false := by kernel_rfl
theorem swap1 : rootN (swapP ⟨117, 1, 0, 0, 0, 0, 0, 0⟩) 8 ≠ ⟨124, 194, 226, 3, 222, 79, 80, 171⟩ := not_isH ((ftreeW_eq _ (isH ⟨124, 194, 226, 3, 222, 79, 80, 171⟩)).symm.trans swap1_test) (by decide)
theorem swap2_test : ftreeW ⟨117, 2, 0, 0, 0, 0, 0, 0⟩ (isH ⟨97, 105, 185, 214, 168, 100, 195, 57⟩) = false := by kernel_rfl
theorem swap2 : rootN (swapP ⟨117, 2, 0, 0, 0, 0, 0, 0⟩) 8 ≠ ⟨97, 105, 185, 214, 168, 100, 195, 57⟩ := not_isH ((ftreeW_eq _ (isH ⟨97, 105, 185, 214, 168, 100, 195, 57⟩)).symm.trans swap2_test) (by decide)
theorem swap3_test : ftreeW ⟨117, 3, 0, 0, 0, 0, 0, 0⟩ (isH ⟨220, 119, 52, 6, 41, 228, 172, 203⟩) = false := by kernel_rfl
theorem swap3 : rootN (swapP ⟨117, 3, 0, 0, 0, 0, 0, 0⟩) 8 ≠ ⟨220, 119, 52, 6, 41, 228, 172, 203⟩ := not_isH ((ftreeW_eq _ (isH ⟨220, 119, 52, 6, 41, 228, 172, 203⟩)).symm.trans swap3_test) (by decide)
end Go.Proofs.YtmoohekgheoliaaGreatDoor
namespace Go.Proofs.YtmoohekgheoliaaGreatDoor
set_option maxRecDepth 100000
open Go.Sx
theorem swap4_test : ftreeW ⟨117, 4, 0, 0, 0, 0, 0, 0⟩ (isH ⟨79, 205, 170, 96, 176, 204, 77, 83⟩) = false := by kernel_rfl
theorem swap4 : rootN (swapP ⟨117, 4, 0, 0, 0, 0, 0, 0⟩) 8 ≠ ⟨79, 205, 170, 96, 176, 204, 77, 83⟩ := not_isH ((ftreeW_eq _ (isH ⟨79, 205, 170, 96, 176, 204, 77, 83⟩)).symm.trans swap4_test) (by decide)
theorem swap5_test : ftreeW ⟨117, 5, 0, 0, 0, 0, 0, 0⟩ (isH ⟨250, 13, 5, 196, 28, 164, 191, 204⟩) = false := by kernel_rfl
theorem swap5 : rootN (swapP ⟨117, 5, 0, 0, 0, 0, 0, 0⟩) 8 ≠ ⟨250, 13, 5, 196, 28, 164, 191, 204⟩ := not_isH ((ftreeW_eq _ (isH ⟨250, 13, 5, 196, 28, 164, 191, 204⟩)).symm.trans swap5_test) (by decide)
theorem swap6_test : ftreeW ⟨117, 6, 0, 0, 0, 0, 0, 0⟩ (isH ⟨96, 143, 19, 255, 142, 233, 178, 120⟩) = false := by kernel_rfl
theorem swap6 : rootN (swapP ⟨117, 6, 0, 0, 0, 0, 0, 0⟩) 8 ≠ ⟨96, 143, 19, 255, 142, 233, 178, 120⟩ := not_isH ((ftreeW_eq _ (isH ⟨96, 143, 19, 255, 142, 233, 178, 120⟩)).symm.trans swap6_test) (by decide)
theorem swap7_test : ftreeW ⟨117, 7, 0, 0, 0, 0, 0, 0⟩ (isH ⟨166, 49, 38, 86, 91, 139, 10, 254⟩) = false := by kernel_rfl
theorem swap7 : rootN (swapP ⟨117, 7, 0, 0, 0, 0, 0, 0⟩) 8 ≠ ⟨166, 49, 38, 86, 91, 139, 10, 254⟩ := not_isH ((ftreeW_eq _ (isH ⟨166, 49, 38, 86, 91, 139, 10, 254⟩)).symm.trans swap7_test) (by decide)
end Go.Proofs.YtmoohekgheoliaaGreatDoor
namespace Go.Proofs.YtmoohekgheoliaaGreatDoor
set_option maxRecDepth 100000
open Go.Sx
theorem root0_test : ftree ⟨117, 0, 0, 0, 0, 0, 0, 0⟩ (isH ⟨185, 28, 109, 200, 218, 138, 122, 171⟩) = true := by kernel_rfl
theorem root0 : treeH ⟨117, 0, 0, 0, 0, 0, 0, 0⟩ = ⟨185, 28, 109, 200, 218, 138, 122, 171⟩ := of_isH ((ftree_eq _ (isH ⟨185, 28, 109, 200, 218, 138, 122, 171⟩)).symm.trans root0_test)
theorem root1_test : ftree ⟨117, 1, 0, 0, 0, 0, 0, 0⟩ (isH ⟨124, 194, 226, 3, 222, 79, 80, 171⟩) = true := by kernel_rfl
theorem root1 : treeH ⟨117, 1, 0, 0, 0, 0, 0, 0⟩ = ⟨124, 194, 226, 3, 222, 79, 80, 171⟩ := of_isH ((ftree_eq _ (isH ⟨124, 194, 226, 3, 222, 79, 80, 171⟩)).symm.trans root1_test)
theorem root2_test : ftree ⟨117, 2, 0, 0, 0, 0, 0, 0⟩ (isH ⟨97, 105, 185, 214, 168, 100, 195, 57⟩) = true := by kernel_rfl
theorem root2 : treeH ⟨117, 2, 0, 0, 0, 0, 0, 0⟩ = ⟨97, 105, 185, 214, 168, 100, 195, 57⟩ := of_isH ((ftree_eq _ (isH ⟨97, 105, 185, 214, 168, 100, 195, 57⟩)).symm.trans root2_test)
theorem root3_test : ftree ⟨117, 3, 0, 0, 0, 0, 0, 0⟩ (isH ⟨220, 119, 52, 6, 41, 228, 172, 203⟩) = true := by kernel_rfl
theorem root3 : treeH ⟨117, 3, 0, 0, 0, 0, 0, 0⟩ = ⟨220, 119, 52, 6, 41, 228, 172, 203⟩ := of_isH ((ftree_eq _ (isH ⟨220, 119, 52, 6, 41, 228, 172, 203⟩)).symm.trans root3_test)
end Go.Proofs.YtmoohekgheoliaaGreatDoor
namespace Go.Proofs.YtmoohekgheoliaaGreatDoor
set_option maxRecDepth 100000
open Go.Sx
theorem root4_test : ftree ⟨117, 4, 0, 0, 0, 0, 0, 0⟩ (isH ⟨79, 205, 170, 96, 176, 204, 77, 83⟩) = true := by kernel_rfl
theorem root4 : treeH ⟨117, 4, 0, 0, 0, 0, 0, 0⟩ = ⟨79, 205, 170, 96, 176, 204, 77, 83⟩ := of_isH ((ftree_eq _ (isH ⟨79, 205, 170, 96, 176, 204, 77, 83⟩)).symm.trans root4_test)
theorem root5_test : ftree ⟨117, 5, 0, 0, 0, 0, 0, 0⟩ (isH ⟨250, 13, 5, 196, 28, 164, 191, 204⟩) = true := by kernel_rfl
theorem root5 : treeH ⟨117, 5, 0, 0, 0, 0, 0, 0⟩ = ⟨250, 13, 5, 196, 28, 164, 191, 204⟩ := of_isH ((ftree_eq _ (isH ⟨250, 13, 5, 196, 28, 164, 191, 204⟩)).symm.trans root5_test)
theorem root6_test : ftree ⟨117, 6, 0, 0, 0, 0, 0, 0⟩ (isH ⟨96, 143, 19, 255, 142, 233, 178, 120⟩) = true := by kernel_rfl
theorem root6 : treeH ⟨117, 6, 0, 0, 0, 0, 0, 0⟩ = ⟨96, 143, 19, 255, 142, 233, 178, 120⟩ := of_isH ((ftree_eq _ (isH ⟨96, 143, 19, 255, 142, 233, 178, 120⟩)).symm.trans root6_test)
theorem root7_test : ftree ⟨117, 7, 0, 0, 0, 0, 0, 0⟩ (isH ⟨166, 49, 38, 86, 91, 139, 10, 254⟩) = true := by kernel_rfl
theorem root7 : treeH ⟨117, 7, 0, 0, 0, 0, 0, 0⟩ = ⟨166, 49, 38, 86, 91, 139, 10, 254⟩ := of_isH ((ftree_eq _ (isH ⟨166, 49, 38, 86, 91, 139, 10, 254⟩)).symm.trans root7_test)
end Go.Proofs.YtmoohekgheoliaaGreatDoor
namespace Go.Proofs.YtmoohekgheoliaaGreatDoor
set_option maxRecDepth 100000
open Go.Sx
theorem tree2_test : ftree ⟨117, 2, 0, 0, 0, 0, 0, 0⟩ isZ = false := by kernel_rfl
theorem tree2_ne : treeH ⟨117, 2, 0, 0, 0, 0, 0, 0⟩ ≠ zeroH := not_zero ((ftree_eq _ isZ).symm.trans tree2_test)
end Go.Proofs.YtmoohekgheoliaaGreatDoor
namespace Go.Proofs.YtmoohekgheoliaaGreatDoor
set_option maxRecDepth 100000
open Go.Sx
def KND (l : List (Pt × Coin)) : Prop := (l.map (·.1)).Nodup
theorem mget_absent {l : List (Pt × Coin)} {k : Pt} (h : k ∉ l.map (·.1)) : mget l k = none := mget_none fun x hx e => h (e ▸ List.mem_map_of_mem hx)
theorem absent_of {l : List (Pt × Coin)} {k : Pt} (h : mget l k = none) : k ∉ l.map (·.1) := by
  induction l with
  | nil => simp
  | cons x r ih =>
    simp only [mget] at h
    by_cases e : x.1 = k
    · rw [if_pos e] at h; cases h
    · rw [if_neg e] at h
      simp only [List.map_cons, List.mem_cons, not_or]
      exact ⟨Ne.symm e, ih h⟩
end Go.Proofs.YtmoohekgheoliaaGreatDoor
namespace Go.Proofs.YtmoohekgheoliaaGreatDoor
set_option maxRecDepth 100000
open Go.Sx
theorem ptAt_inj {id : H8} {i j : Nat} (hi : i < 1000000) (hj : j < 1000000) (h : ptAt id i = ptAt id j) : i = j := by
  have e : Int64.ofNat i = Int64.ofNat j := congrArg Pt.no h
  have a := ofNat_toInt hi
  have b := ofNat_toInt hj
  rw [e, ← b] at a
  omega
end Go.Proofs.YtmoohekgheoliaaGreatDoor
namespace Go.Proofs.YtmoohekgheoliaaGreatDoor
set_option maxRecDepth 100000
open Go.Sx
end Go.Proofs.YtmoohekgheoliaaGreatDoor
namespace Go.Proofs.YtmoohekgheoliaaGreatDoor
set_option maxRecDepth 100000
open Go.Sx
end Go.Proofs.YtmoohekgheoliaaGreatDoor
namespace Go.Proofs.YtmoohekgheoliaaGreatDoor
set_option maxRecDepth 100000
open Go.Sx
theorem ptOf_small {i : Nat} (h : i ≤ 60) : ptOf (i : Int) = ⟨⟨116, 0, 0, 0, 0, 0, 0, 0⟩, Int64.ofNat i⟩ := by
  have : ∀ i : Nat, i ≤ 60 → ptOf (i : Int) = ⟨⟨116, 0, 0, 0, 0, 0, 0, 0⟩, Int64.ofNat i⟩ := by decide
  exact this i h
theorem ptOf_ne {i j : Nat} (hi : i ≤ 60) (hj : j ≤ 60) (h : i ≠ j) : ptOf (i : Int) ≠ ptOf (j : Int) := by
  rw [ptOf_small hi, ptOf_small hj]
  intro e
  exact h (ptAt_inj (id := ⟨116, 0, 0, 0, 0, 0, 0, 0⟩) (by omega) (by omega) e)
theorem ptOf_lt {i j : Nat} (hj : j ≤ 60) (h : i < j) : ltPt (ptOf (i : Int)) (ptOf (j : Int)) = true := by
  have : ∀ j : Nat, j ≤ 60 → ∀ i : Nat, i < j → ltPt (⟨⟨116, 0, 0, 0, 0, 0, 0, 0⟩, Int64.ofNat i⟩ : Pt) ⟨⟨116, 0, 0, 0, 0, 0, 0, 0⟩, Int64.ofNat j⟩ = true := by decide
  rw [ptOf_small hj, ptOf_small (by omega)]
  exact this j hj i h
def ptsTo (n : Nat) : List Pt := (List.range n).map fun i : Nat => ptOf (i : Int)
theorem ptsTo_succ (n : Nat) : ptsTo (n + 1) = ptsTo n ++ [ptOf (n : Int)] := by simp [ptsTo, List.range_succ]
theorem ptsTo_len (n : Nat) : (ptsTo n).length = n := by simp [ptsTo]
theorem posIn_all {p : Pt} : ∀ {l : List Pt}, (∀ q ∈ l, ltPt q p = true) → posIn p l = l.length
  | [], _ => rfl
  | q :: r, h => by rw [posIn, if_pos (h q (by simp)), posIn_all fun x hx => h x (by simp [hx])]; rfl
structure FillOk (f : FillM) : Prop where
  n : f.I.length ≤ 60
  keys : f.S.coins.map (·.1) = ptsTo f.I.length
  P : f.R.P = ptsTo f.I.length
  C : f.R.C = f.S.coins.map (·.2)
  tot : f.S.total = f.R.sumN f.R.C.length
  rng : 0 ≤ f.S.total ∧ f.S.total ≤ 1125899906842624
theorem FillOk.zero : FillOk fill0 := ⟨by decide, rfl, rfl, rfl, rfl, by decide⟩
theorem FillOk.fresh {f : FillM} (h : FillOk f) (hn : f.I.length < 60) : mget f.S.coins (ptOf (f.I.length : Int)) = none ∧ f.R.isAt (ptOf (f.I.length : Int)) = false ∧ f.R.pos (ptOf (f.I.length : Int)) = f.R.P.length := by
  have hpos : f.R.pos (ptOf (f.I.length : Int)) = f.R.P.length := by
    rw [RC.pos, h.P]
    refine posIn_all fun q hq => ?_
    simp only [ptsTo, List.mem_map, List.mem_range] at hq
    obtain ⟨i, hi, rfl⟩ := hq
    exact ptOf_lt (by omega) hi
  refine ⟨mget_absent ?_, ?_, hpos⟩
  · rw [h.keys]
    simp only [ptsTo, List.mem_map, List.mem_range]
    rintro ⟨i, hi, e⟩
    exact ptOf_ne (by omega) (by omega) (by omega) e
  · rw [RC.isAt, hpos]; simp
theorem FillOk.nd {f : FillM} (h : FillOk f) : KND f.S.coins := by
  rw [KND, h.keys, ptsTo, List.Nodup, List.pairwise_map, List.pairwise_iff_getElem]
  intro i j hi hj hij
  simp only [List.length_range] at hi hj
  simp only [List.getElem_range]
  have := h.n
  exact ptOf_ne (by omega) (by omega) (by omega)
theorem sumN_congr {R R' : RC} : ∀ n, (∀ i, i < n → (R.C.getD i default).amt = (R'.C.getD i default).amt) → R.sumN n = R'.sumN n
  | 0, _ => rfl
  | n + 1, h => by rw [RC.sumN, RC.sumN, sumN_congr n (fun i hi => h i (by omega)), h n (by omega)]
theorem ptOf_no {i : Nat} (h : i ≤ 60) : (ptOf (i : Int)).no.toInt = (i : Int) := by
  rw [ptOf_small h]
  exact (ofNat_toInt (by omega)).symm
theorem FillOk.same {f : FillM} (h : FillOk f) (hn : f.I.length < 60) (c : Coin) : f.S.okB (ptOf (f.I.length : Int)) c = f.R.okB (ptOf (f.I.length : Int)) c := by
  obtain ⟨h1, h2, h3⟩ := h.fresh hn
  have hh : f.S.has (ptOf (f.I.length : Int)) = false := by rw [USet.has, h1]; rfl
  have hr := h.rng
  have e1 := ptOf_no (i := f.I.length) (by omega)
  rw [Bool.eq_iff_iff, USet.okB, RC.okB, h2, hh, e1, ← h.tot]
  simp only [bothB, mayB, IntKind.wrap_i64, Bool.and_eq_true, Bool.not_eq_true', decide_eq_false_iff_not, decide_eq_true_eq]
  have c1 := Int64.le_toInt c.amt
  have c2 := Int64.toInt_lt c.amt
  constructor <;> intro hq <;> repeat' (first | trivial | rfl | omega | refine ⟨?_, ?_⟩)
theorem sumN_append (P P' : List Pt) (l r : List Coin) : ∀ n, n ≤ l.length → (⟨P, l ++ r⟩ : RC).sumN n = (⟨P', l⟩ : RC).sumN n := fun n hn => sumN_congr n fun i hi => by
  show ((l ++ r).getD i default).amt = (l.getD i default).amt
  rw [List.getD_eq_getElem?_getD, List.getD_eq_getElem?_getD, List.getElem?_append_left (by omega)]
theorem FillOk.step {f : FillM} (h : FillOk f) (hn : f.I.length < 60) (c : LCoin) : FillOk (fillStep f c) := by
  obtain ⟨h1, h2, h3⟩ := h.fresh hn
  have hs := h.same hn c.coin
  by_cases hok : f.R.okB (ptOf (f.I.length : Int)) c.coin = true
  · have hok' := hs.trans hok
    have hn0 : f.S.coins.length = f.I.length := by rw [← List.length_map (f := (·.1)), h.keys, ptsTo_len]
    have hPl : f.R.P.length = f.I.length := by rw [h.P, ptsTo_len]
    have hCl : f.R.C.length = f.I.length := by rw [h.C, List.length_map, hn0]
    have e4 : mput f.S.coins (ptOf (f.I.length : Int)) c.coin = f.S.coins ++ [(ptOf (f.I.length : Int), c.coin)] := mput_none fun x hx e => absent_of h1 (e ▸ List.mem_map_of_mem hx)
    have e1 : f.S.add (ptOf (f.I.length : Int)) c.coin = ⟨f.S.coins ++ [(ptOf (f.I.length : Int), c.coin)], f.S.steps ++ [⟨ptOf (f.I.length : Int), c.coin, true⟩], IntKind.i64.wrap (f.S.total + c.coin.amt.toInt)⟩ := by
      rw [USet.add, if_pos hok', USet.add1, USet.put, e4]
    have e2 : f.R.add (ptOf (f.I.length : Int)) c.coin = ⟨f.R.P ++ [ptOf (f.I.length : Int)], f.R.C ++ [c.coin]⟩ := by
      rw [RC.add, if_pos hok, RC.add1, h3, List.take_length, List.drop_length, hPl, ← hCl, List.take_length, List.drop_length]
    rw [fillStep, e1, e2, if_pos hok]
    have hl : (f.I ++ [c]).length = f.I.length + 1 := by simp
    have hb : mayB (IntKind.i64.wrap (f.S.total + c.coin.amt.toInt)) = true := by
      rw [USet.okB, Bool.and_eq_true, bothB, Bool.and_eq_true] at hok'
      exact (Bool.and_eq_true _ _ ▸ hok'.2 : _ ∧ _).2
    refine ⟨?_, ?_, ?_, ?_, ?_, ?_⟩
    · show (f.I ++ [c]).length ≤ 60
      omega
    · show (f.S.coins ++ [(ptOf (f.I.length : Int), c.coin)]).map (·.1) = ptsTo (f.I ++ [c]).length
      rw [hl, ptsTo_succ, List.map_append, h.keys]; rfl
    · show f.R.P ++ [ptOf (f.I.length : Int)] = ptsTo (f.I ++ [c]).length
      rw [hl, ptsTo_succ, h.P]
    · show f.R.C ++ [c.coin] = (f.S.coins ++ [(ptOf (f.I.length : Int), c.coin)]).map (·.2)
      rw [List.map_append, h.C]; rfl
    · show IntKind.i64.wrap (f.S.total + c.coin.amt.toInt) = (⟨f.R.P ++ [ptOf (f.I.length : Int)], f.R.C ++ [c.coin]⟩ : RC).sumN (f.R.C ++ [c.coin]).length
      rw [List.length_append, List.length_singleton, RC.sumN, sumN_append _ f.R.P f.R.C [c.coin] _ (Nat.le_refl _), h.tot]
      congr 2
      show _ = ((f.R.C ++ [c.coin]).getD f.R.C.length default).amt.toInt
      simp [List.getD_eq_getElem?_getD]
    · show 0 ≤ IntKind.i64.wrap (f.S.total + c.coin.amt.toInt) ∧ IntKind.i64.wrap (f.S.total + c.coin.amt.toInt) ≤ 1125899906842624
      rw [mayB, Bool.and_eq_true, decide_eq_true_eq, decide_eq_true_eq] at hb
      exact hb
  · have e1 : f.S.add (ptOf (f.I.length : Int)) c.coin = f.S := by rw [USet.add, if_neg (by rw [hs]; exact hok)]
    have e2 : f.R.add (ptOf (f.I.length : Int)) c.coin = f.R := by rw [RC.add, if_neg hok]
    have e3 : fillStep f c = f := by rw [fillStep, e1, e2, if_neg hok]
    rw [e3]; exact h
end Go.Proofs.YtmoohekgheoliaaGreatDoor
namespace Go.Proofs.YtmoohekgheoliaaGreatDoor
set_option maxRecDepth 100000
open Go.Sx
theorem fillN_ok (l : List LCoin) : ∀ n, n ≤ 60 → FillOk (fillN l n)
  | 0, _ => FillOk.zero
  | n + 1, h => (fillN_ok l n (by omega)).step (by have := (fillN_len l n).2.2.2; omega) _
theorem FillOk.len {f : FillM} (h : FillOk f) : f.S.coins.length = f.R.P.length := by
  rw [h.P, ptsTo_len, ← List.length_map (f := (·.1)), h.keys, ptsTo_len]
theorem aw_ok : RC.empty.okB (ptOf ((0 : Nat) : Int)) awC1.coin = true := by kernel_rfl
theorem aw_fill : (fillN [awC1] 1).I = [awC1] := by
  show (if RC.empty.okB (ptOf ((0 : Nat) : Int)) awC1.coin = true then [] ++ [awC1] else []) = _
  rw [if_pos aw_ok]; rfl
theorem seed2 : seedU 2 = ⟨117, 2, 0, 0, 0, 0, 0, 0⟩ := by decide
end Go.Proofs.YtmoohekgheoliaaGreatDoor

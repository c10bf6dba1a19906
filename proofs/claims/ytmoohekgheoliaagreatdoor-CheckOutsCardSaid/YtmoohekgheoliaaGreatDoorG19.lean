/- Parts Tj Tk Tl Tm Ur. -/
import Derived.Test.YtmoohekgheoliaaGreatDoorG18
import Derived.Test.YtmoohekgheoliaaGreatDoorG14
import Derived.Test.YtmoohekgheoliaaGreatDoorG06
set_option linter.unusedSimpArgs false
set_option linter.unusedVariables false
namespace Go.Proofs.YtmoohekgheoliaaGreatDoor
set_option maxRecDepth 100000
open Go.Sx
theorem cloneIns_can (l : List InM) (hl : l.length ≤ 1000000) : Makes Tryz.prog 106 [.row 298 l.length (insF l)] [] (XV.sv (.slc 0 298 0 l.length)) (.vec 65 298 l.length (insF l)) := by
  refine Makes.of Tryz.T_ok Tryz.func106 rfl _ _ _ _ rfl rfl rfl rfl 1 (fun C hC => ?_)
  (replace hC : C.n0 = 1 := hC; change Tri _ _ _ ⟨_, _, 1⟩ _)
  (refine Tri.cut 1 Tryz.mixed Tryz.T_ok ?_; ((conv => arg 5; whnf); repeat (refine xS ?_; conv => arg 5; whnf)))
  refine wD <| cutG <| Tri.nilCases 0 rfl (fun h0 => ?_) (fun cap hcap => ?_)
  · obtain rfl : l = [] := List.length_eq_zero_iff.1 h0
    refine Tri.of Tryz.mixed Tryz.T_ok ?_
    (refine wBegin ?_; ((conv => arg 5; whnf); repeat (refine xS ?_; conv => arg 5; whnf)))
    refine wD (Ends.made (S' := ⟨[none, none, some (XV.sv (.slc 1 298 0 0)), none, none, none, none, none], [(0, .ro 298 0 (insF [])), (1, .vec 65 298 0 (insF []))], 2⟩) (.inr rfl) ((Ent.nils (t := 2) rfl 65 298).trans ?_) rfl (Nat.le_refl _) rfl)
    ((try dsimp only); refine Ent.renC [0, 5] hC ?_ ?_ <;> repeat' (first | exact trivial | exact rfl | exact ⟨_, rfl, rfl, rfl, Nat.le_refl _, fun _ _ => rfl⟩ | exact ⟨_, rfl, rfl, rfl, fun _ _ => rfl⟩ | exact ⟨_, rfl, rfl, rfl⟩ | exact ⟨_, rfl, rfl⟩ | refine ⟨_, rfl, rfl, rfl, by omega, fun k hk => ?_⟩ | refine ⟨?_, ?_⟩ | fail))
    exact absurd hk (Nat.not_lt_zero _)
  · refine Tri.of Tryz.mixed Tryz.T_ok ?_
    (refine wBegin ?_; ((conv => arg 5; whnf); repeat (refine xS ?_; conv => arg 5; whnf)))
    (refine wP _ _ (append_op Tryz.T_ok rfl rfl rfl rfl rfl [0, 4] (old_vec rfl rfl (Nat.le_refl _) rfl) (new_slar (lo := 0) rfl rfl rfl (Nat.zero_mul _).symm (by omega)) rfl (fun _ _ => rfl) (by simp only [maxLen]; omega) (by dsimp only; omega)) ?_; ((conv => arg 5; whnf); repeat (refine xS ?_; conv => arg 5; whnf)))
    simp only [Nat.zero_add]
    refine wD (Ends.made (S' := ⟨[none, none, some (XV.sv (.slc 1 298 0 l.length)), none, none, none, none, none], [(0, .ro 298 l.length (insF l)), (1, .vec 65 298 l.length (insF l))], 2⟩) (.inr rfl) ?_ rfl (Nat.le_refl _) rfl)
    ((try dsimp only); refine Ent.renC [0, 6] hC ?_ ?_ <;> repeat' (first | exact trivial | exact rfl | exact ⟨_, rfl, rfl, rfl, Nat.le_refl _, fun _ _ => rfl⟩ | exact ⟨_, rfl, rfl, rfl, fun _ _ => rfl⟩ | exact ⟨_, rfl, rfl, rfl⟩ | exact ⟨_, rfl, rfl⟩ | refine ⟨_, rfl, rfl, rfl, by omega, fun k hk => ?_⟩ | refine ⟨?_, ?_⟩ | fail))
def InM.bare (x : InM) : InM := ⟨x.pt, x.key, sig0⟩
def TxM.msg (t : TxM) : TxM := { t with ins := t.ins.map InM.bare }
def bareF (l : List InM) (k : Nat) : Nat → List Value := fun j => if j < k then (l.getD j default).bare.cells else (l.getD j default).cells
theorem bare_cells (x : InM) : x.cells.take 17 ++ sig0.cells ++ x.cells.drop (17 + sig0.cells.length) = x.bare.cells := rfl
theorem bareF_step (l : List InM) (i k : Nat) : updF (bareF l i) i 17 sig0.cells k = bareF l (i + 1) k := by
  by_cases hk : k = i
  · subst hk
    rw [updF_eq]
    unfold bareF
    rw [if_neg (Nat.lt_irrefl k), if_pos (Nat.lt_succ_self k), bare_cells]
  · rw [updF_ne hk]
    unfold bareF
    by_cases h : k < i
    · rw [if_pos h, if_pos (by omega)]
    · rw [if_neg h, if_neg (by omega)]
theorem bareF_all {l : List InM} {k : Nat} (hk : k < l.length) : bareF l l.length k = insF (l.map InM.bare) k := by
  unfold bareF insF rowOf
  rw [if_pos hk]
  congr 1
  rw [List.getD_eq_getElem?_getD, List.getD_eq_getElem?_getD, List.getElem?_map, List.getElem?_eq_getElem hk]
  rfl
theorem getD_map_bare {l : List InM} {i : Nat} (hi : i < l.length) : (l.map InM.bare).getD i default = (l.getD i default).bare := by
  rw [List.getD_eq_getElem?_getD, List.getD_eq_getElem?_getD, List.getElem?_map, List.getElem?_eq_getElem hi]
  rfl
theorem any_bare (l : List InM) (x : InM) (n : Nat) : ((l.map InM.bare).take n).any (sameAs x.bare) = (l.take n).any (sameAs x) := by
  rw [← List.map_take, List.any_map]
  rfl
theorem insOK_bare {l : List InM} (h : insOK l = true) : insOK (l.map InM.bare) = true := by
  rw [insOK, Bool.and_eq_true] at h ⊢
  rw [List.length_map]
  refine ⟨?_, h.2⟩
  rw [List.all_eq_true] at h ⊢
  intro i hi
  have hil := List.mem_range.1 hi
  have := h.1 i hi
  rw [insAt, Bool.and_eq_true, Bool.and_eq_true] at this ⊢
  rw [getD_map_bare hil, any_bare]
  exact ⟨this.1, this.2.1, rfl⟩
theorem mayPay_iff {t : TxM} {hc : t.claim.Wf} : mayPay t hc = true ↔ payB t = true ∧ (emptyB t.bare && claimZ t.claim hc) = true := by
  unfold mayPay; rw [Bool.and_eq_true]
theorem mayPay_msg {t : TxM} {hc : t.claim.Wf} (h : mayPay t hc = true) : mayPay t.msg hc = true := by
  have h := mayPay_iff.1 h
  refine mayPay_iff.2 ⟨?_, h.2⟩
  have h1 := h.1
  unfold payB at h1 ⊢
  rw [Bool.and_eq_true] at h1 ⊢
  exact ⟨insOK_bare h1.1, h1.2⟩
theorem Sized.msg {t : TxM} (h : Sized t) : Sized t.msg := ⟨by simpa [TxM.msg] using h.ins, h.outs, h.fwds, h.keys, h.couts, h.sigs⟩
theorem row1 {x : UInt8} {v : Value} (h : v = u8 x) : ∀ i, i < [x].length → rowB [x] i = cutF [v] 1 (0 + i) := by
  subst h
  intro i hi
  match i, hi with
  | 0, _ => rfl
def msgSt (t : TxM) (i : Int) (k : Nat) : St :=
  ⟨[none, some (XV.int .i64 i), some (XV.sv (.ptr 8 0 0 0)), none, some (XV.sv (.ptr 9 0 0 0))] ++ List.replicate 28 none ++ [some (XV.int .i64 t.ins.length), some (XV.int .i64 k)] ++ List.replicate 17 none,
   [(1, .ro 9 t.outs.length (outsF t.outs)), (2, .ro 11 t.fwds.length (fwdsF t.fwds)), (3, .ro 8 t.par.keys.length (keysF t.par.keys)), (4, .ro 9 t.cert.outs.length (outsF t.cert.outs)), (5, .ro 282 t.cert.sigs.length (sgdsF t.cert.sigs)), (7, .ext stepsP),
    (8, .cells 49 (txCells t (.slc 10 298 0 t.ins.length) (.slc 1 9 0 t.outs.length) (.slc 2 11 0 t.fwds.length) (.slc 3 8 0 t.par.keys.length) (.slc 4 9 0 t.cert.outs.length) (.slc 5 282 0 t.cert.sigs.length))),
    (9, .cells 39 ((List.replicate 8 (u8 0)).map .raw)), (10, .vec 65 298 t.ins.length (bareF t.ins k))], 11⟩
def msgH (t : TxM) (i : Int) : H8 := dig 105 [payEnc t.msg, [byteI (IntKind.u8.wrap i)]]
set_option maxHeartbeats 4000000 in
theorem message_can (t : TxM) (i : Nat) (hk : t.kind = 2) (hs : Sized t) (hc : t.claim.Wf) (hm : mayPay t hc = true) (hi : i < t.ins.length) : Reads Tryz.prog 73 [.box t.ac, .plain (.one (.raw (.int .i64 i)))] [stepsP] (.tup [(msgH t i).x, .one (.raw (.bool true))]) := by
  have hmay := may_true hk hs hc hm
  have hm' := mayPay_msg hm
  have hl : (payEnc t.msg).length ≤ 3000 := payEnc_len (mayPay_iff.1 hm').1
  have hins : t.ins.length ≤ 8 := by
    have := (mayPay_iff.1 hm).1
    rw [payB, Bool.and_eq_true, insOK, Bool.and_eq_true, within_iff] at this
    omega
  refine Reads.of Tryz.T_ok Tryz.func73 rfl _ _ _ rfl rfl (fun C hC => ?_)
  (replace hC : C.n0 = 8 := hC; change Tri _ _ _ ⟨_, _, 8⟩ _)
  (refine Tri.cut 3 Tryz.mixed Tryz.T_ok ?_; ((conv => arg 5; whnf); repeat (refine xS ?_; conv => arg 5; whnf)))
  (refine wFd ?_ ?_; (first | refine decide_eq_false ?_ | rw [beq_eq_false_iff_ne] | rw [bne_eq_false_iff_eq]); exact (by (try simp only [ww] at *); omega); refine wGo ?_; ((conv => arg 5; whnf); repeat (refine xS ?_; conv => arg 5; whnf)))
  (refine wFd ?_ ?_; (first | refine decide_eq_false ?_ | rw [beq_eq_false_iff_ne] | rw [bne_eq_false_iff_eq]); exact (by (try simp only [ww] at *); omega); refine wGo ?_; ((conv => arg 5; whnf); repeat (refine xS ?_; conv => arg 5; whnf)))
  (refine wFd ?_ ?_; (first | refine decide_eq_false ?_ | rw [beq_eq_false_iff_ne] | rw [bne_eq_false_iff_eq]); exact (by (try simp only [ww] at *); omega); refine wGo ?_; ((conv => arg 5; whnf); repeat (refine xS ?_; conv => arg 5; whnf)))
  (apply wP; exact (call_op rfl (entersB_of Tryz.func36 (by kernel_rfl)) rfl (hmay.at [0, 1, 2, 3, 4, 5] ⟨lend_tx (t := t) (lend_ro0 rfl rfl) (lend_ro0 rfl rfl) (lend_ro0 rfl rfl) (lend_ro0 rfl rfl) (lend_ro0 rfl rfl) (lend_ro0 rfl rfl), trivial⟩ trivial)); ((conv => arg 5; whnf); repeat (refine xS ?_; conv => arg 5; whnf)))
  (apply wP; exact (call_op rfl (entersB_of Tryz.func106 (by kernel_rfl)) rfl ((cloneIns_can t.ins (by omega)).at [0] ⟨lend_ro0 rfl rfl, trivial⟩ trivial)); ((conv => arg 5; whnf); repeat (refine xS ?_; conv => arg 5; whnf)))
  refine wD <| cutG <| Tri.seq ?_
  (refine Tri.cut 1 Tryz.mixed Tryz.T_ok ?_; ((conv => arg 5; whnf); repeat (refine xS ?_; conv => arg 5; whnf)))
  refine wD <| cutG <| Tri.block ?_
  refine Tri.loop (α := { k : Nat // k ≤ t.ins.length }) (fun k => msgSt t i k.1) (fun k => t.ins.length - k.1) ⟨0, Nat.zero_le _⟩ ?_ ?_
  · ((try dsimp only); refine Ent.renC [0, 1, 2, 3, 4, 5, 6, 7, 8, 9, 32] hC ?_ ?_ <;> repeat' (first | exact trivial | exact rfl | exact ⟨_, rfl, rfl, rfl, Nat.le_refl _, fun _ _ => rfl⟩ | exact ⟨_, rfl, rfl, rfl, fun _ _ => rfl⟩ | exact ⟨_, rfl, rfl, rfl⟩ | exact ⟨_, rfl, rfl⟩ | refine ⟨_, rfl, rfl, rfl, by omega, fun k hk => ?_⟩ | refine ⟨?_, ?_⟩ | fail))
  rintro ⟨k, hkk⟩
  dsimp only
  (refine Tri.cut 2 Tryz.mixed Tryz.T_ok ?_; ((conv => arg 5; whnf); repeat (refine xS ?_; conv => arg 5; whnf)))
  refine wC (fun h1 => ?_) (fun h1 => ?_)
  · (refine wGo ?_; ((conv => arg 5; whnf); repeat (refine xS ?_; conv => arg 5; whnf)))
    have h1' : k < t.ins.length := (by (try simp only [ww] at *); omega)
    have hw : IntKind.i64.wrap ((k : Int) + 1) = ((k + 1 : Nat) : Int) := (by (try simp only [ww] at *); omega)
    refine wD <| cutG <| Tri.seq <| Tri.block <| Tri.of Tryz.mixed Tryz.T_ok ?_
    (refine wBegin ?_; ((conv => arg 5; whnf); repeat (refine xS ?_; conv => arg 5; whnf)))
    (repeat (refine wN ?_ ?_; exact (by (try simp only [ww] at *); omega); refine wGo ?_; ((conv => arg 5; whnf); repeat (refine xS ?_; conv => arg 5; whnf))))
    simp only [Nat.zero_add, Int.toNat_natCast]
    refine wD <| blockN <| cutG <| Tri.of Tryz.mixed Tryz.T_ok ?_
    (refine wBegin ?_; ((conv => arg 5; whnf); repeat (refine xS ?_; conv => arg 5; whnf)))
    refine wD <| loopN ⟨⟨k + 1, h1'⟩, by dsimp only; omega, ?_⟩
    rw [hw]
    ((try dsimp only); refine Ent.renC [0, 1, 2, 3, 4, 5, 6, 7, 8, 9, 10] hC ?_ ?_ <;> repeat' (first | exact trivial | exact rfl | exact ⟨_, rfl, rfl, rfl, Nat.le_refl _, fun _ _ => rfl⟩ | exact ⟨_, rfl, rfl, rfl, fun _ _ => rfl⟩ | exact ⟨_, rfl, rfl, rfl⟩ | exact ⟨_, rfl, rfl⟩ | refine ⟨_, rfl, rfl, rfl, by omega, fun k hk => ?_⟩ | refine ⟨?_, ?_⟩ | fail))
    exact bareF_step _ _ _
  · (refine wGo ?_; ((conv => arg 5; whnf); repeat (refine xS ?_; conv => arg 5; whnf)))
    have h1' : k = t.ins.length := (by (try simp only [ww] at *); omega)
    subst h1'
    refine wD <| cutE <| loopX <| blockX <| cutG <| Tri.of Tryz.mixed Tryz.T_ok ?_
    (refine wBegin ?_; ((conv => arg 5; whnf); repeat (refine xS ?_; conv => arg 5; whnf)))
    (refine wP _ _ (cellsNew_op Tryz.T_ok rfl rfl rfl) ?_; ((conv => arg 5; whnf); repeat (refine xS ?_; conv => arg 5; whnf)))
    (apply wP; exact (call_op rfl (entersB_of Tryz.func56 (by kernel_rfl)) rfl ((digest_pay 105 t.msg [[byteI (IntKind.u8.wrap (i : Int))]] hk hs.msg hc hm' (by simp) (short2 _ _ _ (by simp; omega))).at [1, 2, 3, 4, 5, 7, 10, 15, 16] ⟨lend_plain rfl, lend_tx (t := t.msg) (lend_vecN (lo := 0) (List.length_map _).symm rfl rfl (by simp [TxM.msg]) (fun k hk => by rw [Nat.zero_add, bareF_all (by simpa [TxM.msg] using hk)]; rfl)) (lend_ro0 rfl rfl) (lend_ro0 rfl rfl) (lend_ro0 rfl rfl) (lend_ro0 rfl rfl) (lend_ro0 rfl rfl), lend_parts [[byteI (IntKind.u8.wrap (i : Int))]] rfl rfl rfl ⟨lend_vec (lo := 0) rfl rfl (Nat.le_refl _) (row1 (u8_byteI _).symm), trivial⟩, trivial⟩ ⟨lend_ext (c := 7) rfl rfl, trivial⟩)); ((conv => arg 5; whnf); repeat (refine xS ?_; conv => arg 5; whnf)))
    exact wD (Ends.plain (.inr rfl) rfl rfl)
end Go.Proofs.YtmoohekgheoliaaGreatDoor
namespace Go.Proofs.YtmoohekgheoliaaGreatDoor
set_option maxRecDepth 100000
open Go.Sx
def amtsF (l : List Int) : Nat → List Value := fun i => [.int .i64 (l.getD i 0)]
def sumM : Int → List Int → Option Int
  | acc, [] => some acc
  | acc, x :: r => if bothB acc x (IntKind.i64.wrap (acc + x)) = true then sumM (IntKind.i64.wrap (acc + x)) r else none
def sumX (l : List Int) : XV := .tup [.one (.raw (.int .i64 ((sumM 0 l).getD 0))), .one (.raw (.bool (sumM 0 l).isSome))]
theorem bothV_true {a b n : Int} (h : bothB a b n = true) : bothV a b n = [.one (.raw (.int .i64 n)), .one (.raw (.bool true))] := by rw [bothV, h]; rfl
theorem bothV_false {a b n : Int} (h : bothB a b n = false) : bothV a b n = [.one (.raw (.int .i64 0)), .one (.raw (.bool false))] := by rw [bothV, h]; rfl
theorem add_true {a b : Int} (h : bothB a b (IntKind.i64.wrap (a + b)) = true) (M : Mem) (d : Nat) : CallSpec Tryz.prog 52 [.one (.raw (.int .i64 a)), .one (.raw (.int .i64 b))] M d { v := .tup [.one (.raw (.int .i64 (IntKind.i64.wrap (a + b)))), .one (.raw (.bool true))] } [] := bothV_true h ▸ add_spec a b M d
theorem add_false {a b : Int} (h : bothB a b (IntKind.i64.wrap (a + b)) = false) (M : Mem) (d : Nat) : CallSpec Tryz.prog 52 [.one (.raw (.int .i64 a)), .one (.raw (.int .i64 b))] M d { v := .tup [.one (.raw (.int .i64 0)), .one (.raw (.bool false))] } [] := bothV_false h ▸ add_spec a b M d
theorem sub_spec (a b : Int) (M : Mem) (d : Nat) : CallSpec Tryz.prog 40 [.one (.raw (.int .i64 a)), .one (.raw (.int .i64 b))] M d { v := .tup (bothV a b (IntKind.i64.wrap (a - b))) } [] := by
  refine spec_pure Tryz.mixed Tryz.T_ok Tryz.func40 rfl _ _ rfl rfl (fun C _ => ?_) M d
  (refine wBegin ?_; ((conv => arg 5; whnf); repeat (refine xS ?_; conv => arg 5; whnf)))
  (apply wP; exact (call_op rfl (entersB_of Tryz.func75 (by kernel_rfl)) rfl (both_spec _ _ _ _ _)); ((conv => arg 5; whnf); repeat (refine xS ?_; conv => arg 5; whnf)))
  exact Ends.plain (.inr rfl) rfl rfl
theorem drop_cons {l : List Int} {i : Nat} (hi : i < l.length) : l.drop i = l.getD i 0 :: l.drop (i + 1) := by
  rw [List.drop_eq_getElem_cons hi, List.getD_eq_getElem?_getD, List.getElem?_eq_getElem hi]; rfl
theorem msum_can (l : List Int) (hl : l.length ≤ 2000000000) : Reads Tryz.prog 38 [.row 1 l.length (amtsF l)] [] (sumX l) := by
  refine Reads.of Tryz.T_ok Tryz.func38 rfl _ _ _ rfl rfl (fun C hC => ?_)
  (replace hC : C.n0 = 1 := hC; change Tri _ _ _ ⟨_, _, 1⟩ _)
  (refine Tri.cut 2 Tryz.mixed Tryz.T_ok ?_; ((conv => arg 5; whnf); repeat (refine xS ?_; conv => arg 5; whnf)))
  refine wD <| cutG <| Tri.seq ?_
  (refine Tri.cut 1 Tryz.mixed Tryz.T_ok ?_; ((conv => arg 5; whnf); repeat (refine xS ?_; conv => arg 5; whnf)))
  refine wD <| cutG <| Tri.block ?_
  refine Tri.loop (α := { x : Nat × Int // x.1 ≤ l.length ∧ sumM 0 l = sumM x.2 (l.drop x.1) }) (fun x => ⟨[some (XV.sv (.slc 0 1 0 l.length)), none, none, none, some (XV.int .i64 x.1.2), none, none, none, some (XV.sv (.slc 0 1 0 l.length)), some (XV.int .i64 l.length), some (XV.int .i64 x.1.1)] ++ List.replicate 13 none, [(0, .ro 1 l.length (amtsF l))], 1⟩) (fun x => l.length - x.1.1) ⟨(0, 0), Nat.zero_le _, by rw [List.drop_zero]⟩ ?_ ?_
  · ((try dsimp only); refine Ent.renC [0] hC ?_ ?_ <;> repeat' (first | exact trivial | exact rfl | exact ⟨_, rfl, rfl, rfl, Nat.le_refl _, fun _ _ => rfl⟩ | exact ⟨_, rfl, rfl, rfl, fun _ _ => rfl⟩ | exact ⟨_, rfl, rfl, rfl⟩ | exact ⟨_, rfl, rfl⟩ | refine ⟨_, rfl, rfl, rfl, by omega, fun k hk => ?_⟩ | refine ⟨?_, ?_⟩ | fail))
  rintro ⟨⟨i, acc⟩, hi, hs⟩
  dsimp only at hi hs ⊢
  (refine Tri.cut 2 Tryz.mixed Tryz.T_ok ?_; ((conv => arg 5; whnf); repeat (refine xS ?_; conv => arg 5; whnf)))
  refine wC (fun h1 => ?_) (fun h1 => ?_)
  · (refine wGo ?_; ((conv => arg 5; whnf); repeat (refine xS ?_; conv => arg 5; whnf)))
    have h1' : i < l.length := (by (try simp only [ww] at *); omega)
    have hw : IntKind.i64.wrap ((i : Int) + 1) = ((i + 1 : Nat) : Int) := (by (try simp only [ww] at *); omega)
    rw [drop_cons h1', sumM] at hs
    refine wD <| cutG <| Tri.seq <| Tri.block <| Tri.of Tryz.mixed Tryz.T_ok ?_
    (refine wBegin ?_; ((conv => arg 5; whnf); repeat (refine xS ?_; conv => arg 5; whnf)))
    (repeat (refine wN ?_ ?_; exact (by (try simp only [ww] at *); omega); refine wGo ?_; ((conv => arg 5; whnf); repeat (refine xS ?_; conv => arg 5; whnf))))
    simp only [Nat.zero_add, Int.toNat_natCast]
    cases h2 : bothB acc (l.getD i 0) (IntKind.i64.wrap (acc + l.getD i 0)) with
    | true =>
      rw [h2, if_pos rfl] at hs
      (apply wP; exact (call_op rfl (entersB_of Tryz.func52 (by kernel_rfl)) rfl (add_true h2 _ _)); ((conv => arg 5; whnf); repeat (refine xS ?_; conv => arg 5; whnf)))
      refine wD <| blockN <| cutG <| Tri.of Tryz.mixed Tryz.T_ok ?_
      (refine wBegin ?_; ((conv => arg 5; whnf); repeat (refine xS ?_; conv => arg 5; whnf)))
      refine wD <| loopN ⟨⟨(i + 1, IntKind.i64.wrap (acc + l.getD i 0)), h1', hs⟩, by dsimp only; omega, ?_⟩
      rw [hw]
      ((try dsimp only); refine Ent.renC [0] hC ?_ ?_ <;> repeat' (first | exact trivial | exact rfl | exact ⟨_, rfl, rfl, rfl, Nat.le_refl _, fun _ _ => rfl⟩ | exact ⟨_, rfl, rfl, rfl, fun _ _ => rfl⟩ | exact ⟨_, rfl, rfl, rfl⟩ | exact ⟨_, rfl, rfl⟩ | refine ⟨_, rfl, rfl, rfl, by omega, fun k hk => ?_⟩ | refine ⟨?_, ?_⟩ | fail))
    | false =>
      rw [h2, if_neg (by simp)] at hs
      (apply wP; exact (call_op rfl (entersB_of Tryz.func52 (by kernel_rfl)) rfl (add_false h2 _ _)); ((conv => arg 5; whnf); repeat (refine xS ?_; conv => arg 5; whnf)))
      refine wD <| blockR <| cutR <| loopR <| blockR <| cutR <| Ends.plain (.inr rfl) rfl ?_
      rw [sumX, hs]; rfl
  · (refine wGo ?_; ((conv => arg 5; whnf); repeat (refine xS ?_; conv => arg 5; whnf)))
    have h1' : i = l.length := (by (try simp only [ww] at *); omega)
    subst h1'
    rw [List.drop_length, sumM] at hs
    refine wD <| cutE <| loopX <| blockX <| cutG <| Tri.of Tryz.mixed Tryz.T_ok ?_
    (refine wBegin ?_; ((conv => arg 5; whnf); repeat (refine xS ?_; conv => arg 5; whnf)))
    refine wD (Ends.plain (.inr rfl) rfl ?_)
    rw [sumX, hs]; rfl
def payAmts (t : TxM) : List Int := t.outs.map (fun o => o.amt.toInt) ++ t.fwds.map (fun f => f.amt.toInt)
theorem amts_snoc {l : List Int} {x : Int} {f : Nat → List Value} {m k : Nat} (hm : m = l.length) (hf : f 0 = [.int .i64 x]) (hk : k < m + 1) : joinF (amtsF l) m f k = amtsF (l ++ [x]) k := by
  subst hm
  simp only [joinF, nblt]
  by_cases h : k < l.length
  · simp [h, amtsF, List.getD_eq_getElem?_getD, List.getElem?_append_left h]
  · obtain rfl : k = l.length := by omega
    simp [amtsF, hf]
theorem map_take_succ {E : Type} [Inhabited E] (g : E → Int) {l : List E} {i : Nat} (hi : i < l.length) : (l.take (i + 1)).map g = (l.take i).map g ++ [g (l.getD i default)] := by
  rw [List.take_add_one, List.map_append]
  have : l[i]?.toList = [l.getD i default] := by rw [List.getElem?_eq_getElem hi, List.getD_eq_getElem?_getD, List.getElem?_eq_getElem hi]; rfl
  rw [this]; rfl
def paidM (t : TxM) (m : Nat) (L : List Int) : Mem := [(1, .ro 9 t.outs.length (outsF t.outs)), (2, .ro 11 t.fwds.length (fwdsF t.fwds)), (6, .cells 49 t.cs), (7, .vec 3 1 m (amtsF L))]
set_option maxHeartbeats 2000000 in
theorem paid_can (t : TxM) (hs : Sized t) : Reads Tryz.prog 39 [.box t.ac] [] (sumX (payAmts t)) := by
  have ho := hs.outs
  have hf := hs.fwds
  refine Reads.of Tryz.T_ok Tryz.func39 rfl _ _ _ rfl rfl (fun C hC => ?_)
  (replace hC : C.n0 = 6 := hC; change Tri _ _ _ ⟨_, _, 6⟩ _)
  (refine Tri.cut 2 Tryz.mixed Tryz.T_ok ?_; ((conv => arg 5; whnf); repeat (refine xS ?_; conv => arg 5; whnf)))
  refine wD <| cutG <| Tri.ent (Ent.nils (t := 4) rfl 3 1) <| Tri.seq ?_
  (refine Tri.cut 1 Tryz.mixed Tryz.T_ok ?_; ((conv => arg 5; whnf); repeat (refine xS ?_; conv => arg 5; whnf)))
  refine wD <| cutG <| Tri.block ?_
  refine Tri.loop (α := { i : Nat // i ≤ t.outs.length }) (fun i => ⟨[none, some (XV.sv (.ptr 6 0 0 0)), none, none, some (XV.sv (.slc 7 1 0 i.1)), none, none, none, none, none, some (XV.sv (.slc 1 9 0 t.outs.length)), some (XV.int .i64 t.outs.length), some (XV.int .i64 i.1)] ++ List.replicate 26 none, paidM t i.1 ((t.outs.take i.1).map fun o => o.amt.toInt), 8⟩) (fun i => t.outs.length - i.1) ⟨0, Nat.zero_le _⟩ ?_ ?_
  · ((try dsimp only); refine Ent.renC [0, 1, 2, 3, 4, 5, 6, 10] hC ?_ ?_ <;> repeat' (first | exact trivial | exact rfl | exact ⟨_, rfl, rfl, rfl, Nat.le_refl _, fun _ _ => rfl⟩ | exact ⟨_, rfl, rfl, rfl, fun _ _ => rfl⟩ | exact ⟨_, rfl, rfl, rfl⟩ | exact ⟨_, rfl, rfl⟩ | refine ⟨_, rfl, rfl, rfl, by omega, fun k hk => ?_⟩ | refine ⟨?_, ?_⟩ | fail))
    exact absurd hk (Nat.not_lt_zero _)
  rintro ⟨i, hi⟩
  dsimp only
  (refine Tri.cut 2 Tryz.mixed Tryz.T_ok ?_; ((conv => arg 5; whnf); repeat (refine xS ?_; conv => arg 5; whnf)))
  refine wC (fun h1 => ?_) (fun h1 => ?_)
  · (refine wGo ?_; ((conv => arg 5; whnf); repeat (refine xS ?_; conv => arg 5; whnf)))
    have h1' : i < t.outs.length := (by (try simp only [ww] at *); omega)
    have hw : IntKind.i64.wrap ((i : Int) + 1) = ((i + 1 : Nat) : Int) := (by (try simp only [ww] at *); omega)
    refine wD <| cutG <| Tri.seq <| Tri.block <| Tri.of Tryz.mixed Tryz.T_ok ?_
    (refine wBegin ?_; ((conv => arg 5; whnf); repeat (refine xS ?_; conv => arg 5; whnf)))
    (repeat (refine wN ?_ ?_; exact (by (try simp only [ww] at *); omega); refine wGo ?_; ((conv => arg 5; whnf); repeat (refine xS ?_; conv => arg 5; whnf))))
    simp only [Nat.zero_add, Int.toNat_natCast]
    (refine wP _ _ (append_op Tryz.T_ok rfl rfl rfl rfl rfl [7, 16] (old_vec rfl rfl (Nat.le_refl _) rfl) (new_vec (lo := 0) rfl rfl (Nat.le_refl _) rfl) rfl (lt1 rfl) (by simp only [maxLen]; omega) (by dsimp only; omega)) ?_; ((conv => arg 5; whnf); repeat (refine xS ?_; conv => arg 5; whnf)))
    refine wD <| blockN <| cutG <| Tri.of Tryz.mixed Tryz.T_ok ?_
    (refine wBegin ?_; ((conv => arg 5; whnf); repeat (refine xS ?_; conv => arg 5; whnf)))
    refine wD <| loopN ⟨⟨i + 1, h1'⟩, by dsimp only; omega, ?_⟩
    rw [hw]
    dsimp only
    rw [map_take_succ _ h1']
    ((try dsimp only); refine Ent.renC [0, 1, 2, 3, 4, 5, 6, 17] hC ?_ ?_ <;> repeat' (first | exact trivial | exact rfl | exact ⟨_, rfl, rfl, rfl, Nat.le_refl _, fun _ _ => rfl⟩ | exact ⟨_, rfl, rfl, rfl, fun _ _ => rfl⟩ | exact ⟨_, rfl, rfl, rfl⟩ | exact ⟨_, rfl, rfl⟩ | refine ⟨_, rfl, rfl, rfl, by omega, fun k hk => ?_⟩ | refine ⟨?_, ?_⟩ | fail))
    exact amts_snoc (by rw [List.length_map, List.length_take]; omega) rfl hk
  · (refine wGo ?_; ((conv => arg 5; whnf); repeat (refine xS ?_; conv => arg 5; whnf)))
    have h1' : i = t.outs.length := (by (try simp only [ww] at *); omega)
    subst h1'
    rw [List.take_length]
    refine wD <| cutE <| loopX <| blockX <| cutG <| Tri.seq ?_
    (refine Tri.cut 1 Tryz.mixed Tryz.T_ok ?_; ((conv => arg 5; whnf); repeat (refine xS ?_; conv => arg 5; whnf)))
    refine wD <| cutG <| Tri.block ?_
    refine Tri.loop (α := { i : Nat // i ≤ t.fwds.length }) (fun i => ⟨[none, some (XV.sv (.ptr 6 0 0 0)), none, none, some (XV.sv (.slc 7 1 0 (t.outs.length + i.1)))] ++ List.replicate 18 none ++ [some (XV.sv (.slc 2 11 0 t.fwds.length)), some (XV.int .i64 t.fwds.length), some (XV.int .i64 i.1)] ++ List.replicate 13 none, paidM t (t.outs.length + i.1) (t.outs.map (fun o => o.amt.toInt) ++ (t.fwds.take i.1).map fun f => f.amt.toInt), 8⟩) (fun i => t.fwds.length - i.1) ⟨0, Nat.zero_le _⟩ ?_ ?_
    · dsimp only
      rw [List.take_zero, List.map_nil, List.append_nil, Nat.add_zero]
      ((try dsimp only); refine Ent.renC [0, 1, 2, 3, 4, 5, 6, 7] hC ?_ ?_ <;> repeat' (first | exact trivial | exact rfl | exact ⟨_, rfl, rfl, rfl, Nat.le_refl _, fun _ _ => rfl⟩ | exact ⟨_, rfl, rfl, rfl, fun _ _ => rfl⟩ | exact ⟨_, rfl, rfl, rfl⟩ | exact ⟨_, rfl, rfl⟩ | refine ⟨_, rfl, rfl, rfl, by omega, fun k hk => ?_⟩ | refine ⟨?_, ?_⟩ | fail))
    rintro ⟨i, hi⟩
    dsimp only
    (refine Tri.cut 2 Tryz.mixed Tryz.T_ok ?_; ((conv => arg 5; whnf); repeat (refine xS ?_; conv => arg 5; whnf)))
    refine wC (fun h2 => ?_) (fun h2 => ?_)
    · (refine wGo ?_; ((conv => arg 5; whnf); repeat (refine xS ?_; conv => arg 5; whnf)))
      have h2' : i < t.fwds.length := (by (try simp only [ww] at *); omega)
      have hw : IntKind.i64.wrap ((i : Int) + 1) = ((i + 1 : Nat) : Int) := (by (try simp only [ww] at *); omega)
      refine wD <| cutG <| Tri.seq <| Tri.block <| Tri.of Tryz.mixed Tryz.T_ok ?_
      (refine wBegin ?_; ((conv => arg 5; whnf); repeat (refine xS ?_; conv => arg 5; whnf)))
      (repeat (refine wN ?_ ?_; exact (by (try simp only [ww] at *); omega); refine wGo ?_; ((conv => arg 5; whnf); repeat (refine xS ?_; conv => arg 5; whnf))))
      simp only [Nat.zero_add, Int.toNat_natCast]
      (refine wP _ _ (append_op Tryz.T_ok rfl rfl rfl rfl rfl [7, 16] (old_vec rfl rfl (Nat.le_refl _) rfl) (new_vec (lo := 0) rfl rfl (Nat.le_refl _) rfl) rfl (lt1 rfl) (by simp only [maxLen]; omega) (by dsimp only; omega)) ?_; ((conv => arg 5; whnf); repeat (refine xS ?_; conv => arg 5; whnf)))
      refine wD <| blockN <| cutG <| Tri.of Tryz.mixed Tryz.T_ok ?_
      (refine wBegin ?_; ((conv => arg 5; whnf); repeat (refine xS ?_; conv => arg 5; whnf)))
      refine wD <| loopN ⟨⟨i + 1, h2'⟩, by dsimp only; omega, ?_⟩
      rw [hw]
      dsimp only
      rw [map_take_succ _ h2', ← List.append_assoc]
      ((try dsimp only); refine Ent.renC [0, 1, 2, 3, 4, 5, 6, 17] hC ?_ ?_ <;> repeat' (first | exact trivial | exact rfl | exact ⟨_, rfl, rfl, rfl, Nat.le_refl _, fun _ _ => rfl⟩ | exact ⟨_, rfl, rfl, rfl, fun _ _ => rfl⟩ | exact ⟨_, rfl, rfl, rfl⟩ | exact ⟨_, rfl, rfl⟩ | refine ⟨_, rfl, rfl, rfl, by omega, fun k hk => ?_⟩ | refine ⟨?_, ?_⟩ | fail))
      exact amts_snoc (by simp only [List.length_append, List.length_map, List.length_take]; omega) rfl hk
    · (refine wGo ?_; ((conv => arg 5; whnf); repeat (refine xS ?_; conv => arg 5; whnf)))
      have h2' : i = t.fwds.length := (by (try simp only [ww] at *); omega)
      subst h2'
      rw [List.take_length]
      refine wD <| cutE <| loopX <| blockX <| cutG <| Tri.of Tryz.mixed Tryz.T_ok ?_
      have hL : (payAmts t).length = t.outs.length + t.fwds.length := by simp [payAmts]
      (refine wBegin ?_; ((conv => arg 5; whnf); repeat (refine xS ?_; conv => arg 5; whnf)))
      (apply wP; exact (call_op rfl (entersB_of Tryz.func38 (by kernel_rfl)) rfl ((msum_can (payAmts t) (by omega)).at [7] ⟨by rw [hL]; exact lend_vec0 rfl rfl, trivial⟩ trivial)); ((conv => arg 5; whnf); repeat (refine xS ?_; conv => arg 5; whnf)))
      exact wD (Ends.plain (.inr rfl) rfl rfl)
end Go.Proofs.YtmoohekgheoliaaGreatDoor
namespace Go.Proofs.YtmoohekgheoliaaGreatDoor
set_option maxRecDepth 100000
open Go.Sx
def waitB (c h : Int) : Bool := decide (h < c) || decide (IntKind.u64.wrap (IntKind.u64.wrap h - IntKind.u64.wrap c) < 2)
def badIn (S : USet) (x : InM) : Bool := !S.has x.pt || !decide ((S.get x.pt).to = x.key)
def inE (S : USet) (t : TxM) (i : Nat) (h : Int) (x : InM) : Coin × Int :=
  if badIn S x = true then (coin0, 6) else if ((S.get x.pt).base && waitB (S.get x.pt).height.toInt h) = true then (coin0, 20) else if chkT x.key (msgH t i) x.sig = false then (coin0, 7) else (S.get x.pt, 0)
def pairX (r : Coin × Int) : XV := .tup [r.1.cv, .one (.raw (.int .i64 r.2))]
set_option maxHeartbeats 4000000 in
theorem in_can (S : USet) (t : TxM) (i : Nat) (h : Int) (hk : t.kind = 2) (hs : Sized t) (hc : t.claim.Wf) (hm : mayPay t hc = true) (hi : i < t.ins.length) :
    Acts Tryz.prog 37 (.abs (usetP S)) (.abs (usetP S)) [.box t.ac, .plain (.one (.raw (.int .i64 i))), .plain (.one (.raw (.int .i64 h)))] [stepsP] (pairX (inE S t i h (t.ins.getD i default))) := by
  have hins : t.ins.length ≤ 8 := by
    have := (mayPay_iff.1 hm).1
    rw [payB, Bool.and_eq_true, insOK, Bool.and_eq_true, within_iff] at this
    omega
  refine Acts.of Tryz.T_ok Tryz.func37 rfl _ _ _ _ _ rfl rfl rfl (fun C hC => ?_)
  (replace hC : C.n0 = 10 := hC; change Tri _ _ _ ⟨_, _, 10⟩ _)
  refine Tri.of Tryz.mixed Tryz.T_ok ?_
  (refine wBegin ?_; ((conv => arg 5; whnf); repeat (refine xS ?_; conv => arg 5; whnf)))
  (repeat (refine wN ?_ ?_; exact (by (try simp only [ww] at *); omega); refine wGo ?_; ((conv => arg 5; whnf); repeat (refine xS ?_; conv => arg 5; whnf))))
  simp only [Nat.zero_add, Int.toNat_natCast]
  (apply wP; exact (call_op rfl (entersB_of Tryz.func16 (by kernel_rfl)) rfl (get_spec S (t.ins.getD i default).pt rfl rfl)); ((conv => arg 5; whnf); repeat (refine xS ?_; conv => arg 5; whnf)))
  have bad : badIn S (t.ins.getD i default) = true → inE S t i h (t.ins.getD i default) = (coin0, 6) := fun e => by rw [inE, if_pos e]
  have good : badIn S (t.ins.getD i default) = false → inE S t i h (t.ins.getD i default) = if ((S.get (t.ins.getD i default).pt).base && waitB (S.get (t.ins.getD i default).pt).height.toInt h) = true then (coin0, 20) else if chkT (t.ins.getD i default).key (msgH t i) (t.ins.getD i default).sig = false then (coin0, 7) else (S.get (t.ins.getD i default).pt, 0) := fun e => by rw [inE, if_neg (by rw [e]; simp)]
  refine wC (fun h1 => ?_) (fun h1 => ?_)
  · have h1 : S.has (t.ins.getD i default).pt = false := by simpa using h1
    (refine wGo ?_; ((conv => arg 5; whnf); repeat (refine xS ?_; conv => arg 5; whnf)))
    refine wD (Ends.shutN (.inr rfl) (Ent.refl _) rfl rfl ?_)
    rw [bad (by rw [badIn, h1]; rfl)]; rfl
  · have h1 : S.has (t.ins.getD i default).pt = true := by simpa using h1
    (refine wGo ?_; ((conv => arg 5; whnf); repeat (refine xS ?_; conv => arg 5; whnf)))
    (refine wP _ _ (neq_op hashE rfl (S.get (t.ins.getD i default).pt).to (t.ins.getD i default).key rfl rfl) ?_; ((conv => arg 5; whnf); repeat (refine xS ?_; conv => arg 5; whnf)))
    refine wC (fun h2 => ?_) (fun h2 => ?_)
    · (refine wGo ?_; ((conv => arg 5; whnf); repeat (refine xS ?_; conv => arg 5; whnf)))
      refine wD (Ends.shutN (.inr rfl) (Ent.refl _) rfl rfl ?_)
      rw [bad (by rw [badIn, h1, h2]; rfl)]; rfl
    · (refine wGo ?_; ((conv => arg 5; whnf); repeat (refine xS ?_; conv => arg 5; whnf)))
      replace good := good (by rw [badIn, h1, h2]; rfl)
      have hmsg := message_can t i hk hs hc hm hi
      refine wC (fun h3 => ?_) (fun h3 => ?_)
      · (refine wGo ?_; ((conv => arg 5; whnf); repeat (refine xS ?_; conv => arg 5; whnf)))
        refine wC (fun h4 => ?_) (fun h4 => ?_)
        · (refine wGo ?_; ((conv => arg 5; whnf); repeat (refine xS ?_; conv => arg 5; whnf)))
          refine wD (Ends.shutN (.inr rfl) (Ent.refl _) rfl rfl ?_)
          rw [good, if_pos (by rw [waitB, h3, h4]; rfl)]; rfl
        · (refine wGo ?_; ((conv => arg 5; whnf); repeat (refine xS ?_; conv => arg 5; whnf)))
          refine wC (fun h6 => ?_) (fun h6 => ?_)
          · (refine wGo ?_; ((conv => arg 5; whnf); repeat (refine xS ?_; conv => arg 5; whnf)))
            refine wD (Ends.shutN (.inr rfl) (Ent.refl _) rfl rfl ?_)
            rw [good, if_pos (by rw [waitB, h3, h4, h6]; rfl)]; rfl
          · (refine wGo ?_; ((conv => arg 5; whnf); repeat (refine xS ?_; conv => arg 5; whnf)))
            rw [if_neg (by rw [waitB, h3, h4, h6]; simp)] at good
            (apply wP; exact (call_op rfl (entersB_of Tryz.func73 (by kernel_rfl)) rfl (hmsg.at [1, 2, 3, 4, 5, 6, 9] ⟨lend_tx (t := t) (lend_ro0 rfl rfl) (lend_ro0 rfl rfl) (lend_ro0 rfl rfl) (lend_ro0 rfl rfl) (lend_ro0 rfl rfl) (lend_ro0 rfl rfl), lend_plain rfl, trivial⟩ ⟨lend_ext (c := 9) rfl rfl, trivial⟩)); ((conv => arg 5; whnf); repeat (refine xS ?_; conv => arg 5; whnf)))
            (apply wP; exact (call_op rfl (entersB_of Tryz.func74 (by kernel_rfl)) rfl ((kcheck_can (t.ins.getD i default).key (msgH t i) (t.ins.getD i default).sig).at [9] ⟨lend_plain rfl, lend_plain rfl, lend_plain rfl, trivial⟩ ⟨lend_ext (c := 9) rfl rfl, trivial⟩)); ((conv => arg 5; whnf); repeat (refine xS ?_; conv => arg 5; whnf)))
            refine wC (fun h5 => ?_) (fun h5 => ?_)
            · have h5 : chkT (t.ins.getD i default).key (msgH t i) (t.ins.getD i default).sig = false := by simpa using h5
              (refine wGo ?_; ((conv => arg 5; whnf); repeat (refine xS ?_; conv => arg 5; whnf)))
              refine wD (Ends.shutN (.inr rfl) (Ent.refl _) rfl rfl ?_)
              rw [good, if_pos h5]; rfl
            · have h5 : chkT (t.ins.getD i default).key (msgH t i) (t.ins.getD i default).sig = true := by simpa using h5
              (refine wGo ?_; ((conv => arg 5; whnf); repeat (refine xS ?_; conv => arg 5; whnf)))
              refine wD (Ends.shutN (.inr rfl) (Ent.refl _) rfl rfl ?_)
              rw [good, if_neg (by rw [h5]; simp)]; rfl
      · (refine wGo ?_; ((conv => arg 5; whnf); repeat (refine xS ?_; conv => arg 5; whnf)))
        rw [if_neg (by rw [h3]; simp)] at good
        (apply wP; exact (call_op rfl (entersB_of Tryz.func73 (by kernel_rfl)) rfl (hmsg.at [1, 2, 3, 4, 5, 6, 9] ⟨lend_tx (t := t) (lend_ro0 rfl rfl) (lend_ro0 rfl rfl) (lend_ro0 rfl rfl) (lend_ro0 rfl rfl) (lend_ro0 rfl rfl) (lend_ro0 rfl rfl), lend_plain rfl, trivial⟩ ⟨lend_ext (c := 9) rfl rfl, trivial⟩)); ((conv => arg 5; whnf); repeat (refine xS ?_; conv => arg 5; whnf)))
        (apply wP; exact (call_op rfl (entersB_of Tryz.func74 (by kernel_rfl)) rfl ((kcheck_can (t.ins.getD i default).key (msgH t i) (t.ins.getD i default).sig).at [9] ⟨lend_plain rfl, lend_plain rfl, lend_plain rfl, trivial⟩ ⟨lend_ext (c := 9) rfl rfl, trivial⟩)); ((conv => arg 5; whnf); repeat (refine xS ?_; conv => arg 5; whnf)))
        refine wC (fun h5 => ?_) (fun h5 => ?_)
        · have h5 : chkT (t.ins.getD i default).key (msgH t i) (t.ins.getD i default).sig = false := by simpa using h5
          (refine wGo ?_; ((conv => arg 5; whnf); repeat (refine xS ?_; conv => arg 5; whnf)))
          refine wD (Ends.shutN (.inr rfl) (Ent.refl _) rfl rfl ?_)
          rw [good, if_pos h5]; rfl
        · have h5 : chkT (t.ins.getD i default).key (msgH t i) (t.ins.getD i default).sig = true := by simpa using h5
          (refine wGo ?_; ((conv => arg 5; whnf); repeat (refine xS ?_; conv => arg 5; whnf)))
          refine wD (Ends.shutN (.inr rfl) (Ent.refl _) rfl rfl ?_)
          rw [good, if_neg (by rw [h5]; simp)]; rfl
end Go.Proofs.YtmoohekgheoliaaGreatDoor
namespace Go.Proofs.YtmoohekgheoliaaGreatDoor
set_option maxRecDepth 100000
open Go.Sx
def inAt (S : USet) (t : TxM) (h : Int) (i : Nat) : Coin × Int := inE S t i h (t.ins.getD i default)
def firstE (S : USet) (t : TxM) (h : Int) : Nat → Int
  | 0 => 0
  | n + 1 => if firstE S t h n = 0 then (inAt S t h n).2 else firstE S t h n
def inAmts (S : USet) (t : TxM) (h : Int) (n : Nat) : List Int := (List.range n).map fun i => (inAt S t h i).1.amt.toInt
theorem inAmts_succ (S : USet) (t : TxM) (h : Int) (n : Nat) : inAmts S t h (n + 1) = inAmts S t h n ++ [(inAt S t h n).1.amt.toInt] := by simp [inAmts, List.range_succ]
theorem inAmts_length (S : USet) (t : TxM) (h : Int) (n : Nat) : (inAmts S t h n).length = n := by simp [inAmts]
theorem firstE_late {S : USet} {t : TxM} {h : Int} : ∀ {n m : Nat}, m ≤ n → firstE S t h m ≠ 0 → firstE S t h n = firstE S t h m
  | n, m, hle, hm => by
    induction n with
    | zero => obtain rfl : m = 0 := by omega
              rfl
    | succ n ih =>
      by_cases e : m = n + 1
      · rw [e]
      · have := ih (by omega)
        rw [firstE, if_neg (by rw [this]; exact hm), this]
def feeE (a b : Option Int) : Int × Int :=
  if (!a.isSome || (!b.isSome || !bothB (a.getD 0) (b.getD 0) (IntKind.i64.wrap (a.getD 0 - b.getD 0)))) = true then (0, 5) else (IntKind.i64.wrap (a.getD 0 - b.getD 0), 0)
def payE (S : USet) (t : TxM) (h : Int) : Int × Int :=
  if firstE S t h t.ins.length = 0 then feeE (sumM 0 (inAmts S t h t.ins.length)) (sumM 0 (payAmts t)) else (0, firstE S t h t.ins.length)
def intsX (r : Int × Int) : XV := .tup [.one (.raw (.int .i64 r.1)), .one (.raw (.int .i64 r.2))]
def txRows (t : TxM) : Mem := [(1, .ro 298 t.ins.length (insF t.ins)), (2, .ro 9 t.outs.length (outsF t.outs)), (3, .ro 11 t.fwds.length (fwdsF t.fwds)), (4, .ro 8 t.par.keys.length (keysF t.par.keys)), (5, .ro 9 t.cert.outs.length (outsF t.cert.outs)), (6, .ro 282 t.cert.sigs.length (sgdsF t.cert.sigs))]
def payMem (S : USet) (t : TxM) (n : Nat) (L : List Int) : Mem := (0, .abs (usetP S)) :: (txRows t ++ [(8, .ext stepsP), (9, .cells 49 (boxC 1 t.ac)), (10, .vec 3 1 n (amtsF L))])
def paySt (S : USet) (t : TxM) (h : Int) (i : Nat) : St :=
  ⟨[some (XV.sv (.ptr 0 0 0 0)), none, some (XV.int .i64 h), none, some (XV.sv (.ptr 9 0 0 0)), none, none, none, some (XV.sv (.slc 10 1 0 i))] ++ List.replicate 23 none ++ [some (XV.int .i64 t.ins.length), some (XV.int .i64 i)] ++ List.replicate 47 none, payMem S t i (inAmts S t h i), 11⟩
set_option maxHeartbeats 4000000 in
theorem pay_can (S : USet) (t : TxM) (h : Int) (hk : t.kind = 2) (hs : Sized t) (hc : t.claim.Wf) (hm : mayPay t hc = true) :
    Acts Tryz.prog 18 (.abs (usetP S)) (.abs (usetP S)) [.box t.ac, .plain (.one (.raw (.int .i64 h)))] [stepsP] (intsX (payE S t h)) := by
  have hmay := may_true hk hs hc hm
  have hins : t.ins.length ≤ 8 := by
    have := (mayPay_iff.1 hm).1
    rw [payB, Bool.and_eq_true, insOK, Bool.and_eq_true, within_iff] at this
    omega
  refine Acts.of Tryz.T_ok Tryz.func18 rfl _ _ _ _ _ rfl rfl rfl (fun C hC => ?_)
  (replace hC : C.n0 = 9 := hC; change Tri _ _ _ ⟨_, _, 9⟩ _)
  (refine Tri.cut 3 Tryz.mixed Tryz.T_ok ?_; ((conv => arg 5; whnf); repeat (refine xS ?_; conv => arg 5; whnf)))
  (refine wFd ?_ ?_; (first | refine decide_eq_false ?_ | rw [beq_eq_false_iff_ne] | rw [bne_eq_false_iff_eq]); exact (by (try simp only [ww] at *); omega); refine wGo ?_; ((conv => arg 5; whnf); repeat (refine xS ?_; conv => arg 5; whnf)))
  (apply wP; exact (call_op rfl (entersB_of Tryz.func36 (by kernel_rfl)) rfl (hmay.at [1, 2, 3, 4, 5, 6] ⟨lend_tx (t := t) (lend_ro0 rfl rfl) (lend_ro0 rfl rfl) (lend_ro0 rfl rfl) (lend_ro0 rfl rfl) (lend_ro0 rfl rfl) (lend_ro0 rfl rfl), trivial⟩ trivial)); ((conv => arg 5; whnf); repeat (refine xS ?_; conv => arg 5; whnf)))
  refine wD <| cutG <| Tri.ent (Ent.nils (t := 8) rfl 3 1) <| Tri.seq ?_
  (refine Tri.cut 1 Tryz.mixed Tryz.T_ok ?_; ((conv => arg 5; whnf); repeat (refine xS ?_; conv => arg 5; whnf)))
  refine wD <| cutG <| Tri.block ?_
  refine Tri.loop (α := { i : Nat // i ≤ t.ins.length ∧ firstE S t h i = 0 }) (fun i => paySt S t h i.1) (fun i => t.ins.length - i.1) ⟨0, Nat.zero_le _, rfl⟩ ?_ ?_
  · ((try dsimp only); refine Ent.renC [0, 1, 2, 3, 4, 5, 6, 7, 8, 9, 25] hC ?_ ?_ <;> repeat' (first | exact trivial | exact rfl | exact ⟨_, rfl, rfl, rfl, Nat.le_refl _, fun _ _ => rfl⟩ | exact ⟨_, rfl, rfl, rfl, fun _ _ => rfl⟩ | exact ⟨_, rfl, rfl, rfl⟩ | exact ⟨_, rfl, rfl⟩ | refine ⟨_, rfl, rfl, rfl, by omega, fun k hk => ?_⟩ | refine ⟨?_, ?_⟩ | fail))
    exact absurd hk (Nat.not_lt_zero _)
  rintro ⟨i, hi, he⟩
  dsimp only
  (refine Tri.cut 2 Tryz.mixed Tryz.T_ok ?_; ((conv => arg 5; whnf); repeat (refine xS ?_; conv => arg 5; whnf)))
  refine wC (fun h1 => ?_) (fun h1 => ?_)
  · (refine wGo ?_; ((conv => arg 5; whnf); repeat (refine xS ?_; conv => arg 5; whnf)))
    have h1' : i < t.ins.length := (by (try simp only [ww] at *); omega)
    have hw : IntKind.i64.wrap ((i : Int) + 1) = ((i + 1 : Nat) : Int) := (by (try simp only [ww] at *); omega)
    have hin := in_can S t i h hk hs hc hm h1'
    have hA := inAmts_succ S t h i
    have hF : firstE S t h (i + 1) = (inAt S t h i).2 := by rw [firstE, if_pos he]
    obtain ⟨R, hR⟩ : ∃ R, inAt S t h i = R := ⟨_, rfl⟩
    have hR' : inE S t i h (t.ins.getD i default) = R := hR
    rw [hR'] at hin
    rw [hR] at hA hF
    refine wD <| cutG <| Tri.seq <| Tri.block <| Tri.of Tryz.mixed Tryz.T_ok ?_
    (refine wBegin ?_; ((conv => arg 5; whnf); repeat (refine xS ?_; conv => arg 5; whnf)))
    (apply wP; exact (call_op rfl (entersB_of Tryz.func37 (by kernel_rfl)) rfl (hin.at [1, 2, 3, 4, 5, 6, 8] rfl rfl rfl ⟨lend_tx (t := t) (lend_ro0 rfl rfl) (lend_ro0 rfl rfl) (lend_ro0 rfl rfl) (lend_ro0 rfl rfl) (lend_ro0 rfl rfl) (lend_ro0 rfl rfl), lend_plain rfl, lend_plain rfl, trivial⟩ ⟨lend_ext (c := 8) rfl rfl, trivial⟩)); ((conv => arg 5; whnf); repeat (refine xS ?_; conv => arg 5; whnf)))
    refine wC (fun h2 => ?_) (fun h2 => ?_)
    · have h2' : ¬ R.2 = 0 := by simpa using h2
      (refine wGo ?_; ((conv => arg 5; whnf); repeat (refine xS ?_; conv => arg 5; whnf)))
      refine wD <| blockR <| cutR <| loopR <| blockR <| cutR <| Ends.shutN (.inr rfl) (Ent.refl _) rfl rfl ?_
      have hl : firstE S t h t.ins.length = R.2 := by
        rw [firstE_late (m := i + 1) h1' (by rw [hF]; exact h2'), hF]
      rw [payE, if_neg (by rw [hl]; exact h2'), hl]; rfl
    · have h2' : R.2 = 0 := by simpa using h2
      (refine wGo ?_; ((conv => arg 5; whnf); repeat (refine xS ?_; conv => arg 5; whnf)))
      (refine wP _ _ (append_op Tryz.T_ok rfl rfl rfl rfl rfl [10, 31] (old_vec rfl rfl (Nat.le_refl _) rfl) (new_vec (lo := 0) rfl rfl (Nat.le_refl _) rfl) rfl (lt1 rfl) (by simp only [maxLen]; omega) (by dsimp only; omega)) ?_; ((conv => arg 5; whnf); repeat (refine xS ?_; conv => arg 5; whnf)))
      refine wD <| blockN <| cutG <| Tri.of Tryz.mixed Tryz.T_ok ?_
      (refine wBegin ?_; ((conv => arg 5; whnf); repeat (refine xS ?_; conv => arg 5; whnf)))
      refine wD <| loopN ⟨⟨i + 1, h1', by rw [hF, h2']⟩, by dsimp only; omega, ?_⟩
      rw [hw]
      unfold paySt
      dsimp only
      rw [hA]
      ((try dsimp only); refine Ent.renC [0, 1, 2, 3, 4, 5, 6, 7, 8, 9, 32] hC ?_ ?_ <;> repeat' (first | exact trivial | exact rfl | exact ⟨_, rfl, rfl, rfl, Nat.le_refl _, fun _ _ => rfl⟩ | exact ⟨_, rfl, rfl, rfl, fun _ _ => rfl⟩ | exact ⟨_, rfl, rfl, rfl⟩ | exact ⟨_, rfl, rfl⟩ | refine ⟨_, rfl, rfl, rfl, by omega, fun k hk => ?_⟩ | refine ⟨?_, ?_⟩ | fail))
      exact amts_snoc (inAmts_length _ _ _ _).symm rfl hk
  · (refine wGo ?_; ((conv => arg 5; whnf); repeat (refine xS ?_; conv => arg 5; whnf)))
    have h1' : i = t.ins.length := (by (try simp only [ww] at *); omega)
    subst h1'
    refine wD <| cutE <| loopX <| blockX <| cutG <| Tri.of Tryz.mixed Tryz.T_ok ?_
    have hL := inAmts_length S t h t.ins.length
    (refine wBegin ?_; ((conv => arg 5; whnf); repeat (refine xS ?_; conv => arg 5; whnf)))
    (apply wP; exact (call_op rfl (entersB_of Tryz.func38 (by kernel_rfl)) rfl ((msum_can (inAmts S t h t.ins.length) (by omega)).at [10] ⟨by rw [hL]; exact lend_vec0 rfl rfl, trivial⟩ trivial)); ((conv => arg 5; whnf); repeat (refine xS ?_; conv => arg 5; whnf)))
    (apply wP; exact (call_op rfl (entersB_of Tryz.func39 (by kernel_rfl)) rfl ((paid_can t hs).at [1, 2, 3, 4, 5, 6] ⟨lend_tx (t := t) (lend_ro0 rfl rfl) (lend_ro0 rfl rfl) (lend_ro0 rfl rfl) (lend_ro0 rfl rfl) (lend_ro0 rfl rfl) (lend_ro0 rfl rfl), trivial⟩ trivial)); ((conv => arg 5; whnf); repeat (refine xS ?_; conv => arg 5; whnf)))
    (apply wP; exact (call_op rfl (entersB_of Tryz.func40 (by kernel_rfl)) rfl (sub_spec _ _ _ _)); ((conv => arg 5; whnf); repeat (refine xS ?_; conv => arg 5; whnf)))
    have hp : payE S t h = feeE (sumM 0 (inAmts S t h t.ins.length)) (sumM 0 (payAmts t)) := by rw [payE, if_pos he]
    refine wC (fun h2 => ?_) (fun h2 => ?_)
    · (refine wGo ?_; ((conv => arg 5; whnf); repeat (refine xS ?_; conv => arg 5; whnf)))
      refine wD (Ends.shutN (.inr rfl) (Ent.refl _) rfl rfl ?_)
      rw [hp, feeE, if_pos (by rw [h2]; rfl)]; rfl
    · (refine wGo ?_; ((conv => arg 5; whnf); repeat (refine xS ?_; conv => arg 5; whnf)))
      refine wC (fun h3 => ?_) (fun h3 => ?_)
      · (refine wGo ?_; ((conv => arg 5; whnf); repeat (refine xS ?_; conv => arg 5; whnf)))
        refine wD (Ends.shutN (.inr rfl) (Ent.refl _) rfl rfl ?_)
        rw [hp, feeE, if_pos (by rw [h2, h3]; rfl)]; rfl
      · (refine wGo ?_; ((conv => arg 5; whnf); repeat (refine xS ?_; conv => arg 5; whnf)))
        refine wC (fun h4 => ?_) (fun h4 => ?_)
        · (refine wGo ?_; ((conv => arg 5; whnf); repeat (refine xS ?_; conv => arg 5; whnf)))
          refine wD (Ends.shutN (.inr rfl) (Ent.refl _) rfl rfl ?_)
          rw [hp, feeE, if_pos (by rw [h2, h3, h4]; rfl)]; rfl
        · (refine wGo ?_; ((conv => arg 5; whnf); repeat (refine xS ?_; conv => arg 5; whnf)))
          refine wD (Ends.shutN (.inr rfl) (Ent.refl _) rfl rfl ?_)
          have h4' : bothB ((sumM 0 (inAmts S t h t.ins.length)).getD 0) ((sumM 0 (payAmts t)).getD 0) (IntKind.i64.wrap ((sumM 0 (inAmts S t h t.ins.length)).getD 0 - (sumM 0 (payAmts t)).getD 0)) = true := by simpa using h4
          have e : feeE (sumM 0 (inAmts S t h t.ins.length)) (sumM 0 (payAmts t)) = (IntKind.i64.wrap ((sumM 0 (inAmts S t h t.ins.length)).getD 0 - (sumM 0 (payAmts t)).getD 0), 0) := if_neg (by rw [h2, h3, h4']; simp)
          rw [hp, e, if_pos h4']; rfl
end Go.Proofs.YtmoohekgheoliaaGreatDoor
namespace Go.Proofs.YtmoohekgheoliaaGreatDoor
set_option maxRecDepth 100000
open Go.Sx
theorem wrap_i64 {n : Int} (h1 : -9223372036854775808 ≤ n) (h2 : n < 9223372036854775808) : IntKind.i64.wrap n = n := by
  have e1 : IntKind.i64.bits = 64 := rfl
  have e2 : IntKind.i64.signed = true := rfl
  simp only [IntKind.wrap, e1, e2, Bool.true_and]
  split <;> rename_i h <;> simp only [ge_iff_le, decide_eq_true_eq] at h <;> omega
theorem lawCoin_spec (c : Coin) (M : Mem) (d : Nat) : CallSpec Tryz.prog 30 [c.cv] M d { v := .cv c.cv } [] := by
  refine spec_pure Tryz.mixed Tryz.T_ok Tryz.func30 rfl _ _ rfl rfl (fun C _ => ?_) M d
  (refine wBegin ?_; ((conv => arg 5; whnf); repeat (refine xS ?_; conv => arg 5; whnf)))
  exact Ends.plain (.inr rfl) rfl rfl
structure RC where
  P : List Pt
  C : List Coin
def RC.mem (R : RC) : Mem := [(0, .cells 75 [.slc 1 9 0 R.P.length, .slc 2 11 0 R.C.length]), (1, .vec 60 9 R.P.length fun i => (R.P.getD i default).cells), (2, .vec 97 11 R.C.length fun i => (R.C.getD i default).cells)]
def rcP (R : RC) : AbsP := packP R.mem True
def RC.empty : RC := ⟨[], []⟩
end Go.Proofs.YtmoohekgheoliaaGreatDoor

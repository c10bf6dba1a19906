/- Parts Yu Yv Yw Ye Yl Hp. -/
import Derived.Test.YtnpkdoggfnlapaaGreatDoorG21
import Derived.Test.YtnpkdoggfnlapaaGreatDoorG22
import Derived.Test.YtnpkdoggfnlapaaGreatDoorG23
import Derived.Test.YtnpkdoggfnlapaaGreatDoorG20
import Derived.Test.YtnpkdoggfnlapaaGreatDoorG17
import Derived.Test.YtnpkdoggfnlapaaGreatDoorG12
import Derived.Test.YtnpkdoggfnlapaaGreatDoorG19
set_option linter.unusedSimpArgs false
set_option linter.unusedVariables false
namespace Go.Proofs.YtnpkdoggfnlapaaGreatDoor
set_option maxRecDepth 100000
open Go.Sx
theorem nanI_can (a : Int) : Reads Tryz.prog 156 [.plain (.one (.raw (.int .i64 a)))] [] (XV.bool false) := by
  refine Reads.of Tryz.T_ok Tryz.func156 rfl _ _ _ rfl rfl (fun C hC => ?_)
  (replace hC : C.n0 = 1 := hC; change Tri _ _ _ ⟨_, _, 1⟩ _)
  refine Tri.of Tryz.mixed Tryz.T_ok ?_
  (refine xB ?_)
  exact wD (Ends.plain (.inr rfl) rfl (by simp))
theorem nanS_can (a : Int) : Reads Tryz.prog 101 [.plain (.one (.raw (.int .i64 a)))] [] (XV.bool false) := by
  refine Reads.of Tryz.T_ok Tryz.func101 rfl _ _ _ rfl rfl (fun C hC => ?_)
  (replace hC : C.n0 = 1 := hC; change Tri _ _ _ ⟨_, _, 1⟩ _)
  refine Tri.of Tryz.mixed Tryz.T_ok ?_
  (refine xB ?_)
  exact wD (Ends.plain (.inr rfl) rfl (by simp))
theorem lessI_can (a b : Int) : Reads Tryz.prog 100 [.plain (.one (.raw (.int .i64 a))), .plain (.one (.raw (.int .i64 b)))] [] (XV.bool (decide (a < b))) := by
  refine Reads.of Tryz.T_ok Tryz.func100 rfl _ _ _ rfl rfl (fun C hC => ?_)
  (replace hC : C.n0 = 2 := hC; change Tri _ _ _ ⟨_, _, 2⟩ _)
  refine Tri.of Tryz.mixed Tryz.T_ok ?_
  (refine xB ?_)
  (apply wP; exact (call_op rfl (entersB_of Tryz.func156 (by kernel_rfl)) rfl ((nanI_can a).at [] ⟨lend_plain rfl, trivial⟩ trivial)); refine xZ ?_)
  (repeat (refine wN ?_ ?_; exact xW; refine xG ?_))
  exact wD (Ends.plain (.inr rfl) rfl rfl)
theorem mid_eq {i j : Nat} (h : i + j < 4611686018427387904) : IntKind.i64.wrap (shrI .u64 (IntKind.u64.wrap (IntKind.i64.wrap ((i : Int) + (j : Int)))) 1) = (((i + j) / 2 : Nat) : Int) := by
  have e1 : IntKind.i64.wrap ((i : Int) + (j : Int)) = ((i + j : Nat) : Int) := by rw [IntKind.wrap_i64]; omega
  have e2 : IntKind.u64.wrap ((i + j : Nat) : Int) = ((i + j : Nat) : Int) := by show ((i + j : Nat) : Int) % 2 ^ 64 = _; omega
  rw [e1, e2, show (1 : Int) = ((1 : Nat) : Int) from rfl, shr_nat .u64 (i + j) 1 (by decide), IntKind.wrap_i64]
  omega
def bsSt (l : List Int) (a : Int) (i j : Nat) : St :=
  ⟨[some (XV.sv (.slc 0 1 0 l.length)), some (XV.int .i64 a), none, none, none, none, some (XV.int .i64 l.length), some (XV.int .i64 i), some (XV.int .i64 j)] ++ List.replicate 45 none, [(0, .ro 1 l.length (intsF l))], 2⟩
theorem bsearch_can (a : Int) (l : List Int) (hl : l.length ≤ 1000000) (hr : Rising l) (ha : a ∉ l) : Reads Tryz.prog 53 [.row 1 l.length (intsF l), .plain (.one (.raw (.int .i64 a)))] [] (.tup [.one (.raw (.int .i64 (posU l a))), .one (.raw (.bool false))]) := by
  have hget : ∀ i, i < l.length → l.getD i 0 ≠ a := fun i hi he => ha (by rw [← he, List.getD_eq_getElem?_getD, List.getElem?_eq_getElem hi]; exact List.getElem_mem hi)
  refine Reads.of Tryz.T_ok Tryz.func53 rfl _ _ _ rfl rfl (fun C hC => ?_)
  (replace hC : C.n0 = 2 := hC; change Tri _ _ _ ⟨_, _, 2⟩ _)
  (refine Tri.cut 3 Tryz.mixed Tryz.T_ok ?_; refine xZ ?_)
  refine wD <| cutG <| Tri.seq ?_
  (refine Tri.cut 1 Tryz.mixed Tryz.T_ok ?_; refine xZ ?_)
  refine wD <| cutG <| Tri.block ?_
  refine Tri.loop (α := { p : Nat × Nat // p.1 ≤ p.2 ∧ p.2 ≤ l.length ∧ (∀ k, k < p.1 → l.getD k 0 < a) ∧ (p.2 < l.length → ¬ l.getD p.2 0 < a) }) (fun p => bsSt l a p.1.1 p.1.2) (fun p => p.1.2 - p.1.1) ⟨(0, l.length), Nat.zero_le _, Nat.le_refl _, fun k hk => absurd hk (Nat.not_lt_zero k), fun h => absurd h (Nat.lt_irrefl _)⟩ ?_ ?_
  · unfold bsSt
    ((try dsimp only); refine Ent.renC [0, 1] hC ?_ ?_ <;> repeat' (first | exact trivial | exact rfl | exact ⟨_, rfl, rfl, rfl, Nat.le_refl _, fun _ _ => rfl⟩ | exact ⟨_, rfl, rfl, rfl, fun _ _ => rfl⟩ | exact ⟨_, rfl, rfl, rfl⟩ | exact ⟨_, rfl, rfl⟩ | refine ⟨_, rfl, rfl, rfl, by omega, fun k hk => ?_⟩ | refine ⟨?_, ?_⟩ | fail))
  rintro ⟨⟨i, j⟩, h1, h2, h3, h4⟩
  dsimp only at h1 h2 h3 h4
  unfold bsSt
  dsimp only
  (refine Tri.cut 2 Tryz.mixed Tryz.T_ok ?_; refine xZ ?_)
  refine wC (fun hc => ?_) (fun hc => ?_)
  · (refine xG ?_)
    have hij : i < j := xW
    refine wD <| cutG <| Tri.block <| Tri.of Tryz.mixed Tryz.T_ok ?_
    (refine xB ?_)
    have hm := mid_eq (i := i) (j := j) (by omega)
    obtain ⟨m, hm'⟩ : ∃ m, (i + j) / 2 = m := ⟨_, rfl⟩
    rw [hm'] at hm
    have k1 : i ≤ m := by omega
    have k2 : m < j := by omega
    rw [hm]
    (repeat (refine wN ?_ ?_; exact xW; refine xG ?_))
    simp only [Nat.zero_add, Int.toNat_natCast]
    (apply wP; exact (call_op rfl (entersB_of Tryz.func100 (by kernel_rfl)) rfl ((lessI_can (l.getD m 0) a).at [] ⟨lend_plain rfl, lend_plain rfl, trivial⟩ trivial)); refine xZ ?_)
    refine wC (fun h5 => ?_) (fun h5 => ?_)
    · (refine xG ?_)
      have h5' : l.getD m 0 < a := of_decide_eq_true h5
      have hw : IntKind.i64.wrap ((m : Int) + 1) = ((m + 1 : Nat) : Int) := xW
      refine wD <| blockN <| loopN ⟨⟨(m + 1, j), by omega, h2, fun k hk => ?_, h4⟩, by dsimp only; omega, ?_⟩
      · by_cases e : k = m
        · rw [e]; exact h5'
        · have := rising_get hr (show k < m by omega) (by omega); omega
      · rw [hw]
        ((try dsimp only); refine Ent.renC [0, 1] hC ?_ ?_ <;> repeat' (first | exact trivial | exact rfl | exact ⟨_, rfl, rfl, rfl, Nat.le_refl _, fun _ _ => rfl⟩ | exact ⟨_, rfl, rfl, rfl, fun _ _ => rfl⟩ | exact ⟨_, rfl, rfl, rfl⟩ | exact ⟨_, rfl, rfl⟩ | refine ⟨_, rfl, rfl, rfl, by omega, fun k hk => ?_⟩ | refine ⟨?_, ?_⟩ | fail))
    · (refine xG ?_)
      have h5' : ¬ l.getD m 0 < a := of_decide_eq_false h5
      refine wD <| blockN <| loopN ⟨⟨(i, m), k1, by omega, h3, fun _ => h5'⟩, by dsimp only; omega, ?_⟩
      ((try dsimp only); refine Ent.renC [0, 1] hC ?_ ?_ <;> repeat' (first | exact trivial | exact rfl | exact ⟨_, rfl, rfl, rfl, Nat.le_refl _, fun _ _ => rfl⟩ | exact ⟨_, rfl, rfl, rfl, fun _ _ => rfl⟩ | exact ⟨_, rfl, rfl, rfl⟩ | exact ⟨_, rfl, rfl⟩ | refine ⟨_, rfl, rfl, rfl, by omega, fun k hk => ?_⟩ | refine ⟨?_, ?_⟩ | fail))
  · (refine xG ?_)
    obtain rfl : i = j := xW
    have hp := posU_of h2 h3 h4
    rw [hp]
    refine wD <| cutE <| loopX <| blockX <| cutG <| Tri.of Tryz.mixed Tryz.T_ok ?_
    (refine xB ?_)
    refine wC (fun h5 => ?_) (fun h5 => ?_)
    · have h5' : i < l.length := xW
      (refine xG ?_)
      (repeat (refine wN ?_ ?_; exact xW; refine xG ?_))
      simp only [Nat.zero_add, Int.toNat_natCast]
      refine wFd (by simpa using hget i h5') ?_
      (refine xG ?_)
      (repeat (refine wN ?_ ?_; exact xW; refine xG ?_))
      simp only [Nat.zero_add, Int.toNat_natCast]
      (apply wP; exact (call_op rfl (entersB_of Tryz.func101 (by kernel_rfl)) rfl ((nanS_can (l.getD i 0)).at [] ⟨lend_plain rfl, trivial⟩ trivial)); refine xZ ?_)
      exact wD (Ends.plain (.inr rfl) rfl rfl)
    · (refine xG ?_)
      exact wD (Ends.plain (.inr rfl) rfl rfl)
end Go.Proofs.YtnpkdoggfnlapaaGreatDoor
namespace Go.Proofs.YtnpkdoggfnlapaaGreatDoor
set_option maxRecDepth 100000
open Go.Sx
theorem claimTx_sized (c : ClaimM) : Sized (claimTx c) := ⟨Nat.zero_le _, Nat.zero_le _, Nat.zero_le _, Nat.zero_le _, Nat.zero_le _, Nat.zero_le _⟩
theorem claimTx_bare (c : ClaimM) : emptyB (claimTx c).bare5 = true := by
  show emptyB (claimTx claim0) = true
  decide
theorem mayC_can (c : ClaimM) : Reads Tryz.prog 82 [.box (claimTx c).ac] [] (XV.bool (claimOK c)) := by
  have h := may5_can (claimTx c) rfl (claimTx_sized c)
  rw [claimTx_bare, Bool.and_true] at h
  exact h
theorem anyI_mem (a : Int) (l : List Int) : l.any (eqI a) = decide (a ∈ l) := by
  rw [Bool.eq_iff_iff, List.any_eq_true, decide_eq_true_eq]
  constructor
  · rintro ⟨x, hx, h⟩
    rw [eqI, beq_iff_eq] at h
    rw [h]; exact hx
  · exact fun h => ⟨a, h, by rw [eqI, beq_iff_eq]⟩
def sideSlc (x : SideM) (a b d e : Nat) : List SV := sideCells x (.slc a 8 0 x.par.keys.length) (.slc b 9 0 x.cert.outs.length) (.slc d 282 0 x.cert.sigs.length) (.slc e 1 0 x.used.length)
def chkSt (L : List SideM) (c : ClaimM) (x : SideM) : St :=
  ⟨[some (XV.sv (.ptr 0 0 0 0)), none, none, some (XV.sv (.ptr 3 0 0 0)), none, some (XV.sv (.ptr 4 0 0 0)), some (XV.bool true)] ++ List.replicate 49 none,
   [(0, .abs (pReg L)), (2, .ext stepsP), (3, .cells 46 (c.cells.map .raw)), (4, .cells 68 (sideSlc x 5 6 7 8)), (5, .vec 29 8 x.par.keys.length (keysF x.par.keys)), (6, .vec 59 9 x.cert.outs.length (outsF x.cert.outs)), (7, .vec 192 282 x.cert.sigs.length (sgdsF x.cert.sigs)), (8, .vec 3 1 x.used.length (intsF x.used))], 9⟩
set_option maxHeartbeats 4000000 in
theorem check_can (L : List SideM) (c : ClaimM) (hL : ∀ i, i < L.length → (L.getD i default).Sized) (hl : L.length ≤ 1000) : Acts Tryz.prog 42 (.abs (pReg L)) (.abs (pReg L)) [.plain c.x] [stepsP] (XV.int .i64 (checkE L c)) := by
  refine Acts.of Tryz.T_ok Tryz.func42 rfl _ _ _ _ _ rfl rfl rfl (fun C hC => ?_)
  (replace hC : C.n0 = 3 := hC; change Tri _ _ _ ⟨_, _, 3⟩ _)
  have hmay := mayC_can c
  cases hb : claimOK c with
  | false =>
    rw [hb] at hmay
    have he : checkE L c = 4 := by rw [checkE, if_pos hb]
    rw [he]
    refine Tri.of Tryz.mixed Tryz.T_ok ?_
    (refine xB ?_)
    (apply wP; exact (call_op rfl (entersB_of Tryz.func82 (by kernel_rfl)) rfl (hmay.at [] ⟨lend_tx (t := claimTx c) (lend_nil _ _) (lend_nil _ _) (lend_nil _ _) (lend_nil _ _) (lend_nil _ _) (lend_nil _ _), trivial⟩ trivial)); refine xZ ?_)
    exact wD (Ends.shutN (.inr rfl) (Ent.refl _) rfl rfl rfl)
  | true =>
    rw [hb] at hmay
    obtain ⟨⟨s1, s2⟩, ⟨a1, a2⟩, w1, ⟨m1, m2⟩, n1, n2⟩ := claimOK_iff.1 hb
    (refine Tri.cut 3 Tryz.mixed Tryz.T_ok ?_; refine xZ ?_)
    (apply wP; exact (call_op rfl (entersB_of Tryz.func82 (by kernel_rfl)) rfl (hmay.at [] ⟨lend_tx (t := claimTx c) (lend_nil _ _) (lend_nil _ _) (lend_nil _ _) (lend_nil _ _) (lend_nil _ _) (lend_nil _ _), trivial⟩ trivial)); refine xZ ?_)
    by_cases h8 : (L.length : Int) ≤ c.side
    · have he : checkE L c = 8 := by rw [checkE, if_neg (by rw [hb]; simp), if_pos h8]
      rw [he]
      have ho := side_out L c.side (by rw [inB, decide_eq_false (show ¬ c.side < (L.length : Int) by omega), Bool.and_false])
      (apply wP; exact (call_op rfl (entersB_of Tryz.func22 (by kernel_rfl)) rfl (ho.at1 [] rfl rfl rfl ⟨lend_plain rfl, trivial⟩ trivial)); refine xZ ?_)
      refine wD <| cutG <| Tri.of Tryz.mixed Tryz.T_ok ?_
      (refine xB ?_)
      exact wD (Ends.shutN (.inr rfl) (Ent.refl _) rfl rfl rfl)
    have hi : c.side.toNat < L.length := by omega
    have hz := hL _ hi
    have hin := side_in L c.side.toNat hi hz
    rw [Int.toNat_of_nonneg s1] at hin
    have he : checkE L c = checkX (L.getD c.side.toNat default) c := by rw [checkE, if_neg (by rw [hb]; simp), if_neg h8]
    rw [he]
    generalize L.getD c.side.toNat default = x at hin hz ⊢
    (apply wP; exact (call_op rfl (entersB_of Tryz.func22 (by kernel_rfl)) rfl (hin.at1 [] rfl rfl rfl ⟨lend_plain rfl, trivial⟩ trivial)); refine xZ ?_)
    refine wD <| cutG <| Tri.ent (Ent.unpack (c := 16) (l := sideRows x) rfl) <| Tri.ent (S' := chkSt L c x) ?_ ?_
    · unfold chkSt
      ((try dsimp only); refine Ent.renC [0, 1, 2, 3, 20, 23, 24, 25, 26] hC ?_ ?_ <;> repeat' (first | exact trivial | exact rfl | exact ⟨_, rfl, rfl, rfl, Nat.le_refl _, fun _ _ => rfl⟩ | exact ⟨_, rfl, rfl, rfl, fun _ _ => rfl⟩ | exact ⟨_, rfl, rfl, rfl⟩ | exact ⟨_, rfl, rfl⟩ | refine ⟨_, rfl, rfl, rfl, by omega, fun k hk => ?_⟩ | refine ⟨?_, ?_⟩ | fail))
    unfold chkSt
    refine Tri.of Tryz.mixed Tryz.T_ok ?_
    (refine xB ?_)
    refine wC (fun h1 => ?_) (fun h1 => ?_)
    · have h1' : x.ceased = false := by simpa using h1
      (refine xG ?_)
      exact wD (Ends.shutN (.inr rfl) (Ent.refl _) rfl rfl (by rw [checkX, if_pos h1']))
    have h1' : x.ceased = true := by simpa using h1
    (refine xG ?_)
    (apply wP; exact (call_op rfl (entersB_of Tryz.func83 (by kernel_rfl)) rfl ((containsI_can c.acct x.used (by have := hz.used; omega)).at [8] ⟨lend_vecN (lo := 0) rfl rfl rfl (Nat.le_of_eq (Nat.zero_add _)) (fun i _ => by rw [Nat.zero_add]), lend_plain rfl, trivial⟩ trivial)); refine xZ ?_)
    rw [anyI_mem]
    refine wC (fun h2 => ?_) (fun h2 => ?_)
    · have h2' : c.acct ∈ x.used := of_decide_eq_true h2
      (refine xG ?_)
      exact wD (Ends.shutN (.inr rfl) (Ent.refl _) rfl rfl (by rw [checkX, if_neg (by rw [h1']; simp), if_pos h2']))
    have h2' : c.acct ∉ x.used := of_decide_eq_false h2
    (refine xG ?_)
    (apply wP; exact (call_op rfl (entersB_of Tryz.func85 (by kernel_rfl)) rfl ((leafP_can c.acct c.st ⟨⟨a1, a2⟩, w1, ⟨by omega, by omega⟩, ⟨n1, n2⟩⟩).at [2] ⟨lend_plain rfl, lend_plain rfl, trivial⟩ ⟨lend_ext (c := 2) rfl rfl, trivial⟩)); refine xZ ?_)
    have hsc := scheck_can x.root (leafA c.acct c.st) c.acct.toNat (by omega) c.proof
    rw [Int.toNat_of_nonneg a1] at hsc
    (apply wP; exact (call_op rfl (entersB_of Tryz.func84 (by kernel_rfl)) rfl (hsc.at [2] ⟨lend_plain rfl, lend_plain rfl, lend_plain rfl, lend_plain rfl, trivial⟩ ⟨lend_ext (c := 2) rfl rfl, trivial⟩)); refine xZ ?_)
    have hpf : decide (upS (leafA c.acct c.st) c.acct.toNat c.proof 16 = x.root) = proofOK x.root c := rfl
    rw [hpf]
    refine wC (fun h3 => ?_) (fun h3 => ?_)
    · have h3' : proofOK x.root c = false := by simpa using h3
      (refine xG ?_)
      exact wD (Ends.shutN (.inr rfl) (Ent.refl _) rfl rfl (by rw [checkX, if_neg (by rw [h1']; simp), if_neg h2', if_pos h3']))
    have h3' : proofOK x.root c = true := by simpa using h3
    (refine xG ?_)
    refine wC (fun h4 => ?_) (fun h4 => ?_)
    · have h4' : x.bal < c.st.amt := of_decide_eq_true h4
      (refine xG ?_)
      exact wD (Ends.shutN (.inr rfl) (Ent.refl _) rfl rfl (by rw [checkX, if_neg (by rw [h1']; simp), if_neg h2', if_neg (by rw [h3']; simp), if_pos h4']))
    have h4' : ¬ x.bal < c.st.amt := of_decide_eq_false h4
    (refine xG ?_)
    exact wD (Ends.shutN (.inr rfl) (Ent.refl _) rfl rfl (by rw [checkX, if_neg (by rw [h1']; simp), if_neg h2', if_neg (by rw [h3']; simp), if_neg h4']))
end Go.Proofs.YtnpkdoggfnlapaaGreatDoor
namespace Go.Sx
theorem Does.at2 {P : Program} {f : FuncId} {a b a2 b2 : Chunk} {l : List AD} {es : List ExtP} {X : XV} {fr : Option Chunk} (h : Does P f [(a, b), (a2, b2)] l es X fr) {Xs : List CV} {M : Mem} {c c2 d : Nat} (rd : List Nat) (hc : M.get c = some a) (hc2 : M.get c2 = some a2) (hids : (Nat.beq c c2 || Nat.beq c d || Nat.beq c2 d) = false) (hrd : (nmem c rd || nmem c2 rd) = false) (ha : LendsL M rd Xs l) (he : LendsX M rd es) :
    CallSpec P f (.one (.ptr c 0 0 0) :: .one (.ptr c2 0 0 0) :: Xs) M d { v := X.ren fun _ => d, upd := (c, b) :: (c2, b2) :: frM d fr, wr := [c, c2] } (c :: c2 :: rd) := by
  simp only [Bool.or_eq_false_iff, nbeq, decide_eq_false_iff_not] at hids hrd
  refine h.at [c, c2] rd rfl (by simp [hids.1.1, hids.1.2, hids.2]) (by simp [hrd.1, hrd.2]) (fun i c' x h1 h2 => ?_) ha he
  match i with
  | 0 =>
    simp only [List.getElem?_cons_zero, Option.some.injEq] at h1 h2
    subst h1 h2; exact hc
  | 1 =>
    simp only [List.getElem?_cons_succ, List.getElem?_cons_zero, Option.some.injEq] at h1 h2
    subst h1 h2; exact hc2
  | i + 2 => simp at h1
theorem Ends.shutN2 {C : Ctx} {T : TyTab} {rs : List ResultVar} {n0 : Nat} {X v : XV} {S S' : St} {e : Exit} {ch ch2 : Chunk} (he : e = .normal ∨ e = .ret) (hE : Ent C S S') (hm : S'.mem.get 0 = some ch) (hm2 : S'.mem.get 1 = some ch2) (hr : resX T S' rs = some v) (hv : v = X) :
    Ends C T rs 2 n0 ⟨X, [(0, ch), (1, ch2)], none⟩ e S := by
  refine ⟨he, _, hE, by rw [hr, hv], fun i ch' h => ?_, fun i ch h => by cases h⟩
  simp only [Mem.get, nbeq] at h
  by_cases hk : 0 = i
  · subst hk
    simp only [decide_true, cond_true, Option.some.injEq] at h
    exact ⟨by omega, by rw [← h]; exact hm⟩
  · by_cases hk1 : 1 = i
    · subst hk1
      simp only [hk, decide_false, decide_true, cond_true, cond_false, Option.some.injEq] at h
      exact ⟨by omega, by rw [← h]; exact hm2⟩
    · simp [hk, hk1] at h
end Go.Sx
namespace Go.Proofs.YtnpkdoggfnlapaaGreatDoor
set_option maxRecDepth 100000
open Go.Sx
set_option maxHeartbeats 4000000 in
theorem take_form {t : TxM} (L : List SideM) (S : USet) (h : Int64) (hid : (∃ b, EncOK t b ∧ b.length ≤ 900000000 ∧ t.kind ≠ 5) ∨ EncBad t) : Does Tryz.prog 20 [(.abs (pReg L), .abs (pReg L)), (.abs (usetP S), .abs (usetP S))] [.box t.ac, .plain (.one (.raw (.int .i64 h.toInt)))] [stepsP] (XV.int .i64 4) none := by
  refine Does.of Tryz.T_ok Tryz.func20 rfl _ _ _ _ _ rfl rfl rfl 0 (fun C hC => ?_)
  (replace hC : C.n0 = 10 := hC; change Tri _ _ _ ⟨_, _, 10⟩ _)
  obtain ⟨kind, height, ins, outs, fwds, par, cert, claim⟩ := t
  refine Tri.of Tryz.mixed Tryz.T_ok ?_
  (refine xB ?_)
  rcases hid with ⟨b, h1, h2, h3⟩ | h1
  · dsimp only at h3
    (apply wP; exact (call_op rfl (entersB_of Tryz.func51 (by kernel_rfl)) rfl ((id_of h1 h2).at [2, 3, 4, 5, 6, 7, 9] ⟨lend_tx (t := ⟨kind, height, ins, outs, fwds, par, cert, claim⟩) (lend_ro0 rfl rfl) (lend_ro0 rfl rfl) (lend_ro0 rfl rfl) (lend_ro0 rfl rfl) (lend_ro0 rfl rfl) (lend_ro0 rfl rfl), trivial⟩ ⟨lend_ext (c := 9) rfl rfl, trivial⟩)); refine xZ ?_)
    refine wC (fun h4 => ?_) (fun h4 => ?_)
    · (refine xG ?_)
      exact wD (Ends.shutN2 (.inr rfl) (Ent.refl _) rfl rfl rfl rfl)
    · exact absurd h4 (by simp [h3])
  · (apply wP; exact (call_op rfl (entersB_of Tryz.func51 (by kernel_rfl)) rfl ((id_no h1).at [2, 3, 4, 5, 6, 7, 9] ⟨lend_tx (t := ⟨kind, height, ins, outs, fwds, par, cert, claim⟩) (lend_ro0 rfl rfl) (lend_ro0 rfl rfl) (lend_ro0 rfl rfl) (lend_ro0 rfl rfl) (lend_ro0 rfl rfl) (lend_ro0 rfl rfl), trivial⟩ ⟨lend_ext (c := 9) rfl rfl, trivial⟩)); refine xZ ?_)
    exact wD (Ends.shutN2 (.inr rfl) (Ent.refl _) rfl rfl rfl rfl)
theorem claimID_eq (c : ClaimM) : dig 120 [claimEncB c] = claimID c := rfl
def tkSt1 (L : List SideM) (S : USet) (c : ClaimM) (h : Int64) : St :=
  ⟨[some (XV.sv (.ptr 0 0 0 0)), some (XV.sv (.ptr 1 0 0 0)), none, some (XV.int .i64 h.toInt), none, none, none, none, none, some (XV.sv (.ptr 10 0 0 0)), none, some (XV.sv (.ptr 11 0 0 0))] ++ List.replicate 93 none,
   [(0, .abs (pReg L)), (1, .abs (usetP S)), (9, .ext stepsP), (10, .cells 29 ((claimID c).cells.map .raw)), (11, .cells 46 (c.cells.map .raw))], 12⟩
def tkSt2 (L : List SideM) (S : USet) (c : ClaimM) (x : SideM) : St :=
  ⟨[some (XV.sv (.ptr 0 0 0 0)), none, none, none, none, none, none, none, none, none, none, some (XV.sv (.ptr 10 0 0 0)), none, none, none, some (XV.sv (.ptr 11 0 0 0))] ++ List.replicate 89 none,
   [(0, .abs (pReg L)), (1, .abs (usetP S)), (10, .cells 46 (c.cells.map .raw)), (11, .cells 68 (sideSlc x 12 13 14 15)), (12, .vec 29 8 x.par.keys.length (keysF x.par.keys)), (13, .vec 59 9 x.cert.outs.length (outsF x.cert.outs)), (14, .vec 192 282 x.cert.sigs.length (sgdsF x.cert.sigs)), (15, .vec 3 1 x.used.length (intsF x.used))], 16⟩
set_option maxHeartbeats 8000000 in
theorem take_can (L : List SideM) (S : USet) (c : ClaimM) (h : Int64) (hL : ∀ i, i < L.length → (L.getD i default).Sized) (hl : L.length ≤ 1000) (hS : S.steps.length < 900000) (hu : ∀ i, i < L.length → Rising (L.getD i default).used ∧ (L.getD i default).used.length < 900000) :
    Does Tryz.prog 20 [(.abs (pReg L), .abs (pReg (takeE L S c h).1.1)), (.abs (usetP S), .abs (usetP (takeE L S c h).1.2))] [.box (claimTx c).ac, .plain (.one (.raw (.int .i64 h.toInt)))] [stepsP] (XV.int .i64 (takeE L S c h).2) none := by
  have hmay := mayC_can c
  cases hb : claimOK c with
  | false =>
    rw [hb] at hmay
    have he : checkE L c = 4 := by rw [checkE, if_pos hb]
    have ht : takeE L S c h = ((L, S), 4) := by rw [takeE, he, if_neg (by decide)]
    rw [ht]
    exact take_form L S h (.inr (enc_bad hmay))
  | true =>
    rw [hb] at hmay
    obtain ⟨⟨s1, s2⟩, ⟨a1, a2⟩, w1, ⟨m1, m2⟩, n1, n2⟩ := claimOK_iff.1 hb
    have hid := id_of (enc5 (t := claimTx c) rfl hb hmay) (by rw [claimEncB_len]; decide)
    rw [show (claimTx c).claim = c from rfl, claimID_eq] at hid
    refine Does.of Tryz.T_ok Tryz.func20 rfl _ _ _ _ _ rfl rfl rfl 0 (fun C hC => ?_)
    (replace hC : C.n0 = 10 := hC; change Tri _ _ _ ⟨_, _, 10⟩ _)
    (refine Tri.cut 5 Tryz.mixed Tryz.T_ok ?_; refine xZ ?_)
    (apply wP; exact (call_op rfl (entersB_of Tryz.func51 (by kernel_rfl)) rfl (hid.at [2, 3, 4, 5, 6, 7, 9] ⟨lend_tx (t := claimTx c) (lend_ro0 rfl rfl) (lend_ro0 rfl rfl) (lend_ro0 rfl rfl) (lend_ro0 rfl rfl) (lend_ro0 rfl rfl) (lend_ro0 rfl rfl), trivial⟩ ⟨lend_ext (c := 9) rfl rfl, trivial⟩)); refine xZ ?_)
    (refine wFd rfl ?_; refine xG ?_)
    (apply wP; exact (call_op rfl (entersB_of Tryz.func42 (by kernel_rfl)) rfl ((check_can L c hL hl).at [9] rfl rfl rfl ⟨lend_plain rfl, trivial⟩ ⟨lend_ext (c := 9) rfl rfl, trivial⟩)); refine xZ ?_)
    refine wC (fun h1 => ?_) (fun h1 => ?_)
    · have h1' : checkE L c ≠ 0 := by simpa using h1
      have ht : takeE L S c h = ((L, S), checkE L c) := by rw [takeE, if_neg h1']
      rw [ht]
      (refine xG ?_)
      exact wD <| cutR <| Ends.shutN2 (.inr rfl) (Ent.refl _) rfl rfl rfl rfl
    have h1' : checkE L c = 0 := by simpa using h1
    have ht : takeE L S c h = if (outsGo (claimID c) h false S 0 [claimPay c]).2 = 0 then ((L.set c.side.toNat (takeX (L.getD c.side.toNat default) c), (outsGo (claimID c) h false S 0 [claimPay c]).1), 0) else ((L, (outsGo (claimID c) h false S 0 [claimPay c]).1), (outsGo (claimID c) h false S 0 [claimPay c]).2) := by rw [takeE, if_pos h1']
    rw [ht]
    (refine xG ?_)
    refine wD <| cutG <| Tri.ent (S' := tkSt1 L S c h) ?_ ?_
    · unfold tkSt1
      ((try dsimp only); refine Ent.renC [0, 1, 2, 3, 4, 5, 6, 7, 8, 9, 17, 37] hC ?_ ?_ <;> repeat' (first | exact trivial | exact rfl | exact ⟨_, rfl, rfl, rfl, Nat.le_refl _, fun _ _ => rfl⟩ | exact ⟨_, rfl, rfl, rfl, fun _ _ => rfl⟩ | exact ⟨_, rfl, rfl, rfl⟩ | exact ⟨_, rfl, rfl⟩ | refine ⟨_, rfl, rfl, rfl, by omega, fun k hk => ?_⟩ | refine ⟨?_, ?_⟩ | fail))
    unfold tkSt1
    have hout := outs_can S (claimID c) [claimPay c] h false (show 1 ≤ 1000 by decide) hS
    obtain ⟨⟨S', e⟩, ho⟩ : ∃ p, outsGo (claimID c) h false S 0 [claimPay c] = p := ⟨_, rfl⟩
    rw [ho] at hout ⊢
    dsimp only at hout ⊢
    (refine Tri.cut 2 Tryz.mixed Tryz.T_ok ?_; refine xZ ?_)
    have hamt : (claimPay c).amt.toInt = c.st.amt := amt64 hb
    (apply wP; exact (call_op rfl (entersB_of Tryz.func52 (by kernel_rfl)) rfl (hout.at [19] rfl rfl rfl ⟨lend_plain rfl, lend_vecN (lo := 0) rfl rfl rfl (Nat.le_refl _) (fun i hi => by obtain rfl := Nat.lt_one_iff.1 hi; show (claimPay c).cells = _; rw [OutM.cells, show i64 (claimPay c).amt = .int .i64 c.st.amt from congrArg _ hamt]; rfl), lend_plain rfl, lend_plain rfl, trivial⟩ trivial)); refine xZ ?_)
    refine wC (fun h2 => ?_) (fun h2 => ?_)
    · have h2' : e ≠ 0 := by simpa using h2
      rw [if_neg h2']
      (refine xG ?_)
      exact wD <| cutR <| Ends.shutN2 (.inr rfl) (Ent.refl _) rfl rfl rfl rfl
    have h2' : e = 0 := by simpa using h2
    rw [if_pos h2']
    have hi : c.side.toNat < L.length := by
      rcases Nat.lt_or_ge c.side.toNat L.length with h | h
      · exact h
      · rw [checkE, if_neg (by rw [hb]; simp), if_pos (by omega)] at h1'; cases h1'
    have hx0 : checkX (L.getD c.side.toNat default) c = 0 := by
      rw [checkE, if_neg (by rw [hb]; simp), if_neg (by omega)] at h1'; exact h1'
    obtain ⟨q1, q2, q3, q4⟩ := checkX_zero hx0
    obtain ⟨hr, hlu⟩ := hu _ hi
    have hz := hL _ hi
    have hin := side_in L c.side.toNat hi hz
    have hset := regSet_can L c.side.toNat hi (takeX (L.getD c.side.toNat default) c)
    rw [Int.toNat_of_nonneg s1] at hin hset
    generalize L.getD c.side.toNat default = x at hin hz hr hlu q2 hset ⊢
    replace hset := hset ⟨hz.keys, hz.outs, hz.sigs, by show (insU x.used c.acct).length ≤ _; rw [insU_len]; omega⟩
    (refine xG ?_)
    refine wD <| cutG <| ?_
    (refine Tri.cut 1 Tryz.mixed Tryz.T_ok ?_; refine xZ ?_)
    (apply wP; exact (call_op rfl (entersB_of Tryz.func22 (by kernel_rfl)) rfl (hin.at1 [] rfl rfl rfl ⟨lend_plain rfl, trivial⟩ trivial)); refine xZ ?_)
    refine wD <| cutG <| Tri.ent (Ent.unpack (c := 32) (l := sideRows x) rfl) <| Tri.ent (S' := tkSt2 L S' c x) ?_ ?_
    · unfold tkSt2
      ((try dsimp only); refine Ent.renC [0, 1, 2, 3, 4, 5, 6, 7, 8, 9, 11, 36, 39, 40, 41, 42] hC ?_ ?_ <;> repeat' (first | exact trivial | exact rfl | exact ⟨_, rfl, rfl, rfl, Nat.le_refl _, fun _ _ => rfl⟩ | exact ⟨_, rfl, rfl, rfl, fun _ _ => rfl⟩ | exact ⟨_, rfl, rfl, rfl⟩ | exact ⟨_, rfl, rfl⟩ | refine ⟨_, rfl, rfl, rfl, by omega, fun k hk => ?_⟩ | refine ⟨?_, ?_⟩ | fail))
    unfold tkSt2
    refine Tri.of Tryz.mixed Tryz.T_ok ?_
    (refine xB ?_)
    (apply wP; exact (call_op rfl (entersB_of Tryz.func53 (by kernel_rfl)) rfl ((bsearch_can c.acct x.used (by omega) hr q2).at [15] ⟨lend_vecN (lo := 0) rfl rfl rfl (Nat.le_of_eq (Nat.zero_add _)) (fun i _ => by rw [Nat.zero_add]), lend_plain rfl, trivial⟩ trivial)); refine xZ ?_)
    (apply wP; exact (call_op rfl (entersB_of Tryz.func54 (by kernel_rfl)) rfl (insert_spec Tryz.insInt x.used (posU x.used c.acct) c.acct (posU_le _ _) (by omega) (he := rfl) rfl rfl rfl rfl rfl)); refine xZ ?_)
    rw [← insU_eq, ← insU_len x.used c.acct]
    have e1 : ∀ p : List Int, intF p = intsF p := fun _ => rfl
    simp only [e1]
    (apply wP; exact (call_op rfl (entersB_of Tryz.func49 (by kernel_rfl)) rfl (hset.at [12, 13, 14, 48] rfl rfl rfl ⟨lend_plain rfl, lend_side (x := takeX x c) (lend_vecN (lo := 0) rfl rfl rfl (Nat.le_of_eq (Nat.zero_add _)) (fun i _ => by rw [Nat.zero_add]; rfl)) (lend_vecN (lo := 0) rfl rfl rfl (Nat.le_of_eq (Nat.zero_add _)) (fun i _ => by rw [Nat.zero_add]; rfl)) (lend_vecN (lo := 0) rfl rfl rfl (Nat.le_of_eq (Nat.zero_add _)) (fun i _ => by rw [Nat.zero_add]; rfl)) (lend_vecN (lo := 0) rfl rfl rfl (Nat.le_of_eq (Nat.zero_add _)) (fun i _ => by rw [Nat.zero_add]; rfl)), trivial⟩ trivial)); refine xZ ?_)
    exact wD (Ends.shutN2 (.inr rfl) (Ent.refl _) rfl rfl rfl rfl)
end Go.Proofs.YtnpkdoggfnlapaaGreatDoor
namespace Go.Proofs.YtnpkdoggfnlapaaGreatDoor
set_option maxRecDepth 100000
open Go.Sx
def amtN (a : AcsM) : Nat → Int
  | 0 => 0
  | n + 1 => amtN a n + (accA a n).amt
theorem amtN_mono {a : AcsM} {i j : Nat} (h : i ≤ j) : amtN a i + (j - i : Nat) ≤ amtN a j := by
  induction j with
  | zero => obtain rfl : i = 0 := by omega
            simp
  | succ j ih =>
    have := (accA_amt a j).1
    by_cases e : i = j + 1
    · subst e; simp
    · have := ih (by omega)
      rw [amtN]; omega
theorem amtN_le (a : AcsM) (n : Nat) : 0 ≤ amtN a n ∧ amtN a n ≤ 65536 * n := by
  induction n with
  | zero => simp [amtN]
  | succ n ih =>
    have := accA_amt a n
    rw [amtN]; omega
def TakenP (n t i k : Nat) : Prop := (t ≤ k ∧ k < t + i) ∨ k + n < t + i
def doneA (a : AcsM) (n t i : Nat) : Int := if t + i ≤ n then amtN a (t + i) - amtN a t else amtN a n - amtN a t + amtN a (t + i - n)
structure AllI (a : AcsM) (rest : Int) (t i : Nat) (x : SideM) (S : USet) : Prop where
  keep : KeepI (amtN a a.pl.length + rest) x S
  ceased : x.ceased = true
  root : x.root = rootA a
  bal : x.bal = amtN a a.pl.length + rest - doneA a a.pl.length t i
  used : ∀ k, k < a.pl.length → ((plA a k : Int) ∈ x.used ↔ TakenP a.pl.length t i k)
  many : x.used.length = i
  coins : ∀ k, k < a.pl.length → S.has (ptAt (claimID (claimN a k)) 0) = true → TakenP a.pl.length t i k
def nextK (n t i : Nat) : Nat := (t + i) % n
theorem nextK_lt {n t i : Nat} (hn : 0 < n) : nextK n t i < n := Nat.mod_lt _ hn
theorem nextK_eq {n t i : Nat} (ht : t < n) (hi : i < n) : nextK n t i = if t + i < n then t + i else t + i - n := by
  unfold nextK
  split
  · rw [Nat.mod_eq_of_lt (by assumption)]
  · rw [Nat.mod_eq_sub_mod (by omega), Nat.mod_eq_of_lt (by omega)]
theorem taken_next {n t i k : Nat} (ht : t < n) (hi : i < n) (hk : k < n) : TakenP n t (i + 1) k ↔ (TakenP n t i k ∨ k = nextK n t i) := by
  rw [nextK_eq ht hi]
  unfold TakenP
  split <;> omega
theorem not_taken {n t i : Nat} (ht : t < n) (hi : i < n) : ¬ TakenP n t i (nextK n t i) := by
  rw [nextK_eq ht hi]
  unfold TakenP
  split <;> omega
theorem done_next {a : AcsM} {n t i : Nat} (ht : t < n) (hi : i < n) : doneA a n t (i + 1) = doneA a n t i + (accA a (nextK n t i)).amt := by
  rw [nextK_eq ht hi]
  unfold doneA
  by_cases h : t + i < n
  · rw [if_pos h, if_pos (by omega), if_pos (by omega), ← Nat.add_assoc, amtN]; omega
  · rw [if_neg h]
    by_cases h2 : t + i = n
    · rw [if_neg (by omega), if_pos (by omega), show t + (i + 1) - n = 0 + 1 by omega, h2, Nat.sub_self, amtN, amtN]; omega
    · rw [if_neg (by omega), if_neg (by omega), show t + (i + 1) - n = t + i - n + 1 by omega, amtN]; omega
theorem done_le {a : AcsM} {n t i : Nat} (ht : t < n) (hi : i ≤ n) : doneA a n t i ≤ amtN a n := by
  unfold doneA
  split
  · have := amtN_mono (a := a) (i := t + i) (j := n) (by omega)
    have := (amtN_le a t).1
    omega
  · have := amtN_mono (a := a) (i := t + i - n) (j := t) (by omega)
    omega
theorem done_all {a : AcsM} {n t : Nat} (ht : t < n) : doneA a n t n = amtN a n := by
  unfold doneA
  split
  · obtain rfl : t = 0 := by omega
    simp [amtN]
  · rw [show t + n - n = t by omega]; omega
theorem AllI.step {a : AcsM} {rest : Int} {t i : Nat} {x : SideM} {S : USet} (h : AllI a rest t i x S) (hf : Fair a) (hr : 0 ≤ rest ∧ rest ≤ 100000) (ht : t < a.pl.length) (hi : i < a.pl.length) (ids : ∀ j k, j < a.pl.length → k < a.pl.length → claimID (claimN a j) = claimID (claimN a k) → j = k) (H : Int64) :
    ∃ x' S', takeE [x] S (claimN a (nextK a.pl.length t i)) H = (([x'], S'), 0) ∧ takeE [x'] S' (claimN a (nextK a.pl.length t i)) H = (([x'], S'), 13) ∧ AllI a rest t (i + 1) x' S' ∧
      S'.has (ptAt (claimID (claimN a (nextK a.pl.length t i))) 0) = true ∧ S'.get (ptAt (claimID (claimN a (nextK a.pl.length t i))) 0) = ⟨(accA a (nextK a.pl.length t i)).owner, Int64.ofInt (accA a (nextK a.pl.length t i)).amt, H, false⟩ ∧
      S'.steps.length = S.steps.length + 1 ∧ x'.par = x.par ∧ x'.cert = x.cert := by
  obtain ⟨k, hk⟩ : ∃ k, nextK a.pl.length t i = k := ⟨_, rfl⟩
  have hkl : k < a.pl.length := by rw [← hk]; exact nextK_lt (by omega)
  have hnt : ¬ TakenP a.pl.length t i k := by rw [← hk]; exact not_taken ht hi
  have hd := done_next (a := a) ht hi
  have hdl := done_le (a := a) (n := a.pl.length) (t := t) (i := i + 1) ht hi
  rw [hk] at hd ⊢
  have h1 := claimN_ok (a := a) hkl
  have h2 := claimN_side (a := a) hkl
  have e1 := claimN_acct (a := a) hkl
  have e2 := claimN_st (a := a) hkl
  have ham := accA_amt a k
  have hsl := amtN_le a a.pl.length
  have hfew := hf.few
  have hbal := h.bal
  have hk0 := h.keep.sum
  have hb0 := h.keep.bal
  have hc0 := h.keep.clm
  have htot := h.keep.tot
  have h3 : checkX x (claimN a k) = 0 := checkX_good h.ceased (by rw [e1, h.used k hkl]; exact hnt) (by rw [h.root]; exact claimN_proof hf hkl) (by rw [e2]; omega)
  have h4 : S.has (ptAt (claimID (claimN a k)) 0) = false := by
    cases hh : S.has (ptAt (claimID (claimN a k)) 0) with
    | false => rfl
    | true => exact absurd (h.coins k hkl hh) hnt
  have h64 : (Int64.ofInt (claimN a k).st.amt).toInt = (claimN a k).st.amt := amt64 h1
  have h5 : S.okB (ptAt (claimID (claimN a k)) 0) ⟨(claimN a k).st.owner, Int64.ofInt (claimN a k).st.amt, H, false⟩ = true := okB_of h4 rfl (by show 1 ≤ (Int64.ofInt (claimN a k).st.amt).toInt; rw [h64, e2]; exact ham.1) (by omega) (by show S.total + (Int64.ofInt (claimN a k).st.amt).toInt ≤ _; rw [h64, e2]; omega)
  have hp := h.keep.paid (by omega) h1 h3 (k := ⟨(claimN a k).st.owner, Int64.ofInt (claimN a k).st.amt, H, false⟩) h4 h64
  refine ⟨_, _, take_paid h1 h2 h3 h4 h5, ?_, ⟨hp.1, h.ceased, h.root, ?_, fun j hj => ?_, ?_, fun j hj hh => ?_⟩, ?_, ?_, ?_, rfl, rfl⟩
  · refine take_bad ?_ (by decide)
    rw [checkE_one h1 h2, checkX, if_neg (by show ¬ x.ceased = false; rw [h.ceased]; simp), if_pos (show (claimN a k).acct ∈ (takeX x (claimN a k)).used from mem_insU.2 (.inl rfl))]
  · rw [hp.2.1, e2, hbal, hd]; omega
  · show (plA a j : Int) ∈ insU x.used (claimN a k).acct ↔ _
    rw [mem_insU, taken_next ht hi hj, hk, h.used j hj, e1]
    constructor
    · rintro (h6 | h6)
      · exact .inr (hf.apart k j hkl hj (by omega))
      · exact .inl h6
    · rintro (h6 | h6)
      · exact .inr h6
      · exact .inl (by rw [h6])
  · show (insU x.used (claimN a k).acct).length = _
    rw [insU_len, h.many]
  · rw [taken_next ht hi hj, hk]
    by_cases e : claimID (claimN a j) = claimID (claimN a k)
    · exact .inr (ids j k hj hkl e)
    · refine .inl (h.coins j hj ?_)
      have hne : ptAt (claimID (claimN a j)) 0 ≠ ptAt (claimID (claimN a k)) 0 := fun e' => e (congrArg Pt.tx e')
      have : (mget (mput S.coins (ptAt (claimID (claimN a k)) 0) _) (ptAt (claimID (claimN a j)) 0)).isSome = true := hh
      rwa [mget_put_ne hne] at this
  · show (mget (mput S.coins _ _) _).isSome = true
    rw [mget_put_self]; rfl
  · show (mget (mput S.coins _ _) _).getD coin0 = _
    rw [mget_put_self, e2]; rfl
  · show (S.steps ++ [_]).length = _
    rw [List.length_append]; rfl
theorem AllI.done {a : AcsM} {rest : Int} {t : Nat} {x : SideM} {S : USet} (h : AllI a rest t a.pl.length x S) (ht : t < a.pl.length) : x.clm = amtN a a.pl.length ∧ x.bal = rest ∧ x.used.length = a.pl.length ∧ S.total = amtN a a.pl.length := by
  have h1 := h.bal
  have h2 := h.keep.sum
  have h3 := h.keep.tot
  rw [done_all ht] at h1
  exact ⟨by omega, by omega, h.many, by omega⟩
structure MoneyI (a : AcsM) (n : Int) (used : Nat → Bool) (x : SideM) (S : USet) : Prop where
  keep : KeepI n x S
  ceased : x.ceased = true
  root : x.root = rootA a
  used : ∀ k, k < a.pl.length → ((plA a k : Int) ∈ x.used ↔ used k = true)
theorem MoneyI.step {a : AcsM} {n : Int} {used : Nat → Bool} {x : SideM} {S : USet} (h : MoneyI a n used x S) (hf : Fair a) (hn : n ≤ 1000) {k : Nat} (hk : k < a.pl.length) (H : Int64) :
    ∃ x' S' e, takeE [x] S (claimN a k) H = (([x'], S'), e) ∧ (used k = true → e = 13) ∧ (used k = false → x.bal < (accA a k).amt → e = 5) ∧ (e ≠ 0 → x' = x ∧ S' = S) ∧
      (e = 0 → x'.bal = x.bal - (accA a k).amt) ∧ MoneyI a n (fun j => if e = 0 ∧ j = k then true else used j) x' S' ∧ S'.steps.length ≤ S.steps.length + 1 ∧ x'.used.length ≤ x.used.length + 1 ∧ x'.par = x.par ∧ x'.cert = x.cert := by
  have h1 := claimN_ok (a := a) hk
  have h2 := claimN_side (a := a) hk
  have e1 := claimN_acct (a := a) hk
  have e2 := claimN_st (a := a) hk
  have same : ∀ e : Int, e ≠ 0 → MoneyI a n (fun j => if e = 0 ∧ j = k then true else used j) x S := fun e he => by
    have : (fun j => if e = 0 ∧ j = k then true else used j) = used := funext fun j => if_neg fun h => he h.1
    rw [this]; exact h
  cases hu : used k with
  | true =>
    have hb : checkE [x] (claimN a k) = 13 := by
      rw [checkE_one h1 h2, checkX, if_neg (by rw [h.ceased]; simp), if_pos (by rw [e1]; exact (h.used k hk).2 hu)]
    exact ⟨x, S, 13, take_bad hb (by decide), fun _ => rfl, fun h => (by cases h), fun _ => ⟨rfl, rfl⟩, fun h => (by cases h), same 13 (by decide), Nat.le_succ _, Nat.le_succ _, rfl, rfl⟩
  | false =>
    have hnu : (claimN a k).acct ∉ x.used := by rw [e1, h.used k hk, hu]; simp
    have hpr : proofOK x.root (claimN a k) = true := by rw [h.root]; exact claimN_proof hf hk
    by_cases hm : x.bal < (accA a k).amt
    · have hb : checkE [x] (claimN a k) = 5 := by
        rw [checkE_one h1 h2, checkX, if_neg (by rw [h.ceased]; simp), if_neg hnu, if_neg (by rw [hpr]; simp), if_pos (by rw [e2]; exact hm)]
      exact ⟨x, S, 5, take_bad hb (by decide), fun h => (by cases h), fun _ _ => rfl, fun _ => ⟨rfl, rfl⟩, fun h => (by cases h), same 5 (by decide), Nat.le_succ _, Nat.le_succ _, rfl, rfl⟩
    · rcases takeE_cases x S (claimN a k) H with ⟨e, he, h3⟩ | ⟨h3, _, h4, h5, _⟩
      · exact ⟨x, S, e, h3, fun h => (by cases h), fun _ h => absurd h hm, fun _ => ⟨rfl, rfl⟩, fun h => absurd h he, same e he, Nat.le_succ _, Nat.le_succ _, rfl, rfl⟩
      · have hp := h.keep.paid (k := ⟨(claimN a k).st.owner, Int64.ofInt (claimN a k).st.amt, H, false⟩) (by omega) h1 h4 h5 (amt64 h1)
        refine ⟨_, _, 0, h3, fun h => (by cases h), fun _ h => absurd h hm, fun h => absurd rfl h, fun _ => by rw [hp.2.1, e2], ⟨hp.1, h.ceased, h.root, fun j hj => ?_⟩, ?_, ?_, rfl, rfl⟩
        · show (plA a j : Int) ∈ insU x.used (claimN a k).acct ↔ _
          rw [mem_insU, h.used j hj, e1]
          by_cases e : j = k
          · subst e; simp
          · rw [if_neg (by intro h; exact e h.2)]
            constructor
            · rintro (h6 | h6)
              · exact absurd (hf.apart k j hk hj (by omega)) e
              · exact h6
            · exact fun h6 => .inr h6
        · show (S.steps ++ [_]).length ≤ _
          rw [List.length_append]; exact Nat.le_refl _
        · show (insU x.used (claimN a k).acct).length ≤ _
          rw [insU_len]; exact Nat.le_refl _
end Go.Proofs.YtnpkdoggfnlapaaGreatDoor
namespace Go.Proofs.YtnpkdoggfnlapaaGreatDoor
set_option maxRecDepth 100000
open Go.Sx
abbrev rrS : TypeId := 108
abbrev rrE : TypeId := 109
abbrev rReg (L : List SideM) : AbsP := regP rrS rrE L
theorem boxed_par (p : ParM) (h : Int) (q : Nat) (hq : Boxed q [.vec 29 8 p.keys.length (keysF p.keys)] [.ins q 1 0 p.keys.length] [.row 8 p.keys.length (keysF p.keys)]) : Boxed q [.vec 29 8 p.keys.length (keysF p.keys)] (sideCells (sideOf p h) (.ins q 1 0 p.keys.length) nilV nilV nilV) (sideOf p h).ac :=
  boxed_side (x := sideOf p h) hq ⟨.inl ⟨rfl, rfl⟩, trivial⟩ ⟨.inl ⟨rfl, rfl⟩, trivial⟩ ⟨.inl ⟨rfl, rfl⟩, trivial⟩
theorem boxed_keys (p : ParM) (q : Nat) : Boxed q [.vec 29 8 p.keys.length (keysF p.keys)] [.ins q 1 0 p.keys.length] [.row 8 p.keys.length (keysF p.keys)] := ⟨.inr ⟨0, _, _, rfl, rfl, Nat.le_refl _, rfl⟩, trivial⟩
def rcSlots (h : Int) (c : Nat) : List (Option XV) := [some (XV.sv (.ptr 0 0 0 0)), none, some (XV.int .i64 h), none, some (XV.sv (.ptr c 0 0 0))] ++ List.replicate 35 none
def parW (p : ParM) (k : SV) : Chunk := .cells 40 (parCells p k)
def keysV (p : ParM) : Chunk := .vec 29 8 p.keys.length (keysF p.keys)
theorem packs1 {M : Mem} {i : Nat} {c0 c : Chunk} (h : M.get i = some c0) (hc : ChLe c0 c) : ∀ (j k : Nat) (ch : Chunk), [i][j]? = some k → [c][j]? = some ch → ∃ ch0, M.get k = some ch0 ∧ ChLe ch0 ch := by
  intro j k ch h1 h2
  rcases j with _ | j
  · cases h1; cases h2; exact ⟨_, h, hc⟩
  · cases h1
set_option maxHeartbeats 4000000 in
theorem rcreate_can (L : List SideM) (p : ParM) (h : Int) (hl : p.keys.length ≤ 1000000) (hL : L.length < 8) (hp : parB p = true) : Acts Tryz.prog 65 (.abs (rReg L)) (.abs (rReg (L ++ [sideOf p h]))) [.box p.ac, .plain (.one (.raw (.int .i64 h)))] [] (.tup [.one (.raw (.int .i64 L.length)), .one (.raw (.int .i64 0))]) := by
  have hq := rmayPar_can p (by omega)
  rw [hp] at hq
  refine Acts.of Tryz.T_ok Tryz.func65 rfl _ _ _ _ _ rfl rfl rfl (fun C hC => ?_)
  (replace hC : C.n0 = 3 := hC; change Tri _ _ _ ⟨_, _, 3⟩ _)
  rcases L with _ | ⟨x, r⟩
  · refine Reg.opens0 rrS rrE 0 rfl ?_
    (refine Tri.cut 4 Tryz.mixed Tryz.T_ok ?_; refine xZ ?_)
    (apply wP; exact (call_op rfl (entersB_of Tryz.func112 (by kernel_rfl)) rfl (hq.at [1] ⟨lend_par (lend_ro0 rfl rfl), trivial⟩ trivial)); refine xZ ?_)
    (refine wP _ _ (append_op Tryz.T_ok rfl rfl rfl rfl rfl [1] (old_nil rfl _ _ _ (fun _ => [])) (new_ro (lo := 0) rfl rfl (Nat.le_of_eq (Nat.zero_add _)) rfl) rfl (fun _ _ => rfl) (by simp only [maxLen]; omega) (by dsimp only; omega)) ?_; refine xZ ?_)
    simp only [Nat.zero_add]
    refine wD <| cutG <| Tri.ent (S' := ⟨rcSlots h 3, [(0, .cells rrS [nilV]), (3, parW p (.slc 4 8 0 p.keys.length)), (4, keysV p)], 5⟩) ?_ <| Tri.ent (Ent.pack2 [4] [keysV p] (by decide) rfl rfl (packs1 rfl (ChLe.refl _ rfl))) <|
      Tri.ent (S' := ⟨rcSlots h 3, [(0, .cells rrS [nilV]), (3, parW p (.ins 4 1 0 p.keys.length)), (4, .abs (PackP [keysV p]))], 5⟩) ?_ (Tri.of Tryz.mixed Tryz.T_ok ?_)
    · unfold rcSlots parW keysV
      ((try dsimp only); refine Ent.renC [0, 1, 2, 4, 18] hC ?_ ?_ <;> repeat' (first | exact trivial | exact rfl | exact ⟨_, rfl, rfl, rfl, Nat.le_refl _, fun _ _ => rfl⟩ | exact ⟨_, rfl, rfl, rfl, fun _ _ => rfl⟩ | exact ⟨_, rfl, rfl, rfl⟩ | exact ⟨_, rfl, rfl⟩ | refine ⟨_, rfl, rfl, rfl, by omega, fun k hk => ?_⟩ | refine ⟨?_, ?_⟩ | fail))
    · unfold rcSlots parW keysV
      ((try dsimp only); refine Ent.renC [0, 1, 2, 3, 5] hC ?_ ?_ <;> repeat' (first | exact trivial | exact rfl | exact ⟨_, rfl, rfl, rfl, Nat.le_refl _, fun _ _ => rfl⟩ | exact ⟨_, rfl, rfl, rfl, fun _ _ => rfl⟩ | exact ⟨_, rfl, rfl, rfl⟩ | exact ⟨_, rfl, rfl⟩ | refine ⟨_, rfl, rfl, rfl, by omega, fun k hk => ?_⟩ | refine ⟨?_, ?_⟩ | fail))
    unfold rcSlots parW keysV
    (refine xB ?_)
    (refine wP _ _ (appendNils_op Tryz.T_ok rfl rfl rfl rfl rfl rfl) ?_; refine xZ ?_)
    (refine wP _ _ (boxSlice_op Tryz.T_ok rfl rfl rfl) ?_; refine xZ ?_)
    (refine wP _ _ (appendBox_op Tryz.T_ok rfl rfl rfl rfl rfl rfl rfl rfl (p := 4) rfl rfl rfl (by decide) (boxed_par p h 4 (boxed_keys p 4))) ?_; refine xZ ?_)
    exact wD (Ends.shutN (.inr rfl) (Reg.shuts rrS rrE [sideOf p h] 0 (i1 := 15) Nat.one_pos rfl rfl rfl rfl rfl (lt1 rfl)) rfl rfl rfl)
  · have hLr : r.length + 1 < 8 := hL
    refine Reg.opensD rrS rrE (x :: r) 0 (Nat.succ_pos _) rfl ?_
    (refine Tri.cut 4 Tryz.mixed Tryz.T_ok ?_; refine xZ ?_)
    (apply wP; exact (call_op rfl (entersB_of Tryz.func112 (by kernel_rfl)) rfl (hq.at [1] ⟨lend_par (lend_ro0 rfl rfl), trivial⟩ trivial)); refine xZ ?_)
    (refine wFd ?_ ?_; (first | refine decide_eq_false ?_ | rw [beq_eq_false_iff_ne] | rw [bne_eq_false_iff_eq]); exact xW; refine xG ?_)
    (refine wP _ _ (append_op Tryz.T_ok rfl rfl rfl rfl rfl [1] (old_nil rfl _ _ _ (fun _ => [])) (new_ro (lo := 0) rfl rfl (Nat.le_of_eq (Nat.zero_add _)) rfl) rfl (fun _ _ => rfl) (by simp only [maxLen]; omega) (by dsimp only; omega)) ?_; refine xZ ?_)
    simp only [Nat.zero_add]
    refine wD <| cutG <| Tri.ent (S' := ⟨rcSlots h 4, [(0, .cells rrS [.slc 3 42 0 (x :: r).length]), (3, .abs (DeepP rrE 42 (x :: r).length (regF (x :: r)))), (4, parW p (.slc 5 8 0 p.keys.length)), (5, keysV p)], 6⟩) ?_ <| Tri.ent (Ent.pack2 [5] [keysV p] (by decide) rfl rfl (packs1 rfl (ChLe.refl _ rfl))) <|
      Tri.ent (S' := ⟨rcSlots h 4, [(0, .cells rrS [.slc 3 42 0 (x :: r).length]), (3, .abs (DeepP rrE 42 (x :: r).length (regF (x :: r)))), (4, parW p (.ins 5 1 0 p.keys.length)), (5, .abs (PackP [keysV p]))], 6⟩) ?_ (Tri.of Tryz.mixed Tryz.T_ok ?_)
    · unfold rcSlots parW keysV
      ((try dsimp only); refine Ent.renC [0, 1, 2, 4, 5, 19] hC ?_ ?_ <;> repeat' (first | exact trivial | exact rfl | exact ⟨_, rfl, rfl, rfl, Nat.le_refl _, fun _ _ => rfl⟩ | exact ⟨_, rfl, rfl, rfl, fun _ _ => rfl⟩ | exact ⟨_, rfl, rfl, rfl⟩ | exact ⟨_, rfl, rfl⟩ | refine ⟨_, rfl, rfl, rfl, by omega, fun k hk => ?_⟩ | refine ⟨?_, ?_⟩ | fail))
    · unfold rcSlots parW keysV
      ((try dsimp only); refine Ent.renC [0, 1, 2, 3, 4, 6] hC ?_ ?_ <;> repeat' (first | exact trivial | exact rfl | exact ⟨_, rfl, rfl, rfl, Nat.le_refl _, fun _ _ => rfl⟩ | exact ⟨_, rfl, rfl, rfl, fun _ _ => rfl⟩ | exact ⟨_, rfl, rfl, rfl⟩ | exact ⟨_, rfl, rfl⟩ | refine ⟨_, rfl, rfl, rfl, by omega, fun k hk => ?_⟩ | refine ⟨?_, ?_⟩ | fail))
    unfold rcSlots parW keysV
    (refine xB ?_)
    (refine wP _ _ (copyDeep_op Tryz.T_ok rfl rfl rfl rfl rfl rfl rfl rfl (by decide) (Nat.succ_pos _) (by simp only [maxLen]; omega) (by dsimp only; omega) (fun i _ => SideM.ac_one _)) ?_; refine xZ ?_)
    (refine wP _ _ (boxSlice_op Tryz.T_ok rfl rfl rfl) ?_; refine xZ ?_)
    (refine wP _ _ (appendBoxes_op Tryz.T_ok rfl rfl rfl rfl rfl rfl rfl rfl rfl (p := 5) rfl (by decide) (by decide) rfl rfl (by simp only [maxLen]; omega) (by dsimp only; omega) (boxed_par p h 5 (boxed_keys p 5))) ?_; refine xZ ?_)
    have hl1 : ((x :: r) ++ [sideOf p h]).length = (x :: r).length + 1 := by simp
    refine wD (Ends.shutN (.inr rfl) (Reg.shuts rrS rrE ((x :: r) ++ [sideOf p h]) 0 (i1 := 16) (m := (x :: r).length + 1) (n := (x :: r).length + 1) (by omega) rfl rfl rfl hl1.symm hl1.symm (fun i hi => regF_snoc hi)) rfl rfl ?_)
    have e : IntKind.i64.wrap ((((x :: r).length + 1 : Nat) : Int) - 1) = ((x :: r).length : Int) := xW
    show XV.tup [.one (.raw (.int .i64 (IntKind.i64.wrap ((((x :: r).length + 1 : Nat) : Int) - 1)))), _] = _
    rw [e]
set_option maxHeartbeats 4000000 in
theorem rforward_in (L : List SideM) (i : Nat) (hi : i < L.length) (a : Int) (o : H8) (n : Int) : Acts Tryz.prog 67 (.abs (rReg L)) (.abs (rReg (L.set i (fwdX (L.getD i default) n)))) [.plain (fwdC i a o n)] [] (XV.int .i64 (fwdE (L.getD i default) n)) := by
  have h0 : 0 < L.length := by omega
  refine Acts.of Tryz.T_ok Tryz.func67 rfl _ _ _ _ _ rfl rfl rfl (fun C hC => ?_)
  (replace hC : C.n0 = 2 := hC; change Tri _ _ _ ⟨_, _, 2⟩ _)
  refine Reg.opens rrS rrE L 0 h0 rfl (Nat.le_of_ble_eq_true rfl) (fun ad => Tri.of Tryz.mixed Tryz.T_ok ?_)
  (refine xB ?_)
  (refine wFd ?_ ?_; (first | refine decide_eq_false ?_ | rw [beq_eq_false_iff_ne] | rw [bne_eq_false_iff_eq]); exact xW; refine xG ?_)
  (refine wFd ?_ ?_; (first | refine decide_eq_false ?_ | rw [beq_eq_false_iff_ne] | rw [bne_eq_false_iff_eq]); exact xW; refine xG ?_)
  (repeat (refine wN ?_ ?_; exact xW; refine xG ?_))
  simp only [Nat.zero_add, Int.toNat_natCast]
  obtain ⟨x, hx⟩ : ∃ x, L.getD i default = x := ⟨_, rfl⟩
  have no : ∀ {S : St} {mem : Mem} {e : Int}, fwdE x n = e → e ≠ 0 → Ent C S ⟨S.slots, (0, .abs (rReg L)) :: mem, S.nx⟩ → resX Tryz.T ⟨S.slots, (0, .abs (rReg L)) :: mem, S.nx⟩ Tryz.f67.results.toList = some (XV.int .i64 e) →
      Sx.Ends C Tryz.T Tryz.f67.results.toList 1 2 ⟨XV.int .i64 (fwdE (L.getD i default) n), [(0, .abs (rReg (L.set i (fwdX (L.getD i default) n))))], none⟩ .ret S := by
    intro S mem e he h0 hE hr
    rw [fwd_same hi (by rw [hx, he]; exact h0), hx, he]
    exact Ends.shutN (.inr rfl) hE rfl hr rfl
  have shut := fun {slots : List (Option XV)} {mem : Mem} {nx : Nat} k0 k1 k2 => Reg.shutsO (C := C) (slots := slots) (mem := mem) (nx := nx) rrS rrE L L 0 (i1 := 3) (q := 4) (ad := ad) (m := L.length) (n := L.length) h0 k0 k1 k2 rfl rfl rfl (fun _ _ => rfl) regF_raw
  refine wC (fun h1 => ?_) (fun h1 => ?_)
  · rw [hx] at h1
    (refine xG ?_)
    exact wD (no (if_pos h1) (by decide) (shut rfl rfl rfl) rfl)
  rw [hx] at h1
  have bad : fwdOKX x n = false → fwdE x n = 5 := fun h => by rw [fwdE, if_neg (by rw [h1]; simp), if_neg (by rw [h]; simp)]
  (refine xG ?_)
  refine wC (fun h2 => ?_) (fun h2 => ?_)
  · (refine xG ?_)
    exact wD (no (bad (by rw [fwdOKX, h2]; rfl)) (by decide) (shut rfl rfl rfl) rfl)
  (refine xG ?_)
  refine wC (fun h3 => ?_) (fun h3 => ?_)
  · have h3 : mayB n = false := by simp only [decide_eq_true_eq] at h3; rw [mayB, decide_eq_false (show ¬ n ≤ 1125899906842624 by omega), Bool.and_false]
    (refine xG ?_)
    exact wD (no (bad (by rw [fwdOKX, h2, h3]; rfl)) (by decide) (shut rfl rfl rfl) rfl)
  have h3 : mayB n = true := by simp only [decide_eq_false_iff_not] at h2 h3; rw [mayB, decide_eq_true (show 0 ≤ n by omega), decide_eq_true (show n ≤ 1125899906842624 by omega)]; rfl
  (refine xG ?_)
  refine wC (fun h4 => ?_) (fun h4 => ?_)
  · rw [hx] at h4
    (refine xG ?_)
    exact wD (no (bad (by rw [fwdOKX, h2, h3, roomI, h4]; rfl)) (by decide) (shut rfl rfl rfl) rfl)
  rw [hx] at h4
  (refine xG ?_)
  refine wC (fun h5 => ?_) (fun h5 => ?_)
  · rw [hx] at h5
    (refine xG ?_)
    exact wD (no (bad (by rw [fwdOKX, h2, h3, roomI, h4, h5]; rfl)) (by decide) (shut rfl rfl rfl) rfl)
  rw [hx] at h5
  have he : fwdE x n = 0 := by rw [fwdE, if_neg (by rw [h1]; simp), if_pos (by rw [fwdOKX, h2, h3, roomI, h4, h5]; rfl)]
  have hX : fwdX x n = { x with bal := IntKind.i64.wrap (x.bal + n), fwd := IntKind.i64.wrap (x.fwd + n) } := by rw [fwdX, if_pos he]
  (refine xG ?_)
  (repeat (refine wN ?_ ?_; exact xW; refine xG ?_))
  simp only [Nat.zero_add, Int.toNat_natCast]
  rw [hx, he, hX]
  have hl : ∀ y : SideM, (L.set i y).length = L.length := fun y => List.length_set ..
  refine wD (Ends.shutN (.inr rfl) (Reg.shutsO rrS rrE L (L.set i { x with bal := IntKind.i64.wrap (x.bal + n), fwd := IntKind.i64.wrap (x.fwd + n) }) 0 (i1 := 3) (q := 4) (ad := ad) (by rw [hl]; exact h0) rfl rfl rfl rfl (hl _).symm (hl _).symm (fun k hk => ?_) (fun k hk j y hy => ?_)) rfl rfl rfl)
  · by_cases hki : k = i
    · subst hki
      rw [updF_eq, regF_at hi]; rfl
    · rw [updF_ne hki, regF_ne hki]
  · by_cases hki : k = i
    · subst hki
      rw [regF_at hi] at hy
      rw [regF, hx]
      exact side_rows (x := { x with bal := IntKind.i64.wrap (x.bal + n), fwd := IntKind.i64.wrap (x.fwd + n) }) (y := x) rfl rfl rfl rfl hy
    · rw [regF_ne hki] at hy
      exact .inr hy
end Go.Proofs.YtnpkdoggfnlapaaGreatDoor
namespace Go.Proofs.YtnpkdoggfnlapaaGreatDoor
set_option maxRecDepth 100000
open Go.Sx
noncomputable def frc {α : Type} (x : Nat) (k : Nat → α) : α := @Nat.rec (fun _ => α) (k 0) (fun n _ => k (Nat.succ n)) x
theorem frc_eq {α : Type} (x : Nat) (k : Nat → α) : frc x k = k x := by cases x <;> rfl
def nrot (x n m : Nat) : Nat := Nat.lor (Nat.shiftRight x n) (Nat.mod (Nat.shiftLeft x m) 4294967296)
def nS0 (x : Nat) : Nat := Nat.xor (Nat.xor (nrot x 2 30) (nrot x 13 19)) (nrot x 22 10)
def nS1 (x : Nat) : Nat := Nat.xor (Nat.xor (nrot x 6 26) (nrot x 11 21)) (nrot x 25 7)
def ns0 (x : Nat) : Nat := Nat.xor (Nat.xor (nrot x 7 25) (nrot x 18 14)) (Nat.shiftRight x 3)
def ns1 (x : Nat) : Nat := Nat.xor (Nat.xor (nrot x 17 15) (nrot x 19 13)) (Nat.shiftRight x 10)
def nch (e f g : Nat) : Nat := Nat.xor (Nat.land e f) (Nat.land (Nat.xor 4294967295 e) g)
def nmaj (a b c : Nat) : Nat := Nat.xor (Nat.xor (Nat.land a b) (Nat.land a c)) (Nat.land b c)
def nT (e f g h k w : Nat) : Nat := Nat.mod (Nat.add (Nat.add (Nat.add (Nat.add h (nS1 e)) (nch e f g)) k) w) 4294967296
def nadd (a b : Nat) : Nat := Nat.mod (Nat.add a b) 4294967296
def nmix (w0 w1 w9 w14 : Nat) : Nat := Nat.mod (Nat.add (Nat.add (Nat.add w0 w9) (ns0 w1)) (ns1 w14)) 4294967296
abbrev B32 (x : Nat) : Prop := x < 4294967296
theorem bit_nat (f : BitVec 32 → BitVec 32 → BitVec 32) (g : Nat → Nat → Nat) (hf : ∀ a b, (f a b).toNat = g a.toNat b.toNat) {x y : Nat} (hx : B32 x) (hy : B32 y) : IntKind.u32.wrap ((f (BitVec.ofInt 32 (x : Int)) (BitVec.ofInt 32 (y : Int))).toNat : Int) = ((g x y : Nat) : Int) ∧ B32 (g x y) := by
  have e1 : (BitVec.ofInt 32 (x : Int)).toNat = x := by rw [ofInt_nat, BitVec.toNat_ofNat]; exact Nat.mod_eq_of_lt hx
  have e2 : (BitVec.ofInt 32 (y : Int)).toNat = y := by rw [ofInt_nat, BitVec.toNat_ofNat]; exact Nat.mod_eq_of_lt hy
  have h := (f (BitVec.ofInt 32 (x : Int)) (BitVec.ofInt 32 (y : Int))).isLt
  rw [hf, e1, e2] at h ⊢
  refine ⟨?_, h⟩
  rw [IntKind.wrap_u32]
  exact Int.emod_eq_of_lt (by omega) (by omega)
theorem xor_nat {x y : Nat} (hx : B32 x) (hy : B32 y) : bitI .xor .u32 (x : Int) (y : Int) = ((Nat.xor x y : Nat) : Int) := (bit_nat (· ^^^ ·) Nat.xor (fun a b => BitVec.toNat_xor a b) hx hy).1
theorem and_nat {x y : Nat} (hx : B32 x) (hy : B32 y) : bitI .and .u32 (x : Int) (y : Int) = ((Nat.land x y : Nat) : Int) := (bit_nat (· &&& ·) Nat.land (fun a b => BitVec.toNat_and a b) hx hy).1
theorem or_nat {x y : Nat} (hx : B32 x) (hy : B32 y) : bitI .or .u32 (x : Int) (y : Int) = ((Nat.lor x y : Nat) : Int) := (bit_nat (· ||| ·) Nat.lor (fun a b => BitVec.toNat_or a b) hx hy).1
theorem xor_lt {x y : Nat} (hx : B32 x) (hy : B32 y) : B32 (Nat.xor x y) := (bit_nat (· ^^^ ·) Nat.xor (fun a b => BitVec.toNat_xor a b) hx hy).2
theorem and_lt {x y : Nat} (hx : B32 x) (hy : B32 y) : B32 (Nat.land x y) := (bit_nat (· &&& ·) Nat.land (fun a b => BitVec.toNat_and a b) hx hy).2
theorem or_lt {x y : Nat} (hx : B32 x) (hy : B32 y) : B32 (Nat.lor x y) := (bit_nat (· ||| ·) Nat.lor (fun a b => BitVec.toNat_or a b) hx hy).2
theorem shr32_nat (x n : Nat) (hn : n ≤ 32) : shrI .u32 (x : Int) (n : Int) = ((Nat.shiftRight x n : Nat) : Int) := by
  have hb : IntKind.u32.bits = 32 := rfl
  have e : min ((n : Int).toNat) IntKind.u32.bits = n := by rw [hb]; omega
  rw [shrI, e, Int.fdiv_eq_ediv_of_nonneg _ (Int.le_of_lt (Int.pow_pos (by decide)))]
  show _ = ((x >>> n : Nat) : Int)
  rw [Nat.shiftRight_eq_div_pow, Int.natCast_ediv, Int.natCast_pow]
  rfl
theorem shl32_nat (x n : Nat) (hn : n ≤ 32) : shlI .u32 (x : Int) (n : Int) = ((Nat.mod (Nat.shiftLeft x n) 4294967296 : Nat) : Int) := by
  have hb : IntKind.u32.bits = 32 := rfl
  have e : min ((n : Int).toNat) IntKind.u32.bits = n := by rw [hb]; omega
  rw [shlI, e, IntKind.wrap_u32]
  show _ = ((x <<< n % 4294967296 : Nat) : Int)
  rw [Nat.shiftLeft_eq, Int.natCast_emod, Int.natCast_mul, Int.natCast_pow]
  rfl
theorem mod_lt32 (x : Nat) : B32 (Nat.mod x 4294967296) := Nat.mod_lt _ (by decide)
theorem shr_lt {x : Nat} (n : Nat) (hx : B32 x) : B32 (Nat.shiftRight x n) := by
  show x >>> n < _
  rw [Nat.shiftRight_eq_div_pow]
  exact Nat.lt_of_le_of_lt (Nat.div_le_self _ _) hx
theorem rot_lt {x : Nat} (n m : Nat) (hx : B32 x) : B32 (nrot x n m) := or_lt (shr_lt n hx) (mod_lt32 _)
theorem turn_nat {x n m : Nat} (hx : B32 x) (hn : n ≤ 32) (hm : m ≤ 32) (e : IntKind.u64.wrap (32 - (n : Int)) = (m : Int)) : turn (x : Int) (n : Int) = ((nrot x n m : Nat) : Int) := by
  rw [turn, e, shr32_nat x n hn, shl32_nat x m hm, or_nat (shr_lt n hx) (mod_lt32 _)]
  rfl
theorem w32_nat (a b : Nat) : w32 (a : Int) (b : Int) = ((nadd a b : Nat) : Int) := by
  rw [w32, IntKind.wrap_u32]
  show _ = (((a + b) % 4294967296 : Nat) : Int)
  omega
theorem rotR_nat {x : Nat} (hx : B32 x) : rotR (x : Int) 2 = ((nrot x 2 30 : Nat) : Int) ∧ rotR (x : Int) 13 = ((nrot x 13 19 : Nat) : Int) ∧ rotR (x : Int) 22 = ((nrot x 22 10 : Nat) : Int) ∧ rotR (x : Int) 6 = ((nrot x 6 26 : Nat) : Int) ∧ rotR (x : Int) 11 = ((nrot x 11 21 : Nat) : Int) ∧ rotR (x : Int) 25 = ((nrot x 25 7 : Nat) : Int)
    ∧ rotR (x : Int) 7 = ((nrot x 7 25 : Nat) : Int) ∧ rotR (x : Int) 18 = ((nrot x 18 14 : Nat) : Int) ∧ rotR (x : Int) 17 = ((nrot x 17 15 : Nat) : Int) ∧ rotR (x : Int) 19 = ((nrot x 19 13 : Nat) : Int) := by
  rw [← turn2, ← turn13, ← turn22, ← turn6, ← turn11, ← turn25, ← turn7, ← turn18, ← turn17, ← turn19]
  exact ⟨turn_nat (n := 2) (m := 30) hx (by decide) (by decide) (by decide), turn_nat (n := 13) (m := 19) hx (by decide) (by decide) (by decide), turn_nat (n := 22) (m := 10) hx (by decide) (by decide) (by decide), turn_nat (n := 6) (m := 26) hx (by decide) (by decide) (by decide), turn_nat (n := 11) (m := 21) hx (by decide) (by decide) (by decide), turn_nat (n := 25) (m := 7) hx (by decide) (by decide) (by decide),
    turn_nat (n := 7) (m := 25) hx (by decide) (by decide) (by decide), turn_nat (n := 18) (m := 14) hx (by decide) (by decide) (by decide), turn_nat (n := 17) (m := 15) hx (by decide) (by decide) (by decide), turn_nat (n := 19) (m := 13) hx (by decide) (by decide) (by decide)⟩
theorem sumA_nat {v : Nat → Int} {a : Nat} (h : v 0 = (a : Int)) (ha : B32 a) : sumA v = ((nS0 a : Nat) : Int) := by
  obtain ⟨r2, r13, r22, _⟩ := rotR_nat ha
  rw [sumA, h, r2, r13, r22, xor_nat (rot_lt _ _ ha) (rot_lt _ _ ha), xor_nat (xor_lt (rot_lt _ _ ha) (rot_lt _ _ ha)) (rot_lt _ _ ha)]
  rfl
theorem sumE_nat {v : Nat → Int} {a : Nat} (h : v 4 = (a : Int)) (ha : B32 a) : sumE v = ((nS1 a : Nat) : Int) := by
  obtain ⟨_, _, _, r6, r11, r25, _⟩ := rotR_nat ha
  rw [sumE, h, r6, r11, r25, xor_nat (rot_lt _ _ ha) (rot_lt _ _ ha), xor_nat (xor_lt (rot_lt _ _ ha) (rot_lt _ _ ha)) (rot_lt _ _ ha)]
  rfl
theorem sg0_nat {a : Nat} (ha : B32 a) : sg0 (a : Int) = ((ns0 a : Nat) : Int) := by
  obtain ⟨_, _, _, _, _, _, r7, r18, _⟩ := rotR_nat ha
  rw [sg0, r7, r18, show shrI .u32 (a : Int) 3 = _ from shr32_nat a 3 (by decide), xor_nat (rot_lt _ _ ha) (rot_lt _ _ ha), xor_nat (xor_lt (rot_lt _ _ ha) (rot_lt _ _ ha)) (shr_lt _ ha)]
  rfl
theorem sg1_nat {a : Nat} (ha : B32 a) : sg1 (a : Int) = ((ns1 a : Nat) : Int) := by
  obtain ⟨_, _, _, _, _, _, _, _, r17, r19⟩ := rotR_nat ha
  rw [sg1, r17, r19, show shrI .u32 (a : Int) 10 = _ from shr32_nat a 10 (by decide), xor_nat (rot_lt _ _ ha) (rot_lt _ _ ha), xor_nat (xor_lt (rot_lt _ _ ha) (rot_lt _ _ ha)) (shr_lt _ ha)]
  rfl
theorem chE_nat {v : Nat → Int} {e f g : Nat} (h4 : v 4 = (e : Int)) (h5 : v 5 = (f : Int)) (h6 : v 6 = (g : Int)) (he : B32 e) (hf : B32 f) (hg : B32 g) : chE v = ((nch e f g : Nat) : Int) := by
  have hm : (if IntKind.u32.signed then (-1 : Int) else IntKind.u32.max) = ((4294967295 : Nat) : Int) := by decide
  have h1 : B32 4294967295 := by decide
  rw [chE, h4, h5, h6, hm, and_nat he hf, xor_nat h1 he, and_nat (xor_lt h1 he) hg, xor_nat (and_lt he hf) (and_lt (xor_lt h1 he) hg)]
  rfl
theorem majA_nat {v : Nat → Int} {a b c : Nat} (h0 : v 0 = (a : Int)) (h1 : v 1 = (b : Int)) (h2 : v 2 = (c : Int)) (ha : B32 a) (hb : B32 b) (hc : B32 c) : majA v = ((nmaj a b c : Nat) : Int) := by
  rw [majA, h0, h1, h2, and_nat ha hb, and_nat ha hc, and_nat hb hc, xor_nat (and_lt ha hb) (and_lt ha hc), xor_nat (xor_lt (and_lt ha hb) (and_lt ha hc)) (and_lt hb hc)]
  rfl
structure R8 (v : Nat → Int) (a b c d e f g h : Nat) : Prop where
  (h0 : v 0 = (a : Int)) (h1 : v 1 = (b : Int)) (h2 : v 2 = (c : Int)) (h3 : v 3 = (d : Int)) (h4 : v 4 = (e : Int)) (h5 : v 5 = (f : Int)) (h6 : v 6 = (g : Int)) (h7 : v 7 = (h : Int))
  (l0 : B32 a) (l1 : B32 b) (l2 : B32 c) (l3 : B32 d) (l4 : B32 e) (l5 : B32 f) (l6 : B32 g) (l7 : B32 h)
theorem stT_nat {v : Nat → Int} {a b c d e f g h k w : Nat} (R : R8 v a b c d e f g h) : stT v (k : Int) (w : Int) = ((nT e f g h k w : Nat) : Int) := by
  rw [stT, R.h7, sumE_nat R.h4 R.l4, chE_nat R.h4 R.h5 R.h6 R.l4 R.l5 R.l6, w32_nat, w32_nat, w32_nat, w32_nat]
  congr 1
  show (((((h + nS1 e) % 4294967296 + nch e f g) % 4294967296) + k) % 4294967296 + w) % 4294967296 = (h + nS1 e + nch e f g + k + w) % 4294967296
  omega
theorem step_nat {v : Nat → Int} {a b c d e f g h k w : Nat} (R : R8 v a b c d e f g h) : R8 (stepV v (k : Int) (w : Int)) (Nat.mod (Nat.add (nT e f g h k w) (Nat.add (nS0 a) (nmaj a b c))) 4294967296) a b c (Nat.mod (Nat.add d (nT e f g h k w)) 4294967296) e f g := by
  refine ⟨?_, R.h0, R.h1, R.h2, ?_, R.h4, R.h5, R.h6, mod_lt32 _, R.l0, R.l1, R.l2, mod_lt32 _, R.l4, R.l5, R.l6⟩
  · show w32 (stT v k w) (stU v) = _
    rw [stT_nat R, stU, sumA_nat R.h0 R.l0, majA_nat R.h0 R.h1 R.h2 R.l0 R.l1 R.l2, w32_nat, w32_nat]
    congr 1
    show (nT e f g h k w + (nS0 a + nmaj a b c) % 4294967296) % 4294967296 = (nT e f g h k w + (nS0 a + nmaj a b c)) % 4294967296
    omega
  · show w32 (v 3) (stT v k w) = _
    rw [stT_nat R, R.h3, w32_nat]
    rfl
end Go.Proofs.YtnpkdoggfnlapaaGreatDoor

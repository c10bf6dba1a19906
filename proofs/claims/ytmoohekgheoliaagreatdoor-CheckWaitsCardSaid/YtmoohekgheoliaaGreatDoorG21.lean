/- Parts Tm Tn To Ra. -/
import Derived.Test.YtmoohekgheoliaaGreatDoorG20
set_option linter.unusedSimpArgs false
set_option linter.unusedVariables false
namespace Go.Proofs.YtmoohekgheoliaaGreatDoor
set_option maxRecDepth 100000
open Go.Sx
def inAt (S : USet) (t : TxM) (h : Int) (i : Nat) : Coin × Int := inE S t i h (t.ins.getD i default)
def firstE (S : USet) (t : TxM) (h : Int) : Nat → Int
  | 0 => 0
  | n + 1 => if firstE S t h n = 0 then (inAt S t h n).2 else firstE S t h n
def inAmts (S : USet) (t : TxM) (h : Int) (n : Nat) : List Int := (List.range n).map fun i => (inAt S t h i).1.amt.toInt
theorem inAmts_succ (S : USet) (t : TxM) (h : Int) (n : Nat) : inAmts S t h (n + 1) = inAmts S t h n ++ [(inAt S t h n).1.amt.toInt] := by simp [inAmts, List.range_succ]
theorem inAmts_length (S : USet) (t : TxM) (h : Int) (n : Nat) : (inAmts S t h n).length = n := by simp [inAmts]
theorem firstE_late {S : USet} {t : TxM} {h : Int} : ∀ {n m : Nat}, m ≤ n → firstE S t h m ≠ 0 → firstE S t h n = firstE S t h m
  | n, m, hle, hm => by
    induction n with
    | zero => obtain rfl : m = 0 := by omega
              rfl
    | succ n ih =>
      by_cases e : m = n + 1
      · rw [e]
      · have := ih (by omega)
        rw [firstE, if_neg (by rw [this]; exact hm), this]
def feeE (a b : Option Int) : Int × Int :=
  if (!a.isSome || (!b.isSome || !bothB (a.getD 0) (b.getD 0) (IntKind.i64.wrap (a.getD 0 - b.getD 0)))) = true then (0, 5) else (IntKind.i64.wrap (a.getD 0 - b.getD 0), 0)
def payE (S : USet) (t : TxM) (h : Int) : Int × Int :=
  if firstE S t h t.ins.length = 0 then feeE (sumM 0 (inAmts S t h t.ins.length)) (sumM 0 (payAmts t)) else (0, firstE S t h t.ins.length)
def intsX (r : Int × Int) : XV := .tup [.one (.raw (.int .i64 r.1)), .one (.raw (.int .i64 r.2))]
def txRows (t : TxM) : Mem := [(1, .ro 298 t.ins.length (insF t.ins)), (2, .ro 9 t.outs.length (outsF t.outs)), (3, .ro 11 t.fwds.length (fwdsF t.fwds)), (4, .ro 8 t.par.keys.length (keysF t.par.keys)), (5, .ro 9 t.cert.outs.length (outsF t.cert.outs)), (6, .ro 282 t.cert.sigs.length (sgdsF t.cert.sigs))]
def payMem (S : USet) (t : TxM) (n : Nat) (L : List Int) : Mem := (0, .abs (usetP S)) :: (txRows t ++ [(8, .ext stepsP), (9, .cells 49 (boxC 1 t.ac)), (10, .vec 3 1 n (amtsF L))])
def paySt (S : USet) (t : TxM) (h : Int) (i : Nat) : St :=
  ⟨[some (XV.sv (.ptr 0 0 0 0)), none, some (XV.int .i64 h), none, some (XV.sv (.ptr 9 0 0 0)), none, none, none, some (XV.sv (.slc 10 1 0 i))] ++ List.replicate 23 none ++ [some (XV.int .i64 t.ins.length), some (XV.int .i64 i)] ++ List.replicate 47 none, payMem S t i (inAmts S t h i), 11⟩
set_option maxHeartbeats 4000000 in
theorem pay_can (S : USet) (t : TxM) (h : Int) (hk : t.kind = 2) (hs : Sized t) (hc : t.claim.Wf) (hm : mayPay t hc = true) :
    Acts Tryz.prog 18 (.abs (usetP S)) (.abs (usetP S)) [.box t.ac, .plain (.one (.raw (.int .i64 h)))] [stepsP] (intsX (payE S t h)) := by
  have hmay := may_true hk hs hc hm
  have hins : t.ins.length ≤ 8 := by
    have := (mayPay_iff.1 hm).1
    rw [payB, Bool.and_eq_true, insOK, Bool.and_eq_true, within_iff] at this
    omega
  refine Acts.of Tryz.T_ok Tryz.func18 rfl _ _ _ _ _ rfl rfl rfl (fun C hC => ?_)
  (replace hC : C.n0 = 9 := hC; change Tri _ _ _ ⟨_, _, 9⟩ _)
  (refine Tri.cut 3 Tryz.mixed Tryz.T_ok ?_; ((conv => arg 5; whnf); repeat ((with_reducible first | refine xT ?_ | refine xF ?_ | refine xO ?_ | refine xN ?_ | refine xU ?_ | refine xV ?_); conv => arg 5; whnf)))
  (refine wFd ?_ ?_; (first | refine decide_eq_false ?_ | rw [beq_eq_false_iff_ne] | rw [bne_eq_false_iff_eq]); exact (by (try simp only [ww1, ww2, ww3, ww4, ww5, ww6, ww7] at *); omega); refine wGo ?_; ((conv => arg 5; whnf); repeat ((with_reducible first | refine xT ?_ | refine xF ?_ | refine xO ?_ | refine xN ?_ | refine xU ?_ | refine xV ?_); conv => arg 5; whnf)))
  (apply wP; exact (call_op rfl (entersB_of Tryz.func36 (by kernel_rfl)) rfl (hmay.at [1, 2, 3, 4, 5, 6] ⟨lend_tx (t := t) (lend_ro0 rfl rfl) (lend_ro0 rfl rfl) (lend_ro0 rfl rfl) (lend_ro0 rfl rfl) (lend_ro0 rfl rfl) (lend_ro0 rfl rfl), trivial⟩ trivial)); ((conv => arg 5; whnf); repeat ((with_reducible first | refine xT ?_ | refine xF ?_ | refine xO ?_ | refine xN ?_ | refine xU ?_ | refine xV ?_); conv => arg 5; whnf)))
  refine wD <| cutG <| Tri.ent (Ent.nils (t := 8) rfl 3 1) <| Tri.seq ?_
  (refine Tri.cut 1 Tryz.mixed Tryz.T_ok ?_; ((conv => arg 5; whnf); repeat ((with_reducible first | refine xT ?_ | refine xF ?_ | refine xO ?_ | refine xN ?_ | refine xU ?_ | refine xV ?_); conv => arg 5; whnf)))
  refine wD <| cutG <| Tri.block ?_
  refine Tri.loop (α := { i : Nat // i ≤ t.ins.length ∧ firstE S t h i = 0 }) (fun i => paySt S t h i.1) (fun i => t.ins.length - i.1) ⟨0, Nat.zero_le _, rfl⟩ ?_ ?_
  · ((try dsimp only); refine Ent.renC [0, 1, 2, 3, 4, 5, 6, 7, 8, 9, 25] hC ?_ ?_ <;> repeat' (first | exact trivial | exact rfl | exact ⟨_, rfl, rfl, rfl, Nat.le_refl _, fun _ _ => rfl⟩ | exact ⟨_, rfl, rfl, rfl, fun _ _ => rfl⟩ | exact ⟨_, rfl, rfl, rfl⟩ | exact ⟨_, rfl, rfl⟩ | refine ⟨_, rfl, rfl, rfl, by omega, fun k hk => ?_⟩ | refine ⟨?_, ?_⟩ | fail))
    exact absurd hk (Nat.not_lt_zero _)
  rintro ⟨i, hi, he⟩
  dsimp only
  (refine Tri.cut 2 Tryz.mixed Tryz.T_ok ?_; ((conv => arg 5; whnf); repeat ((with_reducible first | refine xT ?_ | refine xF ?_ | refine xO ?_ | refine xN ?_ | refine xU ?_ | refine xV ?_); conv => arg 5; whnf)))
  refine wC (fun h1 => ?_) (fun h1 => ?_)
  · (refine wGo ?_; ((conv => arg 5; whnf); repeat ((with_reducible first | refine xT ?_ | refine xF ?_ | refine xO ?_ | refine xN ?_ | refine xU ?_ | refine xV ?_); conv => arg 5; whnf)))
    have h1' : i < t.ins.length := (by (try simp only [ww1, ww2, ww3, ww4, ww5, ww6, ww7] at *); omega)
    have hw : IntKind.i64.wrap ((i : Int) + 1) = ((i + 1 : Nat) : Int) := (by (try simp only [ww1, ww2, ww3, ww4, ww5, ww6, ww7] at *); omega)
    have hin := in_can S t i h hk hs hc hm h1'
    have hA := inAmts_succ S t h i
    have hF : firstE S t h (i + 1) = (inAt S t h i).2 := by rw [firstE, if_pos he]
    obtain ⟨R, hR⟩ : ∃ R, inAt S t h i = R := ⟨_, rfl⟩
    have hR' : inE S t i h (t.ins.getD i default) = R := hR
    rw [hR'] at hin
    rw [hR] at hA hF
    refine wD <| cutG <| Tri.seq <| Tri.block <| Tri.of Tryz.mixed Tryz.T_ok ?_
    (refine wBegin ?_; ((conv => arg 5; whnf); repeat ((with_reducible first | refine xT ?_ | refine xF ?_ | refine xO ?_ | refine xN ?_ | refine xU ?_ | refine xV ?_); conv => arg 5; whnf)))
    (apply wP; exact (call_op rfl (entersB_of Tryz.func37 (by kernel_rfl)) rfl (hin.at [1, 2, 3, 4, 5, 6, 8] rfl rfl rfl ⟨lend_tx (t := t) (lend_ro0 rfl rfl) (lend_ro0 rfl rfl) (lend_ro0 rfl rfl) (lend_ro0 rfl rfl) (lend_ro0 rfl rfl) (lend_ro0 rfl rfl), lend_plain rfl, lend_plain rfl, trivial⟩ ⟨lend_ext (c := 8) rfl rfl, trivial⟩)); ((conv => arg 5; whnf); repeat ((with_reducible first | refine xT ?_ | refine xF ?_ | refine xO ?_ | refine xN ?_ | refine xU ?_ | refine xV ?_); conv => arg 5; whnf)))
    refine wC (fun h2 => ?_) (fun h2 => ?_)
    · have h2' : ¬ R.2 = 0 := by simpa using h2
      (refine wGo ?_; ((conv => arg 5; whnf); repeat ((with_reducible first | refine xT ?_ | refine xF ?_ | refine xO ?_ | refine xN ?_ | refine xU ?_ | refine xV ?_); conv => arg 5; whnf)))
      refine wD <| blockR <| cutR <| loopR <| blockR <| cutR <| Ends.shutN (.inr rfl) (Ent.refl _) rfl rfl ?_
      have hl : firstE S t h t.ins.length = R.2 := by
        rw [firstE_late (m := i + 1) h1' (by rw [hF]; exact h2'), hF]
      rw [payE, if_neg (by rw [hl]; exact h2'), hl]; rfl
    · have h2' : R.2 = 0 := by simpa using h2
      (refine wGo ?_; ((conv => arg 5; whnf); repeat ((with_reducible first | refine xT ?_ | refine xF ?_ | refine xO ?_ | refine xN ?_ | refine xU ?_ | refine xV ?_); conv => arg 5; whnf)))
      (refine wP _ _ (append_op Tryz.T_ok rfl rfl rfl rfl rfl [10, 31] (old_vec rfl rfl (Nat.le_refl _) rfl) (new_vec (lo := 0) rfl rfl (Nat.le_refl _) rfl) rfl (lt1 rfl) (by simp only [maxLen]; omega) (by dsimp only; omega)) ?_; ((conv => arg 5; whnf); repeat ((with_reducible first | refine xT ?_ | refine xF ?_ | refine xO ?_ | refine xN ?_ | refine xU ?_ | refine xV ?_); conv => arg 5; whnf)))
      refine wD <| blockN <| cutG <| Tri.of Tryz.mixed Tryz.T_ok ?_
      (refine wBegin ?_; ((conv => arg 5; whnf); repeat ((with_reducible first | refine xT ?_ | refine xF ?_ | refine xO ?_ | refine xN ?_ | refine xU ?_ | refine xV ?_); conv => arg 5; whnf)))
      refine wD <| loopN ⟨⟨i + 1, h1', by rw [hF, h2']⟩, by dsimp only; omega, ?_⟩
      rw [hw]
      unfold paySt
      dsimp only
      rw [hA]
      ((try dsimp only); refine Ent.renC [0, 1, 2, 3, 4, 5, 6, 7, 8, 9, 32] hC ?_ ?_ <;> repeat' (first | exact trivial | exact rfl | exact ⟨_, rfl, rfl, rfl, Nat.le_refl _, fun _ _ => rfl⟩ | exact ⟨_, rfl, rfl, rfl, fun _ _ => rfl⟩ | exact ⟨_, rfl, rfl, rfl⟩ | exact ⟨_, rfl, rfl⟩ | refine ⟨_, rfl, rfl, rfl, by omega, fun k hk => ?_⟩ | refine ⟨?_, ?_⟩ | fail))
      exact amts_snoc (inAmts_length _ _ _ _).symm rfl hk
  · (refine wGo ?_; ((conv => arg 5; whnf); repeat ((with_reducible first | refine xT ?_ | refine xF ?_ | refine xO ?_ | refine xN ?_ | refine xU ?_ | refine xV ?_); conv => arg 5; whnf)))
    have h1' : i = t.ins.length := (by (try simp only [ww1, ww2, ww3, ww4, ww5, ww6, ww7] at *); omega)
    subst h1'
    refine wD <| cutE <| loopX <| blockX <| cutG <| Tri.of Tryz.mixed Tryz.T_ok ?_
    have hL := inAmts_length S t h t.ins.length
    (refine wBegin ?_; ((conv => arg 5; whnf); repeat ((with_reducible first | refine xT ?_ | refine xF ?_ | refine xO ?_ | refine xN ?_ | refine xU ?_ | refine xV ?_); conv => arg 5; whnf)))
    (apply wP; exact (call_op rfl (entersB_of Tryz.func38 (by kernel_rfl)) rfl ((msum_can (inAmts S t h t.ins.length) (by omega)).at [10] ⟨by rw [hL]; exact lend_vec0 rfl rfl, trivial⟩ trivial)); ((conv => arg 5; whnf); repeat ((with_reducible first | refine xT ?_ | refine xF ?_ | refine xO ?_ | refine xN ?_ | refine xU ?_ | refine xV ?_); conv => arg 5; whnf)))
    (apply wP; exact (call_op rfl (entersB_of Tryz.func39 (by kernel_rfl)) rfl ((paid_can t hs).at [1, 2, 3, 4, 5, 6] ⟨lend_tx (t := t) (lend_ro0 rfl rfl) (lend_ro0 rfl rfl) (lend_ro0 rfl rfl) (lend_ro0 rfl rfl) (lend_ro0 rfl rfl) (lend_ro0 rfl rfl), trivial⟩ trivial)); ((conv => arg 5; whnf); repeat ((with_reducible first | refine xT ?_ | refine xF ?_ | refine xO ?_ | refine xN ?_ | refine xU ?_ | refine xV ?_); conv => arg 5; whnf)))
    (apply wP; exact (call_op rfl (entersB_of Tryz.func40 (by kernel_rfl)) rfl (sub_spec _ _ _ _)); ((conv => arg 5; whnf); repeat ((with_reducible first | refine xT ?_ | refine xF ?_ | refine xO ?_ | refine xN ?_ | refine xU ?_ | refine xV ?_); conv => arg 5; whnf)))
    have hp : payE S t h = feeE (sumM 0 (inAmts S t h t.ins.length)) (sumM 0 (payAmts t)) := by rw [payE, if_pos he]
    refine wC (fun h2 => ?_) (fun h2 => ?_)
    · (refine wGo ?_; ((conv => arg 5; whnf); repeat ((with_reducible first | refine xT ?_ | refine xF ?_ | refine xO ?_ | refine xN ?_ | refine xU ?_ | refine xV ?_); conv => arg 5; whnf)))
      refine wD (Ends.shutN (.inr rfl) (Ent.refl _) rfl rfl ?_)
      rw [hp, feeE, if_pos (by rw [h2]; rfl)]; rfl
    · (refine wGo ?_; ((conv => arg 5; whnf); repeat ((with_reducible first | refine xT ?_ | refine xF ?_ | refine xO ?_ | refine xN ?_ | refine xU ?_ | refine xV ?_); conv => arg 5; whnf)))
      refine wC (fun h3 => ?_) (fun h3 => ?_)
      · (refine wGo ?_; ((conv => arg 5; whnf); repeat ((with_reducible first | refine xT ?_ | refine xF ?_ | refine xO ?_ | refine xN ?_ | refine xU ?_ | refine xV ?_); conv => arg 5; whnf)))
        refine wD (Ends.shutN (.inr rfl) (Ent.refl _) rfl rfl ?_)
        rw [hp, feeE, if_pos (by rw [h2, h3]; rfl)]; rfl
      · (refine wGo ?_; ((conv => arg 5; whnf); repeat ((with_reducible first | refine xT ?_ | refine xF ?_ | refine xO ?_ | refine xN ?_ | refine xU ?_ | refine xV ?_); conv => arg 5; whnf)))
        refine wC (fun h4 => ?_) (fun h4 => ?_)
        · (refine wGo ?_; ((conv => arg 5; whnf); repeat ((with_reducible first | refine xT ?_ | refine xF ?_ | refine xO ?_ | refine xN ?_ | refine xU ?_ | refine xV ?_); conv => arg 5; whnf)))
          refine wD (Ends.shutN (.inr rfl) (Ent.refl _) rfl rfl ?_)
          rw [hp, feeE, if_pos (by rw [h2, h3, h4]; rfl)]; rfl
        · (refine wGo ?_; ((conv => arg 5; whnf); repeat ((with_reducible first | refine xT ?_ | refine xF ?_ | refine xO ?_ | refine xN ?_ | refine xU ?_ | refine xV ?_); conv => arg 5; whnf)))
          refine wD (Ends.shutN (.inr rfl) (Ent.refl _) rfl rfl ?_)
          have h4' : bothB ((sumM 0 (inAmts S t h t.ins.length)).getD 0) ((sumM 0 (payAmts t)).getD 0) (IntKind.i64.wrap ((sumM 0 (inAmts S t h t.ins.length)).getD 0 - (sumM 0 (payAmts t)).getD 0)) = true := by simpa using h4
          have e : feeE (sumM 0 (inAmts S t h t.ins.length)) (sumM 0 (payAmts t)) = (IntKind.i64.wrap ((sumM 0 (inAmts S t h t.ins.length)).getD 0 - (sumM 0 (payAmts t)).getD 0), 0) := if_neg (by rw [h2, h3, h4']; simp)
          rw [hp, e, if_pos h4']; rfl
end Go.Proofs.YtmoohekgheoliaaGreatDoor
namespace Go.Proofs.YtmoohekgheoliaaGreatDoor
set_option maxRecDepth 100000
open Go.Sx
def ptAt (id : H8) (i : Nat) : Pt := ⟨id, Int64.ofNat i⟩
def outsGo (id : H8) (h : Int64) (base : Bool) : USet → Nat → List OutM → USet × Int
  | S, _, [] => (S, 0)
  | S, i, o :: r => if S.has (ptAt id i) = true then (S, 6) else if S.okB (ptAt id i) ⟨o.to, o.amt, h, base⟩ = true then outsGo id h base (S.add1 (ptAt id i) ⟨o.to, o.amt, h, base⟩) (i + 1) r else (S, 5)
theorem dropD_cons {E : Type} [Inhabited E] {l : List E} {i : Nat} (hi : i < l.length) : l.drop i = l.getD i default :: l.drop (i + 1) := by
  rw [List.drop_eq_getElem_cons hi, List.getD_eq_getElem?_getD, List.getElem?_eq_getElem hi]; rfl
theorem ofNat_toInt {i : Nat} (h : i < 1000000) : ((i : Nat) : Int) = (Int64.ofNat i).toInt := by
  rw [Int64.toInt_ofNat_of_lt (by omega)]
structure OutsI (id : H8) (h : Int64) (base : Bool) (S : USet) (l : List OutM) where
  i : Nat
  W : USet
  le : i ≤ l.length
  go : outsGo id h base S 0 l = outsGo id h base W i (l.drop i)
  steps : W.steps.length = S.steps.length + i
set_option maxHeartbeats 2000000 in
theorem outs_can (S : USet) (id : H8) (l : List OutM) (h : Int64) (base : Bool) (hl : l.length ≤ 1000) (hS : S.steps.length < 900000) :
    Acts Tryz.prog 22 (.abs (usetP S)) (.abs (usetP (outsGo id h base S 0 l).1)) [.plain id.x, .row 9 l.length (outsF l), .plain (.one (.raw (.int .i64 h.toInt))), .plain (.one (.raw (.bool base)))] [] (XV.int .i64 (outsGo id h base S 0 l).2) := by
  refine Acts.of Tryz.T_ok Tryz.func22 rfl _ _ _ _ _ rfl rfl rfl (fun C hC => ?_)
  (replace hC : C.n0 = 5 := hC; change Tri _ _ _ ⟨_, _, 5⟩ _)
  (refine Tri.cut 2 Tryz.mixed Tryz.T_ok ?_; ((conv => arg 5; whnf); repeat ((with_reducible first | refine xT ?_ | refine xF ?_ | refine xO ?_ | refine xN ?_ | refine xU ?_ | refine xV ?_); conv => arg 5; whnf)))
  refine wD <| cutG <| Tri.seq ?_
  (refine Tri.cut 1 Tryz.mixed Tryz.T_ok ?_; ((conv => arg 5; whnf); repeat ((with_reducible first | refine xT ?_ | refine xF ?_ | refine xO ?_ | refine xN ?_ | refine xU ?_ | refine xV ?_); conv => arg 5; whnf)))
  refine wD <| cutG <| Tri.block ?_
  refine Tri.loop (α := OutsI id h base S l) (fun x => ⟨[some (XV.sv (.ptr 0 0 0 0)), none, none, some (XV.int .i64 h.toInt), some (XV.bool base), none, some (XV.sv (.ptr 5 0 0 0))] ++ List.replicate 11 none ++ [some (XV.sv (.slc 2 9 0 l.length)), some (XV.int .i64 l.length), some (XV.int .i64 x.i)] ++ List.replicate 23 none, [(0, .abs (usetP x.W)), (2, .ro 9 l.length (outsF l)), (5, .cells 39 (id.cells.map .raw))], 6⟩) (fun x => l.length - x.i) ⟨0, S, Nat.zero_le _, by rw [List.drop_zero], rfl⟩ ?_ ?_
  · ((try dsimp only); refine Ent.renC [0, 1, 2, 3, 4, 5] hC ?_ ?_ <;> repeat' (first | exact trivial | exact rfl | exact ⟨_, rfl, rfl, rfl, Nat.le_refl _, fun _ _ => rfl⟩ | exact ⟨_, rfl, rfl, rfl, fun _ _ => rfl⟩ | exact ⟨_, rfl, rfl, rfl⟩ | exact ⟨_, rfl, rfl⟩ | refine ⟨_, rfl, rfl, rfl, by omega, fun k hk => ?_⟩ | refine ⟨?_, ?_⟩ | fail))
  rintro ⟨i, W, hi, hg, hst⟩
  dsimp only
  (refine Tri.cut 2 Tryz.mixed Tryz.T_ok ?_; ((conv => arg 5; whnf); repeat ((with_reducible first | refine xT ?_ | refine xF ?_ | refine xO ?_ | refine xN ?_ | refine xU ?_ | refine xV ?_); conv => arg 5; whnf)))
  refine wC (fun h1 => ?_) (fun h1 => ?_)
  · (refine wGo ?_; ((conv => arg 5; whnf); repeat ((with_reducible first | refine xT ?_ | refine xF ?_ | refine xO ?_ | refine xN ?_ | refine xU ?_ | refine xV ?_); conv => arg 5; whnf)))
    have h1' : i < l.length := (by (try simp only [ww1, ww2, ww3, ww4, ww5, ww6, ww7] at *); omega)
    have hw : IntKind.i64.wrap ((i : Int) + 1) = ((i + 1 : Nat) : Int) := (by (try simp only [ww1, ww2, ww3, ww4, ww5, ww6, ww7] at *); omega)
    have e64 := ofNat_toInt (i := i) (by omega)
    rw [dropD_cons h1', outsGo] at hg
    refine wD <| cutG <| Tri.seq <| Tri.block <| Tri.of Tryz.mixed Tryz.T_ok ?_
    (refine wBegin ?_; ((conv => arg 5; whnf); repeat ((with_reducible first | refine xT ?_ | refine xF ?_ | refine xO ?_ | refine xN ?_ | refine xU ?_ | refine xV ?_); conv => arg 5; whnf)))
    (repeat (refine wN ?_ ?_; exact (by (try simp only [ww1, ww2, ww3, ww4, ww5, ww6, ww7] at *); omega); refine wGo ?_; ((conv => arg 5; whnf); repeat ((with_reducible first | refine xT ?_ | refine xF ?_ | refine xO ?_ | refine xN ?_ | refine xU ?_ | refine xV ?_); conv => arg 5; whnf))))
    simp only [Nat.zero_add, Int.toNat_natCast]
    rw [e64]
    (apply wP; exact (call_op rfl (entersB_of Tryz.func16 (by kernel_rfl)) rfl (get_spec W (ptAt id i) rfl rfl)); ((conv => arg 5; whnf); repeat ((with_reducible first | refine xT ?_ | refine xF ?_ | refine xO ?_ | refine xN ?_ | refine xU ?_ | refine xV ?_); conv => arg 5; whnf)))
    refine wC (fun h2 => ?_) (fun h2 => ?_)
    · rw [if_pos h2] at hg
      (refine wGo ?_; ((conv => arg 5; whnf); repeat ((with_reducible first | refine xT ?_ | refine xF ?_ | refine xO ?_ | refine xN ?_ | refine xU ?_ | refine xV ?_); conv => arg 5; whnf)))
      refine wD <| blockR <| cutR <| loopR <| blockR <| cutR ?_
      rw [hg]
      exact Ends.shutN (.inr rfl) (Ent.refl _) rfl rfl rfl
    · rw [if_neg (by rw [h2]; simp)] at hg
      (refine wGo ?_; ((conv => arg 5; whnf); repeat ((with_reducible first | refine xT ?_ | refine xF ?_ | refine xO ?_ | refine xN ?_ | refine xU ?_ | refine xV ?_); conv => arg 5; whnf)))
      (apply wP; exact (call_op rfl (entersB_of Tryz.func29 (by kernel_rfl)) rfl (uadd_spec W (ptAt id i) ⟨(l.getD i default).to, (l.getD i default).amt, h, base⟩ (by omega) rfl rfl)); ((conv => arg 5; whnf); repeat ((with_reducible first | refine xT ?_ | refine xF ?_ | refine xO ?_ | refine xN ?_ | refine xU ?_ | refine xV ?_); conv => arg 5; whnf)))
      refine wC (fun h3 => ?_) (fun h3 => ?_)
      · have h3 : W.okB (ptAt id i) ⟨(l.getD i default).to, (l.getD i default).amt, h, base⟩ = false := by simpa using h3
        rw [if_neg (by rw [h3]; simp)] at hg
        (refine wGo ?_; ((conv => arg 5; whnf); repeat ((with_reducible first | refine xT ?_ | refine xF ?_ | refine xO ?_ | refine xN ?_ | refine xU ?_ | refine xV ?_); conv => arg 5; whnf)))
        refine wD <| blockR <| cutR <| loopR <| blockR <| cutR ?_
        rw [hg, USet.add, if_neg (by rw [h3]; simp)]
        exact Ends.shutN (.inr rfl) (Ent.refl _) rfl rfl rfl
      · have h3 : W.okB (ptAt id i) ⟨(l.getD i default).to, (l.getD i default).amt, h, base⟩ = true := by simpa using h3
        rw [if_pos h3] at hg
        (refine wGo ?_; ((conv => arg 5; whnf); repeat ((with_reducible first | refine xT ?_ | refine xF ?_ | refine xO ?_ | refine xN ?_ | refine xU ?_ | refine xV ?_); conv => arg 5; whnf)))
        refine wD <| blockN <| cutG <| Tri.of Tryz.mixed Tryz.T_ok ?_
        (refine wBegin ?_; ((conv => arg 5; whnf); repeat ((with_reducible first | refine xT ?_ | refine xF ?_ | refine xO ?_ | refine xN ?_ | refine xU ?_ | refine xV ?_); conv => arg 5; whnf)))
        refine wD <| loopN ⟨⟨i + 1, W.add1 (ptAt id i) ⟨(l.getD i default).to, (l.getD i default).amt, h, base⟩, h1', hg, by simp only [USet.add1, List.length_append, List.length_singleton]; omega⟩, by dsimp only; omega, ?_⟩
        rw [← e64, hw, USet.add, if_pos h3]
        ((try dsimp only); refine Ent.renC [0, 1, 2, 3, 4, 5] hC ?_ ?_ <;> repeat' (first | exact trivial | exact rfl | exact ⟨_, rfl, rfl, rfl, Nat.le_refl _, fun _ _ => rfl⟩ | exact ⟨_, rfl, rfl, rfl, fun _ _ => rfl⟩ | exact ⟨_, rfl, rfl, rfl⟩ | exact ⟨_, rfl, rfl⟩ | refine ⟨_, rfl, rfl, rfl, by omega, fun k hk => ?_⟩ | refine ⟨?_, ?_⟩ | fail))
  · (refine wGo ?_; ((conv => arg 5; whnf); repeat ((with_reducible first | refine xT ?_ | refine xF ?_ | refine xO ?_ | refine xN ?_ | refine xU ?_ | refine xV ?_); conv => arg 5; whnf)))
    have h1' : i = l.length := (by (try simp only [ww1, ww2, ww3, ww4, ww5, ww6, ww7] at *); omega)
    subst h1'
    rw [List.drop_length, outsGo] at hg
    refine wD <| cutE <| loopX <| blockX <| cutG <| Tri.of Tryz.mixed Tryz.T_ok ?_
    rw [hg]
    (refine wBegin ?_; ((conv => arg 5; whnf); repeat ((with_reducible first | refine xT ?_ | refine xF ?_ | refine xO ?_ | refine xN ?_ | refine xU ?_ | refine xV ?_); conv => arg 5; whnf)))
    exact wD (Ends.shutN (.inr rfl) (Ent.refl _) rfl rfl rfl)
end Go.Proofs.YtmoohekgheoliaaGreatDoor
namespace Go.Proofs.YtmoohekgheoliaaGreatDoor
set_option maxRecDepth 100000
open Go.Sx
def spendAll (S : USet) (l : List InM) : USet := l.foldl (fun W x => W.spend x.pt) S
theorem spendAll_snoc (S : USet) (l : List InM) (x : InM) : spendAll S (l ++ [x]) = (spendAll S l).spend x.pt := by simp [spendAll]
theorem take_snoc {E : Type} [Inhabited E] {l : List E} {i : Nat} (hi : i < l.length) : l.take (i + 1) = l.take i ++ [l.getD i default] := by
  rw [List.take_add_one]
  congr 1
  rw [List.getElem?_eq_getElem hi, List.getD_eq_getElem?_getD, List.getElem?_eq_getElem hi]; rfl
theorem spend_steps (S : USet) (p : Pt) : (S.spend p).steps.length ≤ S.steps.length + 1 := by
  unfold USet.spend
  split
  · simp [USet.spend1]
  · omega
theorem spendAll_steps : ∀ (S : USet) (l : List InM), (spendAll S l).steps.length ≤ S.steps.length + l.length
  | _, [] => Nat.le_refl _
  | S, x :: l => by
    have h1 := spend_steps S x.pt
    have h2 := spendAll_steps (S.spend x.pt) l
    show (spendAll (S.spend x.pt) l).steps.length ≤ _
    simp only [List.length_cons]
    omega
def payID (t : TxM) : H8 := dig 120 [payEnc t]
def doE (S : USet) (t : TxM) (h : Int64) : USet × (Int × Int) :=
  if (payE S t h.toInt).2 = 0 then
    (if (outsGo (payID t) h false (spendAll S t.ins) 0 t.outs).2 = 0 then ((outsGo (payID t) h false (spendAll S t.ins) 0 t.outs).1, ((payE S t h.toInt).1, 0)) else ((outsGo (payID t) h false (spendAll S t.ins) 0 t.outs).1, (0, (outsGo (payID t) h false (spendAll S t.ins) 0 t.outs).2)))
  else (S, (0, (payE S t h.toInt).2))
set_option maxHeartbeats 4000000 in
theorem do_can (S : USet) (t : TxM) (h : Int64) (hk : t.kind = 2) (hs : Sized t) (hc : t.claim.Wf) (hm : mayPay t hc = true) (hS : S.steps.length < 800000) :
    Acts Tryz.prog 14 (.abs (usetP S)) (.abs (usetP (doE S t h).1)) [.box t.ac, .plain (.one (.raw (.int .i64 h.toInt)))] [stepsP] (intsX (doE S t h).2) := by
  have hpB := (mayPay_iff.1 hm).1
  rw [payB, Bool.and_eq_true, Bool.and_eq_true, insOK, Bool.and_eq_true, within_iff, outsOK, Bool.and_eq_true, decide_eq_true_eq] at hpB
  obtain ⟨⟨_, hins⟩, ⟨_, houts⟩, _⟩ := hpB
  have hpay := pay_can S t h.toInt hk hs hc hm
  obtain ⟨P, hP⟩ : ∃ P, payE S t h.toInt = P := ⟨_, rfl⟩
  rw [hP] at hpay
  refine Acts.of Tryz.T_ok Tryz.func14 rfl _ _ _ _ _ rfl rfl rfl (fun C hC => ?_)
  (replace hC : C.n0 = 9 := hC; change Tri _ _ _ ⟨_, _, 9⟩ _)
  (refine Tri.cut 3 Tryz.mixed Tryz.T_ok ?_; ((conv => arg 5; whnf); repeat ((with_reducible first | refine xT ?_ | refine xF ?_ | refine xO ?_ | refine xN ?_ | refine xU ?_ | refine xV ?_); conv => arg 5; whnf)))
  (apply wP; exact (call_op rfl (entersB_of Tryz.func18 (by kernel_rfl)) rfl (hpay.at [1, 2, 3, 4, 5, 6, 8] rfl rfl rfl ⟨lend_tx (t := t) (lend_ro0 rfl rfl) (lend_ro0 rfl rfl) (lend_ro0 rfl rfl) (lend_ro0 rfl rfl) (lend_ro0 rfl rfl) (lend_ro0 rfl rfl), lend_plain rfl, trivial⟩ ⟨lend_ext (c := 8) rfl rfl, trivial⟩)); ((conv => arg 5; whnf); repeat ((with_reducible first | refine xT ?_ | refine xF ?_ | refine xO ?_ | refine xN ?_ | refine xU ?_ | refine xV ?_); conv => arg 5; whnf)))
  refine wC (fun h1 => ?_) (fun h1 => ?_)
  · have h1' : ¬ P.2 = 0 := by simpa using h1
    (refine wGo ?_; ((conv => arg 5; whnf); repeat ((with_reducible first | refine xT ?_ | refine xF ?_ | refine xO ?_ | refine xN ?_ | refine xU ?_ | refine xV ?_); conv => arg 5; whnf)))
    refine wD <| cutR ?_
    rw [doE, if_neg (by rw [hP]; exact h1'), hP]
    exact Ends.shutN (.inr rfl) (Ent.refl _) rfl rfl rfl
  · have h1' : P.2 = 0 := by simpa using h1
    obtain ⟨O, hO⟩ : ∃ O, outsGo (payID t) h false (spendAll S t.ins) 0 t.outs = O := ⟨_, rfl⟩
    have hst := spendAll_steps S t.ins
    have hout := outs_can (spendAll S t.ins) (payID t) t.outs h false (by omega) (by omega)
    rw [hO] at hout
    rw [doE, if_pos (by rw [hP]; exact h1'), hO, hP]
    (refine wGo ?_; ((conv => arg 5; whnf); repeat ((with_reducible first | refine xT ?_ | refine xF ?_ | refine xO ?_ | refine xN ?_ | refine xU ?_ | refine xV ?_); conv => arg 5; whnf)))
    refine wD <| cutG <| Tri.seq ?_
    (refine Tri.cut 1 Tryz.mixed Tryz.T_ok ?_; ((conv => arg 5; whnf); repeat ((with_reducible first | refine xT ?_ | refine xF ?_ | refine xO ?_ | refine xN ?_ | refine xU ?_ | refine xV ?_); conv => arg 5; whnf)))
    refine wD <| cutG <| Tri.block ?_
    refine Tri.loop (α := { i : Nat // i ≤ t.ins.length }) (fun i => ⟨[some (XV.sv (.ptr 0 0 0 0)), none, some (XV.int .i64 h.toInt), none, some (XV.sv (.ptr 9 0 0 0)), none, none, none, some (XV.int .i64 P.1)] ++ List.replicate 17 none ++ [some (XV.sv (.slc 1 298 0 t.ins.length)), some (XV.int .i64 t.ins.length), some (XV.int .i64 i.1)] ++ List.replicate 23 none, (0, .abs (usetP (spendAll S (t.ins.take i.1)))) :: (txRows t ++ [(8, .ext stepsP), (9, .cells 49 (boxC 1 t.ac))]), 10⟩) (fun i => t.ins.length - i.1) ⟨0, Nat.zero_le _⟩ ?_ ?_
    · ((try dsimp only); refine Ent.renC [0, 1, 2, 3, 4, 5, 6, 7, 8, 9] hC ?_ ?_ <;> repeat' (first | exact trivial | exact rfl | exact ⟨_, rfl, rfl, rfl, Nat.le_refl _, fun _ _ => rfl⟩ | exact ⟨_, rfl, rfl, rfl, fun _ _ => rfl⟩ | exact ⟨_, rfl, rfl, rfl⟩ | exact ⟨_, rfl, rfl⟩ | refine ⟨_, rfl, rfl, rfl, by omega, fun k hk => ?_⟩ | refine ⟨?_, ?_⟩ | fail))
    rintro ⟨i, hi⟩
    dsimp only
    (refine Tri.cut 2 Tryz.mixed Tryz.T_ok ?_; ((conv => arg 5; whnf); repeat ((with_reducible first | refine xT ?_ | refine xF ?_ | refine xO ?_ | refine xN ?_ | refine xU ?_ | refine xV ?_); conv => arg 5; whnf)))
    refine wC (fun h2 => ?_) (fun h2 => ?_)
    · (refine wGo ?_; ((conv => arg 5; whnf); repeat ((with_reducible first | refine xT ?_ | refine xF ?_ | refine xO ?_ | refine xN ?_ | refine xU ?_ | refine xV ?_); conv => arg 5; whnf)))
      have h2' : i < t.ins.length := (by (try simp only [ww1, ww2, ww3, ww4, ww5, ww6, ww7] at *); omega)
      have hw : IntKind.i64.wrap ((i : Int) + 1) = ((i + 1 : Nat) : Int) := (by (try simp only [ww1, ww2, ww3, ww4, ww5, ww6, ww7] at *); omega)
      have hst2 := spendAll_steps S (t.ins.take i)
      rw [List.length_take] at hst2
      refine wD <| cutG <| Tri.seq <| Tri.block <| Tri.of Tryz.mixed Tryz.T_ok ?_
      (refine wBegin ?_; ((conv => arg 5; whnf); repeat ((with_reducible first | refine xT ?_ | refine xF ?_ | refine xO ?_ | refine xN ?_ | refine xU ?_ | refine xV ?_); conv => arg 5; whnf)))
      (repeat (refine wN ?_ ?_; exact (by (try simp only [ww1, ww2, ww3, ww4, ww5, ww6, ww7] at *); omega); refine wGo ?_; ((conv => arg 5; whnf); repeat ((with_reducible first | refine xT ?_ | refine xF ?_ | refine xO ?_ | refine xN ?_ | refine xU ?_ | refine xV ?_); conv => arg 5; whnf))))
      simp only [Nat.zero_add, Int.toNat_natCast]
      (apply wP; exact (call_op rfl (entersB_of Tryz.func32 (by kernel_rfl)) rfl (spend_spec (spendAll S (t.ins.take i)) (t.ins.getD i default).pt (by omega) rfl rfl)); ((conv => arg 5; whnf); repeat ((with_reducible first | refine xT ?_ | refine xF ?_ | refine xO ?_ | refine xN ?_ | refine xU ?_ | refine xV ?_); conv => arg 5; whnf)))
      refine wD <| blockN <| cutG <| Tri.of Tryz.mixed Tryz.T_ok ?_
      (refine wBegin ?_; ((conv => arg 5; whnf); repeat ((with_reducible first | refine xT ?_ | refine xF ?_ | refine xO ?_ | refine xN ?_ | refine xU ?_ | refine xV ?_); conv => arg 5; whnf)))
      refine wD <| loopN ⟨⟨i + 1, h2'⟩, by dsimp only; omega, ?_⟩
      rw [hw]
      dsimp only
      rw [take_snoc h2', spendAll_snoc]
      ((try dsimp only); refine Ent.renC [0, 1, 2, 3, 4, 5, 6, 7, 8, 9] hC ?_ ?_ <;> repeat' (first | exact trivial | exact rfl | exact ⟨_, rfl, rfl, rfl, Nat.le_refl _, fun _ _ => rfl⟩ | exact ⟨_, rfl, rfl, rfl, fun _ _ => rfl⟩ | exact ⟨_, rfl, rfl, rfl⟩ | exact ⟨_, rfl, rfl⟩ | refine ⟨_, rfl, rfl, rfl, by omega, fun k hk => ?_⟩ | refine ⟨?_, ?_⟩ | fail))
    · (refine wGo ?_; ((conv => arg 5; whnf); repeat ((with_reducible first | refine xT ?_ | refine xF ?_ | refine xO ?_ | refine xN ?_ | refine xU ?_ | refine xV ?_); conv => arg 5; whnf)))
      have h2' : i = t.ins.length := (by (try simp only [ww1, ww2, ww3, ww4, ww5, ww6, ww7] at *); omega)
      subst h2'
      rw [List.take_length]
      refine wD <| cutE <| loopX <| blockX <| cutG <| Tri.of Tryz.mixed Tryz.T_ok ?_
      (refine wBegin ?_; ((conv => arg 5; whnf); repeat ((with_reducible first | refine xT ?_ | refine xF ?_ | refine xO ?_ | refine xN ?_ | refine xU ?_ | refine xV ?_); conv => arg 5; whnf)))
      (apply wP; exact (call_op rfl (entersB_of Tryz.func33 (by kernel_rfl)) rfl ((id_pay t hk hs hc hm).at [1, 2, 3, 4, 5, 6, 8] ⟨lend_tx (t := t) (lend_ro0 rfl rfl) (lend_ro0 rfl rfl) (lend_ro0 rfl rfl) (lend_ro0 rfl rfl) (lend_ro0 rfl rfl) (lend_ro0 rfl rfl), trivial⟩ ⟨lend_ext (c := 8) rfl rfl, trivial⟩)); ((conv => arg 5; whnf); repeat ((with_reducible first | refine xT ?_ | refine xF ?_ | refine xO ?_ | refine xN ?_ | refine xU ?_ | refine xV ?_); conv => arg 5; whnf)))
      (apply wP; exact (call_op rfl (entersB_of Tryz.func22 (by kernel_rfl)) rfl (hout.at [2] rfl rfl rfl ⟨lend_plain rfl, lend_ro0 rfl rfl, lend_plain rfl, lend_plain rfl, trivial⟩ trivial)); ((conv => arg 5; whnf); repeat ((with_reducible first | refine xT ?_ | refine xF ?_ | refine xO ?_ | refine xN ?_ | refine xU ?_ | refine xV ?_); conv => arg 5; whnf)))
      refine wC (fun h3 => ?_) (fun h3 => ?_)
      · have h3' : ¬ O.2 = 0 := by simpa using h3
        (refine wGo ?_; ((conv => arg 5; whnf); repeat ((with_reducible first | refine xT ?_ | refine xF ?_ | refine xO ?_ | refine xN ?_ | refine xU ?_ | refine xV ?_); conv => arg 5; whnf)))
        rw [if_neg h3']
        exact wD (Ends.shutN (.inr rfl) (Ent.refl _) rfl rfl rfl)
      · have h3' : O.2 = 0 := by simpa using h3
        (refine wGo ?_; ((conv => arg 5; whnf); repeat ((with_reducible first | refine xT ?_ | refine xF ?_ | refine xO ?_ | refine xN ?_ | refine xU ?_ | refine xV ?_); conv => arg 5; whnf)))
        rw [if_pos h3']
        exact wD (Ends.shutN (.inr rfl) (Ent.refl _) rfl rfl rfl)
end Go.Proofs.YtmoohekgheoliaaGreatDoor
namespace Go.Proofs.YtmoohekgheoliaaGreatDoor
set_option maxRecDepth 100000
open Go.Sx
def FwdM.x (f : FwdM) : CV := .agg (f.cells.map .raw)
theorem dec_lt {a b c : Int} (h : b = c + 1) : decide (a < b) = decide (a ≤ c) := by rw [Bool.eq_iff_iff, decide_eq_true_eq, decide_eq_true_eq]; omega
theorem dec_gt {a b : Int} : decide (b < a) = !decide (a ≤ b) := by rw [Bool.eq_iff_iff]; simp
theorem dec_ge {a b c : Int} (h : b = c) : decide (a < b) = !decide (c ≤ a) := by subst h; rw [Bool.eq_iff_iff]; simp
theorem fwdOK_ref (f : FwdM) : fwdOK f = (((((decide (0 ≤ f.side.toInt) && decide (f.side.toInt < 8)) && decide (0 ≤ f.acct.toInt)) && decide (f.acct.toInt < 65536)) && !zeroB f.owner) && (decide (1 ≤ f.amt.toInt) && decide (f.amt.toInt ≤ 1125899906842624))) := by
  rw [fwdOK, acctB, moneyB, withinB, withinB, withinB, dec_lt (a := f.side.toInt) (b := 8) (c := 7) rfl, dec_lt (a := f.acct.toInt) (b := 65536) (c := 65535) rfl]
  simp only [Bool.and_assoc]
theorem rfwd_can (f : FwdM) : Reads Tryz.prog 111 [.plain f.x] [] (XV.bool (fwdOK f)) := by
  refine Reads.of Tryz.T_ok Tryz.func111 rfl _ _ _ rfl rfl (fun C hC => ?_)
  (replace hC : C.n0 = 1 := hC; change Tri _ _ _ ⟨_, _, 1⟩ _)
  refine Tri.of Tryz.mixed Tryz.T_ok ?_
  (refine wBegin ?_; ((conv => arg 5; whnf); repeat ((with_reducible first | refine xT ?_ | refine xF ?_ | refine xO ?_ | refine xN ?_ | refine xU ?_ | refine xV ?_); conv => arg 5; whnf)))
  refine wC (fun h1 => ?_) (fun h1 => ?_)
  · (refine wGo ?_; ((conv => arg 5; whnf); repeat ((with_reducible first | refine xT ?_ | refine xF ?_ | refine xO ?_ | refine xN ?_ | refine xU ?_ | refine xV ?_); conv => arg 5; whnf)))
    refine wC (fun h2 => ?_) (fun h2 => ?_)
    · (refine wGo ?_; ((conv => arg 5; whnf); repeat ((with_reducible first | refine xT ?_ | refine xF ?_ | refine xO ?_ | refine xN ?_ | refine xU ?_ | refine xV ?_); conv => arg 5; whnf)))
      refine wC (fun h3 => ?_) (fun h3 => ?_)
      · (refine wGo ?_; ((conv => arg 5; whnf); repeat ((with_reducible first | refine xT ?_ | refine xF ?_ | refine xO ?_ | refine xN ?_ | refine xU ?_ | refine xV ?_); conv => arg 5; whnf)))
        refine wC (fun h4 => ?_) (fun h4 => ?_)
        · (refine wGo ?_; ((conv => arg 5; whnf); repeat ((with_reducible first | refine xT ?_ | refine xF ?_ | refine xO ?_ | refine xN ?_ | refine xU ?_ | refine xV ?_); conv => arg 5; whnf)))
          (apply wP; exact (call_op rfl (entersB_of Tryz.func110 (by kernel_rfl)) rfl ((rzero_can f.owner).at [] ⟨lend_plain rfl, trivial⟩ trivial)); ((conv => arg 5; whnf); repeat ((with_reducible first | refine xT ?_ | refine xF ?_ | refine xO ?_ | refine xN ?_ | refine xU ?_ | refine xV ?_); conv => arg 5; whnf)))
          refine wC (fun h5 => ?_) (fun h5 => ?_)
          · (refine wGo ?_; ((conv => arg 5; whnf); repeat ((with_reducible first | refine xT ?_ | refine xF ?_ | refine xO ?_ | refine xN ?_ | refine xU ?_ | refine xV ?_); conv => arg 5; whnf)))
            refine wC (fun h6 => ?_) (fun h6 => ?_)
            · (refine wGo ?_; ((conv => arg 5; whnf); repeat ((with_reducible first | refine xT ?_ | refine xF ?_ | refine xO ?_ | refine xN ?_ | refine xU ?_ | refine xV ?_); conv => arg 5; whnf)))
              exact wD (Ends.plain (.inr rfl) rfl (by rw [fwdOK_ref, h1, h2, h3, h4, h5, h6]; rfl))
            · (refine wGo ?_; ((conv => arg 5; whnf); repeat ((with_reducible first | refine xT ?_ | refine xF ?_ | refine xO ?_ | refine xN ?_ | refine xU ?_ | refine xV ?_); conv => arg 5; whnf)))
              exact wD (Ends.plain (.inr rfl) rfl (by rw [fwdOK_ref, h1, h2, h3, h4, h5, h6]; rfl))
          · (refine wGo ?_; ((conv => arg 5; whnf); repeat ((with_reducible first | refine xT ?_ | refine xF ?_ | refine xO ?_ | refine xN ?_ | refine xU ?_ | refine xV ?_); conv => arg 5; whnf)))
            exact wD (Ends.plain (.inr rfl) rfl (by rw [fwdOK_ref, h1, h2, h3, h4, h5]; rfl))
        · (refine wGo ?_; ((conv => arg 5; whnf); repeat ((with_reducible first | refine xT ?_ | refine xF ?_ | refine xO ?_ | refine xN ?_ | refine xU ?_ | refine xV ?_); conv => arg 5; whnf)))
          exact wD (Ends.plain (.inr rfl) rfl (by rw [fwdOK_ref, h1, h2, h3, h4]; rfl))
      · (refine wGo ?_; ((conv => arg 5; whnf); repeat ((with_reducible first | refine xT ?_ | refine xF ?_ | refine xO ?_ | refine xN ?_ | refine xU ?_ | refine xV ?_); conv => arg 5; whnf)))
        exact wD (Ends.plain (.inr rfl) rfl (by rw [fwdOK_ref, h1, h2, h3]; rfl))
    · (refine wGo ?_; ((conv => arg 5; whnf); repeat ((with_reducible first | refine xT ?_ | refine xF ?_ | refine xO ?_ | refine xN ?_ | refine xU ?_ | refine xV ?_); conv => arg 5; whnf)))
      exact wD (Ends.plain (.inr rfl) rfl (by rw [fwdOK_ref, h1, h2]; rfl))
  · (refine wGo ?_; ((conv => arg 5; whnf); repeat ((with_reducible first | refine xT ?_ | refine xF ?_ | refine xO ?_ | refine xN ?_ | refine xU ?_ | refine xV ?_); conv => arg 5; whnf)))
    exact wD (Ends.plain (.inr rfl) rfl (by rw [fwdOK_ref, h1]; rfl))
theorem outOK_ref (o : OutM) : outOK o = !(zeroB o.to || (decide (o.amt.toInt < 1) || decide (1125899906842624 < o.amt.toInt))) := by
  rw [outOK, moneyB, withinB, dec_ge (a := o.amt.toInt) (b := 1) rfl, dec_gt]
  cases zeroB o.to <;> cases decide (1 ≤ o.amt.toInt) <;> cases decide (o.amt.toInt ≤ 1125899906842624) <;> rfl
theorem routs_can (l : List OutM) (hl : l.length ≤ 1000000000) : Reads Tryz.prog 78 [.row 9 l.length (outsF l)] [] (XV.bool (outsOK l)) := by
  refine Reads.of Tryz.T_ok Tryz.func78 rfl _ _ _ rfl rfl (fun C hC => ?_)
  (replace hC : C.n0 = 1 := hC; change Tri _ _ _ ⟨_, _, 1⟩ _)
  (refine Tri.cut 2 Tryz.mixed Tryz.T_ok ?_; ((conv => arg 5; whnf); repeat ((with_reducible first | refine xT ?_ | refine xF ?_ | refine xO ?_ | refine xN ?_ | refine xU ?_ | refine xV ?_); conv => arg 5; whnf)))
  refine wC (fun h0 => ?_) (fun h0 => ?_)
  · have h0' : 16 < l.length := (by (try simp only [ww1, ww2, ww3, ww4, ww5, ww6, ww7] at *); omega)
    (refine wGo ?_; ((conv => arg 5; whnf); repeat ((with_reducible first | refine xT ?_ | refine xF ?_ | refine xO ?_ | refine xN ?_ | refine xU ?_ | refine xV ?_); conv => arg 5; whnf)))
    refine wD <| cutR <| Ends.plain (.inr rfl) rfl ?_
    rw [outsOK, show decide (l.length ≤ 16) = false by rw [decide_eq_false_iff_not]; omega, Bool.and_false]
  have h0' : l.length ≤ 16 := (by (try simp only [ww1, ww2, ww3, ww4, ww5, ww6, ww7] at *); omega)
  (refine wGo ?_; ((conv => arg 5; whnf); repeat ((with_reducible first | refine xT ?_ | refine xF ?_ | refine xO ?_ | refine xN ?_ | refine xU ?_ | refine xV ?_); conv => arg 5; whnf)))
  refine wD <| cutG <| Tri.seq ?_
  (refine Tri.cut 1 Tryz.mixed Tryz.T_ok ?_; ((conv => arg 5; whnf); repeat ((with_reducible first | refine xT ?_ | refine xF ?_ | refine xO ?_ | refine xN ?_ | refine xU ?_ | refine xV ?_); conv => arg 5; whnf)))
  refine wD <| cutG <| Tri.block ?_
  refine Tri.loop (α := { i : Nat // i ≤ l.length ∧ (l.take i).all outOK = true }) (fun i => ⟨[some (XV.sv (.slc 0 9 0 l.length)), none, none, some (XV.int .i64 i.1)] ++ List.replicate 31 none, [(0, .ro 9 l.length (outsF l))], 1⟩) (fun i => l.length - i.1) ⟨0, Nat.zero_le _, rfl⟩ ?_ ?_
  · ((try dsimp only); refine Ent.renC [0] hC ?_ ?_ <;> repeat' (first | exact trivial | exact rfl | exact ⟨_, rfl, rfl, rfl, Nat.le_refl _, fun _ _ => rfl⟩ | exact ⟨_, rfl, rfl, rfl, fun _ _ => rfl⟩ | exact ⟨_, rfl, rfl, rfl⟩ | exact ⟨_, rfl, rfl⟩ | refine ⟨_, rfl, rfl, rfl, by omega, fun k hk => ?_⟩ | refine ⟨?_, ?_⟩ | fail))
  rintro ⟨i, hi, ha⟩
  dsimp only
  (refine Tri.cut 1 Tryz.mixed Tryz.T_ok ?_; ((conv => arg 5; whnf); repeat ((with_reducible first | refine xT ?_ | refine xF ?_ | refine xO ?_ | refine xN ?_ | refine xU ?_ | refine xV ?_); conv => arg 5; whnf)))
  refine wC (fun h1 => ?_) (fun h1 => ?_)
  · (refine wGo ?_; ((conv => arg 5; whnf); repeat ((with_reducible first | refine xT ?_ | refine xF ?_ | refine xO ?_ | refine xN ?_ | refine xU ?_ | refine xV ?_); conv => arg 5; whnf)))
    have h1' : i < l.length := (by (try simp only [ww1, ww2, ww3, ww4, ww5, ww6, ww7] at *); omega)
    have hs := all_take_succ (p := outOK) h1'
    have hw : IntKind.i64.wrap ((i : Int) + 1) = ((i + 1 : Nat) : Int) := (by (try simp only [ww1, ww2, ww3, ww4, ww5, ww6, ww7] at *); omega)
    refine wD <| cutG <| Tri.seq <| Tri.block <| Tri.of Tryz.mixed Tryz.T_ok ?_
    (refine wBegin ?_; ((conv => arg 5; whnf); repeat ((with_reducible first | refine xT ?_ | refine xF ?_ | refine xO ?_ | refine xN ?_ | refine xU ?_ | refine xV ?_); conv => arg 5; whnf)))
    (repeat (refine wN ?_ ?_; exact (by (try simp only [ww1, ww2, ww3, ww4, ww5, ww6, ww7] at *); omega); refine wGo ?_; ((conv => arg 5; whnf); repeat ((with_reducible first | refine xT ?_ | refine xF ?_ | refine xO ?_ | refine xN ?_ | refine xU ?_ | refine xV ?_); conv => arg 5; whnf))))
    simp only [Nat.zero_add, Int.toNat_natCast]
    (apply wP; exact (call_op rfl (entersB_of Tryz.func110 (by kernel_rfl)) rfl ((rzero_can (l.getD i default).to).at [] ⟨lend_plain rfl, trivial⟩ trivial)); ((conv => arg 5; whnf); repeat ((with_reducible first | refine xT ?_ | refine xF ?_ | refine xO ?_ | refine xN ?_ | refine xU ?_ | refine xV ?_); conv => arg 5; whnf)))
    refine wC (fun h2 => ?_) (fun h2 => ?_)
    · (refine wGo ?_; ((conv => arg 5; whnf); repeat ((with_reducible first | refine xT ?_ | refine xF ?_ | refine xO ?_ | refine xN ?_ | refine xU ?_ | refine xV ?_); conv => arg 5; whnf)))
      refine wD <| blockR <| cutR <| loopR <| blockR <| cutR <| Ends.plain (.inr rfl) rfl ?_
      rw [outsOK, all_false h1' (by rw [outOK_ref, h2]; rfl), Bool.false_and]
    · (refine wGo ?_; ((conv => arg 5; whnf); repeat ((with_reducible first | refine xT ?_ | refine xF ?_ | refine xO ?_ | refine xN ?_ | refine xU ?_ | refine xV ?_); conv => arg 5; whnf)))
      (repeat (refine wN ?_ ?_; exact (by (try simp only [ww1, ww2, ww3, ww4, ww5, ww6, ww7] at *); omega); refine wGo ?_; ((conv => arg 5; whnf); repeat ((with_reducible first | refine xT ?_ | refine xF ?_ | refine xO ?_ | refine xN ?_ | refine xU ?_ | refine xV ?_); conv => arg 5; whnf))))
      simp only [Nat.zero_add, Int.toNat_natCast]
      refine wC (fun h3 => ?_) (fun h3 => ?_)
      · (refine wGo ?_; ((conv => arg 5; whnf); repeat ((with_reducible first | refine xT ?_ | refine xF ?_ | refine xO ?_ | refine xN ?_ | refine xU ?_ | refine xV ?_); conv => arg 5; whnf)))
        refine wD <| blockR <| cutR <| loopR <| blockR <| cutR <| Ends.plain (.inr rfl) rfl ?_
        rw [outsOK, all_false h1' (by rw [outOK_ref, h2, h3]; rfl), Bool.false_and]
      · (refine wGo ?_; ((conv => arg 5; whnf); repeat ((with_reducible first | refine xT ?_ | refine xF ?_ | refine xO ?_ | refine xN ?_ | refine xU ?_ | refine xV ?_); conv => arg 5; whnf)))
        (repeat (refine wN ?_ ?_; exact (by (try simp only [ww1, ww2, ww3, ww4, ww5, ww6, ww7] at *); omega); refine wGo ?_; ((conv => arg 5; whnf); repeat ((with_reducible first | refine xT ?_ | refine xF ?_ | refine xO ?_ | refine xN ?_ | refine xU ?_ | refine xV ?_); conv => arg 5; whnf))))
        simp only [Nat.zero_add, Int.toNat_natCast]
        refine wC (fun h4 => ?_) (fun h4 => ?_)
        · (refine wGo ?_; ((conv => arg 5; whnf); repeat ((with_reducible first | refine xT ?_ | refine xF ?_ | refine xO ?_ | refine xN ?_ | refine xU ?_ | refine xV ?_); conv => arg 5; whnf)))
          refine wD <| blockR <| cutR <| loopR <| blockR <| cutR <| Ends.plain (.inr rfl) rfl ?_
          rw [outsOK, all_false h1' (by rw [outOK_ref, h2, h3, h4]; rfl), Bool.false_and]
        · (refine wGo ?_; ((conv => arg 5; whnf); repeat ((with_reducible first | refine xT ?_ | refine xF ?_ | refine xO ?_ | refine xN ?_ | refine xU ?_ | refine xV ?_); conv => arg 5; whnf)))
          refine wD <| blockN <| cutG <| Tri.of Tryz.mixed Tryz.T_ok ?_
          (refine wBegin ?_; ((conv => arg 5; whnf); repeat ((with_reducible first | refine xT ?_ | refine xF ?_ | refine xO ?_ | refine xN ?_ | refine xU ?_ | refine xV ?_); conv => arg 5; whnf)))
          refine wD <| loopN ⟨⟨i + 1, h1', by rw [hs, ha, outOK_ref, h2, h3, h4]; rfl⟩, by dsimp only; omega, ?_⟩
          rw [hw]
          ((try dsimp only); refine Ent.renC [0] hC ?_ ?_ <;> repeat' (first | exact trivial | exact rfl | exact ⟨_, rfl, rfl, rfl, Nat.le_refl _, fun _ _ => rfl⟩ | exact ⟨_, rfl, rfl, rfl, fun _ _ => rfl⟩ | exact ⟨_, rfl, rfl, rfl⟩ | exact ⟨_, rfl, rfl⟩ | refine ⟨_, rfl, rfl, rfl, by omega, fun k hk => ?_⟩ | refine ⟨?_, ?_⟩ | fail))
  · (refine wGo ?_; ((conv => arg 5; whnf); repeat ((with_reducible first | refine xT ?_ | refine xF ?_ | refine xO ?_ | refine xN ?_ | refine xU ?_ | refine xV ?_); conv => arg 5; whnf)))
    have h1' : i = l.length := (by (try simp only [ww1, ww2, ww3, ww4, ww5, ww6, ww7] at *); omega)
    subst h1'
    rw [List.take_length] at ha
    refine wD <| cutE <| loopX <| blockX <| cutG <| Tri.of Tryz.mixed Tryz.T_ok ?_
    (refine wBegin ?_; ((conv => arg 5; whnf); repeat ((with_reducible first | refine xT ?_ | refine xF ?_ | refine xO ?_ | refine xN ?_ | refine xU ?_ | refine xV ?_); conv => arg 5; whnf)))
    refine wD (Ends.plain (.inr rfl) rfl ?_)
    rw [outsOK, ha, show decide (l.length ≤ 16) = true from decide_eq_true h0']; rfl
end Go.Proofs.YtmoohekgheoliaaGreatDoor

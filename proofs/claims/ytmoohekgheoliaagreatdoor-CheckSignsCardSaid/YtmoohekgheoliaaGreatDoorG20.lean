/- Parts Tl Tm Ur Ui Uj Uk Um Pa. -/
import Derived.Test.YtmoohekgheoliaaGreatDoorG19
import Derived.Test.YtmoohekgheoliaaGreatDoorG14
import Derived.Test.YtmoohekgheoliaaGreatDoorG06
set_option linter.unusedSimpArgs false
set_option linter.unusedVariables false
namespace Go.Proofs.YtmoohekgheoliaaGreatDoor
set_option maxRecDepth 100000
open Go.Sx
def waitB (c h : Int) : Bool := decide (h < c) || decide (IntKind.u64.wrap (IntKind.u64.wrap h - IntKind.u64.wrap c) < 2)
def badIn (S : USet) (x : InM) : Bool := !S.has x.pt || !decide ((S.get x.pt).to = x.key)
def inE (S : USet) (t : TxM) (i : Nat) (h : Int) (x : InM) : Coin × Int :=
  if badIn S x = true then (coin0, 6) else if ((S.get x.pt).base && waitB (S.get x.pt).height.toInt h) = true then (coin0, 20) else if chkT x.key (msgH t i) x.sig = false then (coin0, 7) else (S.get x.pt, 0)
def pairX (r : Coin × Int) : XV := .tup [r.1.cv, .one (.raw (.int .i64 r.2))]
set_option maxHeartbeats 4000000 in
theorem in_can (S : USet) (t : TxM) (i : Nat) (h : Int) (hk : t.kind = 2) (hs : Sized t) (hc : t.claim.Wf) (hm : mayPay t hc = true) (hi : i < t.ins.length) :
    Acts Tryz.prog 37 (.abs (usetP S)) (.abs (usetP S)) [.box t.ac, .plain (.one (.raw (.int .i64 i))), .plain (.one (.raw (.int .i64 h)))] [stepsP] (pairX (inE S t i h (t.ins.getD i default))) := by
  have hins : t.ins.length ≤ 8 := by
    have := (mayPay_iff.1 hm).1
    rw [payB, Bool.and_eq_true, insOK, Bool.and_eq_true, within_iff] at this
    omega
  refine Acts.of Tryz.T_ok Tryz.func37 rfl _ _ _ _ _ rfl rfl rfl (fun C hC => ?_)
  (replace hC : C.n0 = 10 := hC; change Tri _ _ _ ⟨_, _, 10⟩ _)
  refine Tri.of Tryz.mixed Tryz.T_ok ?_
  (refine wBegin ?_; ((conv => arg 5; whnf); repeat (refine xS ?_; conv => arg 5; whnf)))
  (repeat (refine wN ?_ ?_; exact (by (try simp only [ww] at *); omega); refine wGo ?_; ((conv => arg 5; whnf); repeat (refine xS ?_; conv => arg 5; whnf))))
  simp only [Nat.zero_add, Int.toNat_natCast]
  (apply wP; exact (call_op rfl (entersB_of Tryz.func16 (by kernel_rfl)) rfl (get_spec S (t.ins.getD i default).pt rfl rfl)); ((conv => arg 5; whnf); repeat (refine xS ?_; conv => arg 5; whnf)))
  have bad : badIn S (t.ins.getD i default) = true → inE S t i h (t.ins.getD i default) = (coin0, 6) := fun e => by rw [inE, if_pos e]
  have good : badIn S (t.ins.getD i default) = false → inE S t i h (t.ins.getD i default) = if ((S.get (t.ins.getD i default).pt).base && waitB (S.get (t.ins.getD i default).pt).height.toInt h) = true then (coin0, 20) else if chkT (t.ins.getD i default).key (msgH t i) (t.ins.getD i default).sig = false then (coin0, 7) else (S.get (t.ins.getD i default).pt, 0) := fun e => by rw [inE, if_neg (by rw [e]; simp)]
  refine wC (fun h1 => ?_) (fun h1 => ?_)
  · have h1 : S.has (t.ins.getD i default).pt = false := by simpa using h1
    (refine wGo ?_; ((conv => arg 5; whnf); repeat (refine xS ?_; conv => arg 5; whnf)))
    refine wD (Ends.shutN (.inr rfl) (Ent.refl _) rfl rfl ?_)
    rw [bad (by rw [badIn, h1]; rfl)]; rfl
  · have h1 : S.has (t.ins.getD i default).pt = true := by simpa using h1
    (refine wGo ?_; ((conv => arg 5; whnf); repeat (refine xS ?_; conv => arg 5; whnf)))
    (refine wP _ _ (neq_op hashE rfl (S.get (t.ins.getD i default).pt).to (t.ins.getD i default).key rfl rfl) ?_; ((conv => arg 5; whnf); repeat (refine xS ?_; conv => arg 5; whnf)))
    refine wC (fun h2 => ?_) (fun h2 => ?_)
    · (refine wGo ?_; ((conv => arg 5; whnf); repeat (refine xS ?_; conv => arg 5; whnf)))
      refine wD (Ends.shutN (.inr rfl) (Ent.refl _) rfl rfl ?_)
      rw [bad (by rw [badIn, h1, h2]; rfl)]; rfl
    · (refine wGo ?_; ((conv => arg 5; whnf); repeat (refine xS ?_; conv => arg 5; whnf)))
      replace good := good (by rw [badIn, h1, h2]; rfl)
      have hmsg := message_can t i hk hs hc hm hi
      refine wC (fun h3 => ?_) (fun h3 => ?_)
      · (refine wGo ?_; ((conv => arg 5; whnf); repeat (refine xS ?_; conv => arg 5; whnf)))
        refine wC (fun h4 => ?_) (fun h4 => ?_)
        · (refine wGo ?_; ((conv => arg 5; whnf); repeat (refine xS ?_; conv => arg 5; whnf)))
          refine wD (Ends.shutN (.inr rfl) (Ent.refl _) rfl rfl ?_)
          rw [good, if_pos (by rw [waitB, h3, h4]; rfl)]; rfl
        · (refine wGo ?_; ((conv => arg 5; whnf); repeat (refine xS ?_; conv => arg 5; whnf)))
          refine wC (fun h6 => ?_) (fun h6 => ?_)
          · (refine wGo ?_; ((conv => arg 5; whnf); repeat (refine xS ?_; conv => arg 5; whnf)))
            refine wD (Ends.shutN (.inr rfl) (Ent.refl _) rfl rfl ?_)
            rw [good, if_pos (by rw [waitB, h3, h4, h6]; rfl)]; rfl
          · (refine wGo ?_; ((conv => arg 5; whnf); repeat (refine xS ?_; conv => arg 5; whnf)))
            rw [if_neg (by rw [waitB, h3, h4, h6]; simp)] at good
            (apply wP; exact (call_op rfl (entersB_of Tryz.func73 (by kernel_rfl)) rfl (hmsg.at [1, 2, 3, 4, 5, 6, 9] ⟨lend_tx (t := t) (lend_ro0 rfl rfl) (lend_ro0 rfl rfl) (lend_ro0 rfl rfl) (lend_ro0 rfl rfl) (lend_ro0 rfl rfl) (lend_ro0 rfl rfl), lend_plain rfl, trivial⟩ ⟨lend_ext (c := 9) rfl rfl, trivial⟩)); ((conv => arg 5; whnf); repeat (refine xS ?_; conv => arg 5; whnf)))
            (apply wP; exact (call_op rfl (entersB_of Tryz.func74 (by kernel_rfl)) rfl ((kcheck_can (t.ins.getD i default).key (msgH t i) (t.ins.getD i default).sig).at [9] ⟨lend_plain rfl, lend_plain rfl, lend_plain rfl, trivial⟩ ⟨lend_ext (c := 9) rfl rfl, trivial⟩)); ((conv => arg 5; whnf); repeat (refine xS ?_; conv => arg 5; whnf)))
            refine wC (fun h5 => ?_) (fun h5 => ?_)
            · have h5 : chkT (t.ins.getD i default).key (msgH t i) (t.ins.getD i default).sig = false := by simpa using h5
              (refine wGo ?_; ((conv => arg 5; whnf); repeat (refine xS ?_; conv => arg 5; whnf)))
              refine wD (Ends.shutN (.inr rfl) (Ent.refl _) rfl rfl ?_)
              rw [good, if_pos h5]; rfl
            · have h5 : chkT (t.ins.getD i default).key (msgH t i) (t.ins.getD i default).sig = true := by simpa using h5
              (refine wGo ?_; ((conv => arg 5; whnf); repeat (refine xS ?_; conv => arg 5; whnf)))
              refine wD (Ends.shutN (.inr rfl) (Ent.refl _) rfl rfl ?_)
              rw [good, if_neg (by rw [h5]; simp)]; rfl
      · (refine wGo ?_; ((conv => arg 5; whnf); repeat (refine xS ?_; conv => arg 5; whnf)))
        rw [if_neg (by rw [h3]; simp)] at good
        (apply wP; exact (call_op rfl (entersB_of Tryz.func73 (by kernel_rfl)) rfl (hmsg.at [1, 2, 3, 4, 5, 6, 9] ⟨lend_tx (t := t) (lend_ro0 rfl rfl) (lend_ro0 rfl rfl) (lend_ro0 rfl rfl) (lend_ro0 rfl rfl) (lend_ro0 rfl rfl) (lend_ro0 rfl rfl), lend_plain rfl, trivial⟩ ⟨lend_ext (c := 9) rfl rfl, trivial⟩)); ((conv => arg 5; whnf); repeat (refine xS ?_; conv => arg 5; whnf)))
        (apply wP; exact (call_op rfl (entersB_of Tryz.func74 (by kernel_rfl)) rfl ((kcheck_can (t.ins.getD i default).key (msgH t i) (t.ins.getD i default).sig).at [9] ⟨lend_plain rfl, lend_plain rfl, lend_plain rfl, trivial⟩ ⟨lend_ext (c := 9) rfl rfl, trivial⟩)); ((conv => arg 5; whnf); repeat (refine xS ?_; conv => arg 5; whnf)))
        refine wC (fun h5 => ?_) (fun h5 => ?_)
        · have h5 : chkT (t.ins.getD i default).key (msgH t i) (t.ins.getD i default).sig = false := by simpa using h5
          (refine wGo ?_; ((conv => arg 5; whnf); repeat (refine xS ?_; conv => arg 5; whnf)))
          refine wD (Ends.shutN (.inr rfl) (Ent.refl _) rfl rfl ?_)
          rw [good, if_pos h5]; rfl
        · have h5 : chkT (t.ins.getD i default).key (msgH t i) (t.ins.getD i default).sig = true := by simpa using h5
          (refine wGo ?_; ((conv => arg 5; whnf); repeat (refine xS ?_; conv => arg 5; whnf)))
          refine wD (Ends.shutN (.inr rfl) (Ent.refl _) rfl rfl ?_)
          rw [good, if_neg (by rw [h5]; simp)]; rfl
end Go.Proofs.YtmoohekgheoliaaGreatDoor
namespace Go.Proofs.YtmoohekgheoliaaGreatDoor
set_option maxRecDepth 100000
open Go.Sx
def inAt (S : USet) (t : TxM) (h : Int) (i : Nat) : Coin × Int := inE S t i h (t.ins.getD i default)
def firstE (S : USet) (t : TxM) (h : Int) : Nat → Int
  | 0 => 0
  | n + 1 => if firstE S t h n = 0 then (inAt S t h n).2 else firstE S t h n
def inAmts (S : USet) (t : TxM) (h : Int) (n : Nat) : List Int := (List.range n).map fun i => (inAt S t h i).1.amt.toInt
theorem inAmts_succ (S : USet) (t : TxM) (h : Int) (n : Nat) : inAmts S t h (n + 1) = inAmts S t h n ++ [(inAt S t h n).1.amt.toInt] := by simp [inAmts, List.range_succ]
theorem inAmts_length (S : USet) (t : TxM) (h : Int) (n : Nat) : (inAmts S t h n).length = n := by simp [inAmts]
theorem firstE_late {S : USet} {t : TxM} {h : Int} : ∀ {n m : Nat}, m ≤ n → firstE S t h m ≠ 0 → firstE S t h n = firstE S t h m
  | n, m, hle, hm => by
    induction n with
    | zero => obtain rfl : m = 0 := by omega
              rfl
    | succ n ih =>
      by_cases e : m = n + 1
      · rw [e]
      · have := ih (by omega)
        rw [firstE, if_neg (by rw [this]; exact hm), this]
def feeE (a b : Option Int) : Int × Int :=
  if (!a.isSome || (!b.isSome || !bothB (a.getD 0) (b.getD 0) (IntKind.i64.wrap (a.getD 0 - b.getD 0)))) = true then (0, 5) else (IntKind.i64.wrap (a.getD 0 - b.getD 0), 0)
def payE (S : USet) (t : TxM) (h : Int) : Int × Int :=
  if firstE S t h t.ins.length = 0 then feeE (sumM 0 (inAmts S t h t.ins.length)) (sumM 0 (payAmts t)) else (0, firstE S t h t.ins.length)
def intsX (r : Int × Int) : XV := .tup [.one (.raw (.int .i64 r.1)), .one (.raw (.int .i64 r.2))]
def txRows (t : TxM) : Mem := [(1, .ro 298 t.ins.length (insF t.ins)), (2, .ro 9 t.outs.length (outsF t.outs)), (3, .ro 11 t.fwds.length (fwdsF t.fwds)), (4, .ro 8 t.par.keys.length (keysF t.par.keys)), (5, .ro 9 t.cert.outs.length (outsF t.cert.outs)), (6, .ro 282 t.cert.sigs.length (sgdsF t.cert.sigs))]
def payMem (S : USet) (t : TxM) (n : Nat) (L : List Int) : Mem := (0, .abs (usetP S)) :: (txRows t ++ [(8, .ext stepsP), (9, .cells 49 (boxC 1 t.ac)), (10, .vec 3 1 n (amtsF L))])
def paySt (S : USet) (t : TxM) (h : Int) (i : Nat) : St :=
  ⟨[some (XV.sv (.ptr 0 0 0 0)), none, some (XV.int .i64 h), none, some (XV.sv (.ptr 9 0 0 0)), none, none, none, some (XV.sv (.slc 10 1 0 i))] ++ List.replicate 23 none ++ [some (XV.int .i64 t.ins.length), some (XV.int .i64 i)] ++ List.replicate 47 none, payMem S t i (inAmts S t h i), 11⟩
set_option maxHeartbeats 4000000 in
theorem pay_can (S : USet) (t : TxM) (h : Int) (hk : t.kind = 2) (hs : Sized t) (hc : t.claim.Wf) (hm : mayPay t hc = true) :
    Acts Tryz.prog 18 (.abs (usetP S)) (.abs (usetP S)) [.box t.ac, .plain (.one (.raw (.int .i64 h)))] [stepsP] (intsX (payE S t h)) := by
  have hmay := may_true hk hs hc hm
  have hins : t.ins.length ≤ 8 := by
    have := (mayPay_iff.1 hm).1
    rw [payB, Bool.and_eq_true, insOK, Bool.and_eq_true, within_iff] at this
    omega
  refine Acts.of Tryz.T_ok Tryz.func18 rfl _ _ _ _ _ rfl rfl rfl (fun C hC => ?_)
  (replace hC : C.n0 = 9 := hC; change Tri _ _ _ ⟨_, _, 9⟩ _)
  (refine Tri.cut 3 Tryz.mixed Tryz.T_ok ?_; ((conv => arg 5; whnf); repeat (refine xS ?_; conv => arg 5; whnf)))
  (refine wFd ?_ ?_; (first | refine decide_eq_false ?_ | rw [beq_eq_false_iff_ne] | rw [bne_eq_false_iff_eq]); exact (by (try simp only [ww] at *); omega); refine wGo ?_; ((conv => arg 5; whnf); repeat (refine xS ?_; conv => arg 5; whnf)))
  (apply wP; exact (call_op rfl (entersB_of Tryz.func36 (by kernel_rfl)) rfl (hmay.at [1, 2, 3, 4, 5, 6] ⟨lend_tx (t := t) (lend_ro0 rfl rfl) (lend_ro0 rfl rfl) (lend_ro0 rfl rfl) (lend_ro0 rfl rfl) (lend_ro0 rfl rfl) (lend_ro0 rfl rfl), trivial⟩ trivial)); ((conv => arg 5; whnf); repeat (refine xS ?_; conv => arg 5; whnf)))
  refine wD <| cutG <| Tri.ent (Ent.nils (t := 8) rfl 3 1) <| Tri.seq ?_
  (refine Tri.cut 1 Tryz.mixed Tryz.T_ok ?_; ((conv => arg 5; whnf); repeat (refine xS ?_; conv => arg 5; whnf)))
  refine wD <| cutG <| Tri.block ?_
  refine Tri.loop (α := { i : Nat // i ≤ t.ins.length ∧ firstE S t h i = 0 }) (fun i => paySt S t h i.1) (fun i => t.ins.length - i.1) ⟨0, Nat.zero_le _, rfl⟩ ?_ ?_
  · ((try dsimp only); refine Ent.renC [0, 1, 2, 3, 4, 5, 6, 7, 8, 9, 25] hC ?_ ?_ <;> repeat' (first | exact trivial | exact rfl | exact ⟨_, rfl, rfl, rfl, Nat.le_refl _, fun _ _ => rfl⟩ | exact ⟨_, rfl, rfl, rfl, fun _ _ => rfl⟩ | exact ⟨_, rfl, rfl, rfl⟩ | exact ⟨_, rfl, rfl⟩ | refine ⟨_, rfl, rfl, rfl, by omega, fun k hk => ?_⟩ | refine ⟨?_, ?_⟩ | fail))
    exact absurd hk (Nat.not_lt_zero _)
  rintro ⟨i, hi, he⟩
  dsimp only
  (refine Tri.cut 2 Tryz.mixed Tryz.T_ok ?_; ((conv => arg 5; whnf); repeat (refine xS ?_; conv => arg 5; whnf)))
  refine wC (fun h1 => ?_) (fun h1 => ?_)
  · (refine wGo ?_; ((conv => arg 5; whnf); repeat (refine xS ?_; conv => arg 5; whnf)))
    have h1' : i < t.ins.length := (by (try simp only [ww] at *); omega)
    have hw : IntKind.i64.wrap ((i : Int) + 1) = ((i + 1 : Nat) : Int) := (by (try simp only [ww] at *); omega)
    have hin := in_can S t i h hk hs hc hm h1'
    have hA := inAmts_succ S t h i
    have hF : firstE S t h (i + 1) = (inAt S t h i).2 := by rw [firstE, if_pos he]
    obtain ⟨R, hR⟩ : ∃ R, inAt S t h i = R := ⟨_, rfl⟩
    have hR' : inE S t i h (t.ins.getD i default) = R := hR
    rw [hR'] at hin
    rw [hR] at hA hF
    refine wD <| cutG <| Tri.seq <| Tri.block <| Tri.of Tryz.mixed Tryz.T_ok ?_
    (refine wBegin ?_; ((conv => arg 5; whnf); repeat (refine xS ?_; conv => arg 5; whnf)))
    (apply wP; exact (call_op rfl (entersB_of Tryz.func37 (by kernel_rfl)) rfl (hin.at [1, 2, 3, 4, 5, 6, 8] rfl rfl rfl ⟨lend_tx (t := t) (lend_ro0 rfl rfl) (lend_ro0 rfl rfl) (lend_ro0 rfl rfl) (lend_ro0 rfl rfl) (lend_ro0 rfl rfl) (lend_ro0 rfl rfl), lend_plain rfl, lend_plain rfl, trivial⟩ ⟨lend_ext (c := 8) rfl rfl, trivial⟩)); ((conv => arg 5; whnf); repeat (refine xS ?_; conv => arg 5; whnf)))
    refine wC (fun h2 => ?_) (fun h2 => ?_)
    · have h2' : ¬ R.2 = 0 := by simpa using h2
      (refine wGo ?_; ((conv => arg 5; whnf); repeat (refine xS ?_; conv => arg 5; whnf)))
      refine wD <| blockR <| cutR <| loopR <| blockR <| cutR <| Ends.shutN (.inr rfl) (Ent.refl _) rfl rfl ?_
      have hl : firstE S t h t.ins.length = R.2 := by
        rw [firstE_late (m := i + 1) h1' (by rw [hF]; exact h2'), hF]
      rw [payE, if_neg (by rw [hl]; exact h2'), hl]; rfl
    · have h2' : R.2 = 0 := by simpa using h2
      (refine wGo ?_; ((conv => arg 5; whnf); repeat (refine xS ?_; conv => arg 5; whnf)))
      (refine wP _ _ (append_op Tryz.T_ok rfl rfl rfl rfl rfl [10, 31] (old_vec rfl rfl (Nat.le_refl _) rfl) (new_vec (lo := 0) rfl rfl (Nat.le_refl _) rfl) rfl (lt1 rfl) (by simp only [maxLen]; omega) (by dsimp only; omega)) ?_; ((conv => arg 5; whnf); repeat (refine xS ?_; conv => arg 5; whnf)))
      refine wD <| blockN <| cutG <| Tri.of Tryz.mixed Tryz.T_ok ?_
      (refine wBegin ?_; ((conv => arg 5; whnf); repeat (refine xS ?_; conv => arg 5; whnf)))
      refine wD <| loopN ⟨⟨i + 1, h1', by rw [hF, h2']⟩, by dsimp only; omega, ?_⟩
      rw [hw]
      unfold paySt
      dsimp only
      rw [hA]
      ((try dsimp only); refine Ent.renC [0, 1, 2, 3, 4, 5, 6, 7, 8, 9, 32] hC ?_ ?_ <;> repeat' (first | exact trivial | exact rfl | exact ⟨_, rfl, rfl, rfl, Nat.le_refl _, fun _ _ => rfl⟩ | exact ⟨_, rfl, rfl, rfl, fun _ _ => rfl⟩ | exact ⟨_, rfl, rfl, rfl⟩ | exact ⟨_, rfl, rfl⟩ | refine ⟨_, rfl, rfl, rfl, by omega, fun k hk => ?_⟩ | refine ⟨?_, ?_⟩ | fail))
      exact amts_snoc (inAmts_length _ _ _ _).symm rfl hk
  · (refine wGo ?_; ((conv => arg 5; whnf); repeat (refine xS ?_; conv => arg 5; whnf)))
    have h1' : i = t.ins.length := (by (try simp only [ww] at *); omega)
    subst h1'
    refine wD <| cutE <| loopX <| blockX <| cutG <| Tri.of Tryz.mixed Tryz.T_ok ?_
    have hL := inAmts_length S t h t.ins.length
    (refine wBegin ?_; ((conv => arg 5; whnf); repeat (refine xS ?_; conv => arg 5; whnf)))
    (apply wP; exact (call_op rfl (entersB_of Tryz.func38 (by kernel_rfl)) rfl ((msum_can (inAmts S t h t.ins.length) (by omega)).at [10] ⟨by rw [hL]; exact lend_vec0 rfl rfl, trivial⟩ trivial)); ((conv => arg 5; whnf); repeat (refine xS ?_; conv => arg 5; whnf)))
    (apply wP; exact (call_op rfl (entersB_of Tryz.func39 (by kernel_rfl)) rfl ((paid_can t hs).at [1, 2, 3, 4, 5, 6] ⟨lend_tx (t := t) (lend_ro0 rfl rfl) (lend_ro0 rfl rfl) (lend_ro0 rfl rfl) (lend_ro0 rfl rfl) (lend_ro0 rfl rfl) (lend_ro0 rfl rfl), trivial⟩ trivial)); ((conv => arg 5; whnf); repeat (refine xS ?_; conv => arg 5; whnf)))
    (apply wP; exact (call_op rfl (entersB_of Tryz.func40 (by kernel_rfl)) rfl (sub_spec _ _ _ _)); ((conv => arg 5; whnf); repeat (refine xS ?_; conv => arg 5; whnf)))
    have hp : payE S t h = feeE (sumM 0 (inAmts S t h t.ins.length)) (sumM 0 (payAmts t)) := by rw [payE, if_pos he]
    refine wC (fun h2 => ?_) (fun h2 => ?_)
    · (refine wGo ?_; ((conv => arg 5; whnf); repeat (refine xS ?_; conv => arg 5; whnf)))
      refine wD (Ends.shutN (.inr rfl) (Ent.refl _) rfl rfl ?_)
      rw [hp, feeE, if_pos (by rw [h2]; rfl)]; rfl
    · (refine wGo ?_; ((conv => arg 5; whnf); repeat (refine xS ?_; conv => arg 5; whnf)))
      refine wC (fun h3 => ?_) (fun h3 => ?_)
      · (refine wGo ?_; ((conv => arg 5; whnf); repeat (refine xS ?_; conv => arg 5; whnf)))
        refine wD (Ends.shutN (.inr rfl) (Ent.refl _) rfl rfl ?_)
        rw [hp, feeE, if_pos (by rw [h2, h3]; rfl)]; rfl
      · (refine wGo ?_; ((conv => arg 5; whnf); repeat (refine xS ?_; conv => arg 5; whnf)))
        refine wC (fun h4 => ?_) (fun h4 => ?_)
        · (refine wGo ?_; ((conv => arg 5; whnf); repeat (refine xS ?_; conv => arg 5; whnf)))
          refine wD (Ends.shutN (.inr rfl) (Ent.refl _) rfl rfl ?_)
          rw [hp, feeE, if_pos (by rw [h2, h3, h4]; rfl)]; rfl
        · (refine wGo ?_; ((conv => arg 5; whnf); repeat (refine xS ?_; conv => arg 5; whnf)))
          refine wD (Ends.shutN (.inr rfl) (Ent.refl _) rfl rfl ?_)
          have h4' : bothB ((sumM 0 (inAmts S t h t.ins.length)).getD 0) ((sumM 0 (payAmts t)).getD 0) (IntKind.i64.wrap ((sumM 0 (inAmts S t h t.ins.length)).getD 0 - (sumM 0 (payAmts t)).getD 0)) = true := by simpa using h4
          have e : feeE (sumM 0 (inAmts S t h t.ins.length)) (sumM 0 (payAmts t)) = (IntKind.i64.wrap ((sumM 0 (inAmts S t h t.ins.length)).getD 0 - (sumM 0 (payAmts t)).getD 0), 0) := if_neg (by rw [h2, h3, h4']; simp)
          rw [hp, e, if_pos h4']; rfl
end Go.Proofs.YtmoohekgheoliaaGreatDoor
namespace Go.Proofs.YtmoohekgheoliaaGreatDoor
set_option maxRecDepth 100000
open Go.Sx
theorem wrap_i64 {n : Int} (h1 : -9223372036854775808 ≤ n) (h2 : n < 9223372036854775808) : IntKind.i64.wrap n = n := by
  have e1 : IntKind.i64.bits = 64 := rfl
  have e2 : IntKind.i64.signed = true := rfl
  simp only [IntKind.wrap, e1, e2, Bool.true_and]
  split <;> rename_i h <;> simp only [ge_iff_le, decide_eq_true_eq] at h <;> omega
theorem lawCoin_spec (c : Coin) (M : Mem) (d : Nat) : CallSpec Tryz.prog 30 [c.cv] M d { v := .cv c.cv } [] := by
  refine spec_pure Tryz.mixed Tryz.T_ok Tryz.func30 rfl _ _ rfl rfl (fun C _ => ?_) M d
  (refine wBegin ?_; ((conv => arg 5; whnf); repeat (refine xS ?_; conv => arg 5; whnf)))
  exact Ends.plain (.inr rfl) rfl rfl
structure RC where
  P : List Pt
  C : List Coin
def RC.mem (R : RC) : Mem := [(0, .cells 75 [.slc 1 9 0 R.P.length, .slc 2 11 0 R.C.length]), (1, .vec 60 9 R.P.length fun i => (R.P.getD i default).cells), (2, .vec 97 11 R.C.length fun i => (R.C.getD i default).cells)]
def rcP (R : RC) : AbsP := packP R.mem True
def RC.empty : RC := ⟨[], []⟩
end Go.Proofs.YtmoohekgheoliaaGreatDoor
namespace Go.Proofs.YtmoohekgheoliaaGreatDoor
set_option maxRecDepth 100000
open Go.Sx
def RC.root (R : RC) (i1 i2 : Nat) : Chunk := .cells 75 [.slc i1 9 0 R.P.length, .slc i2 11 0 R.C.length]
def RC.vecP (R : RC) : Chunk := .vec 60 9 R.P.length fun i => (R.P.getD i default).cells
def RC.vecC (R : RC) : Chunk := .vec 97 11 R.C.length fun i => (R.C.getD i default).cells
theorem RC.mem_get {R : RC} {i : Nat} {ch : Chunk} (h : R.mem.get i = some ch) : (i = 0 ∧ ch = R.root 1 2) ∨ (i = 1 ∧ ch = R.vecP) ∨ (i = 2 ∧ ch = R.vecC) := by
  simp only [RC.mem, Mem.get, nbeq] at h
  by_cases h0 : 0 = i
  · subst h0; simp at h; exact .inl ⟨rfl, h.symm⟩
  · by_cases h1 : 1 = i
    · subst h1; simp at h; exact .inr (.inl ⟨rfl, h.symm⟩)
    · by_cases h2 : 2 = i
      · subst h2; simp at h; exact .inr (.inr ⟨rfl, h.symm⟩)
      · simp [h0, h1, h2] at h
theorem rc_reads {f : FuncId} {fn : Func} {body : Code} (hf : Tryz.prog.funcs[f]? = some fn) (hb : fn.body = some body) (R : RC) (Xl : List CV) (X : XV) (hXl : Xl.all (CV.ok fun _ => false) = true) (hX : X.ok (fun _ => false) = true) {M : Mem} {c i1 i2 d : Nat}
    (k0 : M.get c = some (R.root i1 i2)) (k1 : M.get i1 = some R.vecP) (k2 : M.get i2 = some R.vecC) (hdist : (Nat.beq c i1 || Nat.beq c i2 || Nat.beq i1 i2) = false) (hd : (Nat.beq d c || Nat.beq d i1 || Nat.beq d i2) = false)
    (h : ∀ C : Ctx, C.n0 = 3 → Tri Tryz.prog C body ⟨slots0 fn.ntmps (.cv (.one (.ptr 0 0 0 0)) :: Xl.map .cv), R.mem, 3⟩ (Sx.Ends C Tryz.T fn.results.toList 3 3 ⟨X, R.mem, none⟩)) :
    CallSpec Tryz.prog f (.one (.ptr c 0 0 0) :: Xl) M d { v := X, upd := [(c, R.root i1 i2), (i1, R.vecP), (i2, R.vecC)], wr := [c, i1, i2] } [c, i1, i2] := by
  simp only [Bool.or_eq_false_iff, nbeq, decide_eq_false_iff_not] at hdist hd
  obtain ⟨⟨n1, n2⟩, n3⟩ := hdist
  obtain ⟨⟨m1, m2⟩, m3⟩ := hd
  refine spec_of_open (ids := [c, i1, i2]) (rids := []) (k1 := 3) (n0 := 3) (Xl := .one (.ptr 0 0 0 0) :: Xl) (M0 := R.mem) (out := ⟨X, R.mem, none⟩) Tryz.T_ok hf hb (by simp [n1, n2, n3]) rfl rfl (by simp [m1, m2, m3]) ?_ (fun i ch hi => ?_) (fun i ch hi => ?_) (fun i ch hi => by cases hi) (XV.ok_mono (fun _ h => by cases h) hX) h ?_ (XV.ren_closed hX).symm rfl (fun q ch hq => ?_)
  · simp only [List.all_cons, Bool.and_eq_true]
    refine ⟨by simp [CV.ok, SV.ok], ?_⟩
    simp only [List.all_eq_true] at hXl ⊢
    exact fun s hs => CV.ok_mono (fun _ h => by cases h) (hXl s hs)
  · rcases RC.mem_get hi with ⟨rfl, rfl⟩ | ⟨rfl, rfl⟩ | ⟨rfl, rfl⟩
    · exact ⟨by decide, rfl, fun h => by omega, fun ci hci => by simp at hci; subst hci; exact k0⟩
    · exact ⟨by decide, rfl, fun h => by omega, fun ci hci => by simp at hci; subst hci; exact k1⟩
    · exact ⟨by decide, rfl, fun h => by omega, fun ci hci => by simp at hci; subst hci; exact k2⟩
  · rcases RC.mem_get hi with ⟨rfl, rfl⟩ | ⟨rfl, rfl⟩ | ⟨rfl, rfl⟩ <;> exact ⟨rfl, rfl⟩
  · simp only [List.map_cons, CVs.ren_closed hXl]
    rfl
  · simp only [Mem.get, nbeq] at hq
    by_cases e0 : c = q
    · subst e0; simp at hq; subst hq; exact ⟨R.root 1 2, rfl, .inl ⟨0, rfl, rfl⟩⟩
    · by_cases e1 : i1 = q
      · subst e1; simp [e0] at hq; subst hq; exact ⟨R.vecP, rfl, .inl ⟨1, rfl, rfl⟩⟩
      · by_cases e2 : i2 = q
        · subst e2; simp [e0, e1] at hq; subst hq; exact ⟨R.vecC, rfl, .inl ⟨2, rfl, rfl⟩⟩
        · simp [e0, e1, e2] at hq
def RC.sumN (R : RC) : Nat → Int
  | 0 => 0
  | i + 1 => IntKind.i64.wrap (R.sumN i + (R.C.getD i default).amt.toInt)
def rcTotalSt (R : RC) (i : Nat) : St := ⟨[some (XV.sv (.ptr 0 0 0 0)), none, none, some (XV.int .i64 (R.sumN i)), some (XV.int .i64 i)] ++ List.replicate 21 none, R.mem, 3⟩
set_option maxHeartbeats 1000000 in
set_option maxRecDepth 100000 in
theorem rcTotal_spec (R : RC) (hlen : R.C.length < 1000000) {M : Mem} {c i1 i2 d : Nat} (k0 : M.get c = some (R.root i1 i2)) (k1 : M.get i1 = some R.vecP) (k2 : M.get i2 = some R.vecC) (hdist : (Nat.beq c i1 || Nat.beq c i2 || Nat.beq i1 i2) = false) (hd : (Nat.beq d c || Nat.beq d i1 || Nat.beq d i2) = false) :
    CallSpec Tryz.prog 46 [.one (.ptr c 0 0 0)] M d { v := XV.int .i64 (R.sumN R.C.length), upd := [(c, R.root i1 i2), (i1, R.vecP), (i2, R.vecC)], wr := [c, i1, i2] } [c, i1, i2] := by
  refine rc_reads Tryz.func46 rfl R [] _ rfl rfl k0 k1 k2 hdist hd (fun C hC => ?_)
  have hC0 : ∀ i, i < C.n0 → ([0, 1, 2] : List Nat)[i]? = some i := fun i hi => by
    rw [hC] at hi
    match i, hi with
    | 0, _ => rfl
    | 1, _ => rfl
    | 2, _ => rfl
  have hC1 : C.n0 ≤ 3 := by rw [hC]; decide
  (refine Tri.cut 2 Tryz.mixed Tryz.T_ok ?_; ((conv => arg 5; whnf); repeat (refine xS ?_; conv => arg 5; whnf)))
  refine wD <| cutG <| Tri.seq ?_
  (refine Tri.cut 1 Tryz.mixed Tryz.T_ok ?_; ((conv => arg 5; whnf); repeat (refine xS ?_; conv => arg 5; whnf)))
  refine wD <| cutG <| Tri.block ?_
  refine Tri.loop (α := { i : Nat // i ≤ R.C.length }) (fun i => rcTotalSt R i.1) (fun i => R.C.length - i.1) ⟨0, Nat.zero_le _⟩ ?_ ?_
  · exact Ent.ren [0, 1, 2] (by decide) rfl hC0 hC1 rfl ⟨rfl, rfl, rfl, trivial⟩ ⟨⟨_, rfl, rfl, rfl⟩, ⟨_, rfl, rfl, rfl, Nat.le_refl _, fun _ _ => rfl⟩, ⟨_, rfl, rfl, rfl, Nat.le_refl _, fun _ _ => rfl⟩, trivial⟩
  rintro ⟨i, hi⟩
  dsimp only
  (refine Tri.cut 1 Tryz.mixed Tryz.T_ok ?_; ((conv => arg 5; whnf); repeat (refine xS ?_; conv => arg 5; whnf)))
  refine wC (fun h1 => ?_) (fun h1 => ?_)
  · (refine wGo ?_; ((conv => arg 5; whnf); repeat (refine xS ?_; conv => arg 5; whnf)))
    have h1' : i < R.C.length := by simp only [decide_eq_true_eq] at h1; omega
    refine wD <| cutG <| Tri.seq <| Tri.block <| Tri.of Tryz.mixed Tryz.T_ok ?_
    (refine wBegin ?_; ((conv => arg 5; whnf); repeat (refine xS ?_; conv => arg 5; whnf)))
    refine wN ⟨by omega, by omega⟩ ?_
    (refine wGo ?_; ((conv => arg 5; whnf); repeat (refine xS ?_; conv => arg 5; whnf)))
    refine wN (by omega) ?_
    (refine wGo ?_; ((conv => arg 5; whnf); repeat (refine xS ?_; conv => arg 5; whnf)))
    refine wD <| blockN <| cutG <| Tri.of Tryz.mixed Tryz.T_ok ?_
    (refine wBegin ?_; ((conv => arg 5; whnf); repeat (refine xS ?_; conv => arg 5; whnf)))
    have hw : IntKind.i64.wrap ((i : Int) + 1) = ((i + 1 : Nat) : Int) := by rw [wrap_i64 (by omega) (by omega)]; omega
    have hg : R.C.getD (0 + ((i : Nat) : Int).toNat) default = R.C.getD i default := by simp
    have hsum : IntKind.i64.wrap (R.sumN i + (R.C.getD (0 + ((i : Nat) : Int).toNat) default).amt.toInt) = R.sumN (i + 1) := by rw [hg]; rfl
    refine wD <| loopN ⟨⟨i + 1, h1'⟩, by dsimp only; omega, ?_⟩
    exact Ent.ren [0, 1, 2] (by decide) rfl hC0 hC1 rfl ⟨rfl, congrArg (fun n : Int => some (XV.int .i64 n)) hsum, congrArg (fun n : Int => some (XV.int .i64 n)) hw, trivial⟩ ⟨⟨_, rfl, rfl, rfl⟩, ⟨_, rfl, rfl, rfl, Nat.le_refl _, fun _ _ => rfl⟩, ⟨_, rfl, rfl, rfl, Nat.le_refl _, fun _ _ => rfl⟩, trivial⟩
  · (refine wGo ?_; ((conv => arg 5; whnf); repeat (refine xS ?_; conv => arg 5; whnf)))
    have h1' : i = R.C.length := by simp only [decide_eq_false_iff_not] at h1; omega
    subst h1'
    refine wD <| cutE <| loopX <| blockX <| cutG <| Tri.of Tryz.mixed Tryz.T_ok ?_
    (refine wBegin ?_; ((conv => arg 5; whnf); repeat (refine xS ?_; conv => arg 5; whnf)))
    refine wD ⟨.inr rfl, _, Ent.refl _, rfl, fun j ch hj => ?_, fun j ch hj => by cases hj⟩
    rcases RC.mem_get hj with ⟨rfl, rfl⟩ | ⟨rfl, rfl⟩ | ⟨rfl, rfl⟩ <;> exact ⟨by decide, rfl⟩
def posIn (p : Pt) : List Pt → Nat
  | [] => 0
  | q :: r => if ltPt q p = true then posIn p r + 1 else 0
def RC.pos (R : RC) (p : Pt) : Nat := posIn p R.P
def RC.isAt (R : RC) (p : Pt) : Bool := decide (R.pos p < R.P.length) && decide (R.P.getD (R.pos p) default = p)
def rcAtSt (R : RC) (p : Pt) (i : Nat) : St := ⟨[some (XV.sv (.ptr 0 0 0 0)), none, none, some (XV.sv (.ptr 3 0 0 0)), some (XV.int .i64 (0 : Int)), some (XV.bool false), some (XV.int .i64 i)] ++ List.replicate 34 none, R.mem ++ [(3, .cells 60 (p.cells.map .raw))], 4⟩
set_option maxHeartbeats 1000000 in
set_option maxRecDepth 100000 in
theorem rcAt_spec (R : RC) (p : Pt) (hlen : R.P.length < 1000000) {M : Mem} {c i1 i2 d : Nat} (k0 : M.get c = some (R.root i1 i2)) (k1 : M.get i1 = some R.vecP) (k2 : M.get i2 = some R.vecC) (hdist : (Nat.beq c i1 || Nat.beq c i2 || Nat.beq i1 i2) = false) (hd : (Nat.beq d c || Nat.beq d i1 || Nat.beq d i2) = false) :
    CallSpec Tryz.prog 54 [.one (.ptr c 0 0 0), p.cv] M d { v := .tup [.one (.raw (.int .i64 (R.pos p))), .one (.raw (.bool (R.isAt p)))], upd := [(c, R.root i1 i2), (i1, R.vecP), (i2, R.vecC)], wr := [c, i1, i2] } [c, i1, i2] := by
  refine rc_reads Tryz.func54 rfl R [p.cv] _ rfl rfl k0 k1 k2 hdist hd (fun C hC => ?_)
  have hC0 : ∀ i, i < C.n0 → ([0, 1, 2, 3] : List Nat)[i]? = some i := fun i hi => by
    rw [hC] at hi
    match i, hi with
    | 0, _ => rfl
    | 1, _ => rfl
    | 2, _ => rfl
  have hC1 : C.n0 ≤ 4 := by rw [hC]; decide
  (refine Tri.cut 1 Tryz.mixed Tryz.T_ok ?_; ((conv => arg 5; whnf); repeat (refine xS ?_; conv => arg 5; whnf)))
  refine wD <| cutG <| Tri.seq ?_
  (refine Tri.cut 1 Tryz.mixed Tryz.T_ok ?_; ((conv => arg 5; whnf); repeat (refine xS ?_; conv => arg 5; whnf)))
  refine wD <| cutG <| Tri.block ?_
  refine Tri.loop (α := { i : Nat // i ≤ R.P.length ∧ R.pos p = i + posIn p (R.P.drop i) }) (fun i => rcAtSt R p i.1) (fun i => R.P.length - i.1) ⟨0, Nat.zero_le _, by simp [RC.pos]⟩ ?_ ?_
  · exact Ent.ren [0, 1, 2, 3] (by decide) rfl hC0 hC1 rfl ⟨rfl, rfl, rfl, rfl, rfl, trivial⟩ ⟨⟨_, rfl, rfl, rfl⟩, ⟨_, rfl, rfl, rfl, Nat.le_refl _, fun _ _ => rfl⟩, ⟨_, rfl, rfl, rfl, Nat.le_refl _, fun _ _ => rfl⟩, ⟨_, rfl, rfl, rfl⟩, trivial⟩
  rintro ⟨i, hi, hpos⟩
  dsimp only
  (refine Tri.cut 1 Tryz.mixed Tryz.T_ok ?_; ((conv => arg 5; whnf); repeat (refine xS ?_; conv => arg 5; whnf)))
  refine wC (fun h1 => ?_) (fun h1 => ?_)
  · (refine wGo ?_; ((conv => arg 5; whnf); repeat (refine xS ?_; conv => arg 5; whnf)))
    have h1' : i < R.P.length := by simp only [decide_eq_true_eq] at h1; omega
    have hdrop : R.P.drop i = R.P.getD i default :: R.P.drop (i + 1) := by
      rw [List.drop_eq_getElem_cons h1']
      simp [List.getD_eq_getElem?_getD, h1']
    have hg : R.P.getD (0 + ((i : Nat) : Int).toNat) default = R.P.getD i default := by simp
    refine wD <| cutG <| Tri.seq <| Tri.block <| Tri.of Tryz.mixed Tryz.T_ok ?_
    (refine wBegin ?_; ((conv => arg 5; whnf); repeat (refine xS ?_; conv => arg 5; whnf)))
    refine wN ⟨by omega, by omega⟩ ?_
    (refine wGo ?_; ((conv => arg 5; whnf); repeat (refine xS ?_; conv => arg 5; whnf)))
    refine wN (by omega) ?_
    (refine wGo ?_; ((conv => arg 5; whnf); repeat (refine xS ?_; conv => arg 5; whnf)))
    (apply wP; exact (call_op rfl (entersB_of Tryz.func94 (by kernel_rfl)) rfl (lessPoint_spec (R.P.getD (0 + ((i : Nat) : Int).toNat) default) p _ _)); ((conv => arg 5; whnf); repeat (refine xS ?_; conv => arg 5; whnf)))
    refine wC (fun h2 => ?_) (fun h2 => ?_)
    · (refine wGo ?_; ((conv => arg 5; whnf); repeat (refine xS ?_; conv => arg 5; whnf)))
      refine wN ⟨by omega, by omega⟩ ?_
      (refine wGo ?_; ((conv => arg 5; whnf); repeat (refine xS ?_; conv => arg 5; whnf)))
      refine wN (by omega) ?_
      (refine wGo ?_; ((conv => arg 5; whnf); repeat (refine xS ?_; conv => arg 5; whnf)))
      (refine wP _ _ (eq_op ptE rfl (R.P.getD (0 + ((i : Nat) : Int).toNat) default) p rfl rfl) ?_; ((conv => arg 5; whnf); repeat (refine xS ?_; conv => arg 5; whnf)))
      simp only [Bool.not_eq_true'] at h2
      rw [hg] at h2
      have hp : R.pos p = i := by rw [hpos, hdrop, posIn, if_neg (by rw [h2]; simp)]; rfl
      refine wD <| blockR <| cutR <| loopR <| blockR <| cutR ⟨.inr rfl, _, Ent.refl _, ?_, fun j ch hj => ?_, fun j ch hj => by cases hj⟩
      · have hx : R.isAt p = decide (R.P.getD (0 + ((i : Nat) : Int).toNat) default = p) := by simp only [RC.isAt, hp, hg, h1', decide_true, Bool.true_and]
        rw [hx, hp]
        rfl
      · rcases RC.mem_get hj with ⟨rfl, rfl⟩ | ⟨rfl, rfl⟩ | ⟨rfl, rfl⟩ <;> exact ⟨by decide, rfl⟩
    · (refine wGo ?_; ((conv => arg 5; whnf); repeat (refine xS ?_; conv => arg 5; whnf)))
      simp only [Bool.not_eq_false'] at h2
      rw [hg] at h2
      have hw : IntKind.i64.wrap ((i : Int) + 1) = ((i + 1 : Nat) : Int) := by rw [wrap_i64 (by omega) (by omega)]; omega
      refine wD <| blockN <| cutG <| Tri.of Tryz.mixed Tryz.T_ok ?_
      (refine wBegin ?_; ((conv => arg 5; whnf); repeat (refine xS ?_; conv => arg 5; whnf)))
      refine wD <| loopN ⟨⟨i + 1, h1', by rw [hpos, hdrop, posIn, if_pos h2]; omega⟩, by dsimp only; omega, ?_⟩
      exact Ent.ren [0, 1, 2, 3] (by decide) rfl hC0 hC1 rfl ⟨rfl, rfl, rfl, rfl, congrArg (fun n : Int => some (XV.int .i64 n)) hw, trivial⟩ ⟨⟨_, rfl, rfl, rfl⟩, ⟨_, rfl, rfl, rfl, Nat.le_refl _, fun _ _ => rfl⟩, ⟨_, rfl, rfl, rfl, Nat.le_refl _, fun _ _ => rfl⟩, ⟨_, rfl, rfl, rfl⟩, trivial⟩
  · (refine wGo ?_; ((conv => arg 5; whnf); repeat (refine xS ?_; conv => arg 5; whnf)))
    have h1' : i = R.P.length := by simp only [decide_eq_false_iff_not] at h1; omega
    have hp : R.pos p = R.P.length := by rw [hpos, h1', List.drop_length]; rfl
    refine wD <| cutE <| loopX <| blockX <| cutG <| Tri.of Tryz.mixed Tryz.T_ok ?_
    (refine wBegin ?_; ((conv => arg 5; whnf); repeat (refine xS ?_; conv => arg 5; whnf)))
    refine wD ⟨.inr rfl, _, Ent.refl _, ?_, fun j ch hj => ?_, fun j ch hj => by cases hj⟩
    · have hx : R.isAt p = false := by simp [RC.isAt, hp]
      rw [hx, hp]
      rfl
    · rcases RC.mem_get hj with ⟨rfl, rfl⟩ | ⟨rfl, rfl⟩ | ⟨rfl, rfl⟩ <;> exact ⟨by decide, rfl⟩
end Go.Proofs.YtmoohekgheoliaaGreatDoor
namespace Go.Proofs.YtmoohekgheoliaaGreatDoor
set_option maxRecDepth 100000
open Go.Sx
theorem RC.opens {P : Program} {C : Ctx} {cd : Code} {slots : List (Option XV)} {mem : Mem} {nx : Nat} {Q : Exit → St → Prop} (R : RC) (c : Nat) (hc : mem.get c = some (.abs (rcP R)))
    (h : Tri P C cd ⟨slots, (c, R.root (nx + 1) (nx + 2)) :: (nx + 1, R.vecP) :: (nx + 2, R.vecC) :: mem.del c, nx + 3⟩ Q) : Tri P C cd ⟨slots, mem, nx⟩ Q :=
  Tri.opens (M := R.mem) (m := 3) (inv := True) (c := c) hc rfl fun _ => h
theorem RC.shuts {C : Ctx} {slots : List (Option XV)} {mem : Mem} {nx : Nat} (R : RC) (c : Nat) {i1 i2 m1 m2 n1 n2 : Nat} {f g : Nat → List Value}
    (k0 : mem.get c = some (.cells 75 [.slc i1 9 0 m1, .slc i2 11 0 m2])) (k1 : mem.get i1 = some (.vec 60 9 n1 f)) (k2 : mem.get i2 = some (.vec 97 11 n2 g))
    (hids : (Nat.beq c i1 || Nat.beq c i2 || Nat.beq i1 i2) = false) (hm1 : m1 = R.P.length) (hm2 : m2 = R.C.length) (hl1 : R.P.length ≤ n1) (hl2 : R.C.length ≤ n2) (hf : ∀ i, i < R.P.length → f i = (R.P.getD i default).cells) (hg : ∀ i, i < R.C.length → g i = (R.C.getD i default).cells) :
    Ent C ⟨slots, mem, nx⟩ ⟨slots, (c, .abs (rcP R)) :: mem.dels [c, i1, i2], nx⟩ := by
  subst hm1 hm2
  exact Ent.shut3 (S := ⟨slots, mem, nx⟩) (M := R.mem) (inv := True) hids trivial rfl rfl rfl rfl k0 k1 k2 rfl ⟨rfl, rfl⟩ ⟨rfl, rfl, hl1, hf⟩ ⟨rfl, rfl, hl2, hg⟩
end Go.Proofs.YtmoohekgheoliaaGreatDoor
namespace Go.Proofs.YtmoohekgheoliaaGreatDoor
set_option maxRecDepth 100000
open Go.Sx
theorem posIn_le (p : Pt) : ∀ l : List Pt, posIn p l ≤ l.length
  | [] => Nat.le_refl _
  | q :: r => by
    simp only [posIn]
    split
    · have := posIn_le p r; simp; omega
    · simp
theorem insRowF {E : Type} (cells : E → List Value) (dflt : E) (l : List E) (k : Nat) (hk : k ≤ l.length) (x : E) (i : Nat) (hi : i < l.length + 1) :
    joinF (snocF (joinF (fun _ => []) 0 (fun q => cells (l.getD (0 + q) dflt))) (0 + k) (cells x)) (0 + k + 1) (fun q => cells (l.getD (0 + k + q) dflt)) i = cells ((l.take k ++ x :: l.drop k).getD i dflt) := by
  simp only [joinF, snocF, nblt, Nat.zero_add]
  by_cases h1 : i < k
  · have h2 : i < k + 1 := by omega
    have h3 : ¬ i < 0 := by omega
    simp only [h1, h2, h3, decide_true, decide_false, cond_true, cond_false, Nat.sub_zero]
    have : (l.take k ++ x :: l.drop k)[i]? = l[i]? := by
      rw [List.getElem?_append_left (by rw [List.length_take]; omega), List.getElem?_take, if_pos h1]
    simp [List.getD_eq_getElem?_getD, this]
  · by_cases h2 : i < k + 1
    · have h4 : i = k := by omega
      subst h4
      simp only [h2, Nat.lt_irrefl, decide_true, decide_false, cond_true, cond_false]
      have : (l.take i ++ x :: l.drop i)[i]? = some x := by
        rw [List.getElem?_append_right (by rw [List.length_take]; omega), List.length_take]
        have : i - min i l.length = 0 := by omega
        rw [this]; rfl
      simp [List.getD_eq_getElem?_getD, this]
    · simp only [h2, decide_false, cond_false]
      have : (l.take k ++ x :: l.drop k)[i]? = l[k + (i - (k + 1))]? := by
        rw [List.getElem?_append_right (by rw [List.length_take]; omega), List.length_take]
        have : i - min k l.length = (i - (k + 1)) + 1 := by omega
        rw [this, List.getElem?_cons_succ, List.getElem?_drop]
      simp [List.getD_eq_getElem?_getD, this]
def RC.okB (R : RC) (p : Pt) (c : Coin) : Bool := !(R.isAt p) && !(decide (p.no.toInt < 0)) && !(decide (255 < p.no.toInt)) && !(decide (c.amt.toInt < 1)) && !(decide (1125899906842624 < c.amt.toInt)) && !(decide (IntKind.i64.wrap (1125899906842624 - c.amt.toInt) < R.sumN R.C.length))
def RC.add1 (R : RC) (p : Pt) (c : Coin) : RC := ⟨R.P.take (R.pos p) ++ p :: R.P.drop (R.pos p), R.C.take (R.pos p) ++ c :: R.C.drop (R.pos p)⟩
def RC.add (R : RC) (p : Pt) (c : Coin) : RC := if R.okB p c = true then R.add1 p c else R
theorem RC.ends {C : Ctx} {T : TyTab} {rs : List ResultVar} {X X' : XV} {e : Exit} {slots : List (Option XV)} {mem : Mem} {nx : Nat} {R0 : RC} (R : RC) {i1 i2 m1 m2 n1 n2 : Nat} {f g : Nat → List Value} (he : e = .normal ∨ e = .ret)
    (k0 : mem.get 0 = some (.cells 75 [.slc i1 9 0 m1, .slc i2 11 0 m2])) (k1 : mem.get i1 = some (.vec 60 9 n1 f)) (k2 : mem.get i2 = some (.vec 97 11 n2 g))
    (hids : (Nat.beq 0 i1 || Nat.beq 0 i2 || Nat.beq i1 i2) = false) (hr : resX T ⟨slots, (0, .abs (rcP R)) :: mem.dels [0, i1, i2], nx⟩ rs = some X') (hX : X' = X) (hR : R = R0) (hm1 : m1 = R.P.length) (hm2 : m2 = R.C.length) (hl1 : R.P.length ≤ n1) (hl2 : R.C.length ≤ n2)
    (hf : ∀ i, i < R.P.length → f i = (R.P.getD i default).cells) (hg : ∀ i, i < R.C.length → g i = (R.C.getD i default).cells) : Sx.Ends C T rs 1 1 ⟨X, [(0, .abs (rcP R0))], none⟩ e ⟨slots, mem, nx⟩ := by
  subst hX hR
  refine ⟨he, _, RC.shuts R 0 k0 k1 k2 hids hm1 hm2 hl1 hl2 hf hg, hr, fun i ch h => ?_, fun i ch h => by cases h⟩
  simp only [Mem.get, nbeq] at h
  by_cases hk : 0 = i
  · subst hk
    simp only [decide_true, cond_true, Option.some.injEq] at h
    exact ⟨by omega, by rw [← h]; rfl⟩
  · simp [hk] at h
set_option maxHeartbeats 2000000 in
set_option maxRecDepth 100000 in
theorem rcAdd_spec (R : RC) (p : Pt) (c : Coin) (hPC : R.P.length = R.C.length) (hlen : R.P.length < 1000000) {M : Mem} {c0 d : Nat} (hM : M.get c0 = some (.abs (rcP R))) (hd : Nat.beq d c0 = false) : CallSpec Tryz.prog 31 [.one (.ptr c0 0 0 0), p.cv, c.cv] M d { v := XV.bool (R.okB p c), upd := [(c0, .abs (rcP (R.add p c)))], wr := [c0] } [c0] := by
  refine spec_obj Tryz.T_ok Tryz.func31 rfl [p.cv, c.cv] (XV.bool (R.okB p c)) rfl rfl hM hd (fun C _ => ?_)
  refine RC.opens R 0 rfl ?_
  have hpl : R.pos p ≤ R.P.length := posIn_le p R.P
  (refine Tri.cut 3 Tryz.mixed Tryz.T_ok ?_; ((conv => arg 5; whnf); repeat (refine xS ?_; conv => arg 5; whnf)))
  (apply wP; exact (call_op rfl (entersB_of Tryz.func54 (by kernel_rfl)) rfl (rcAt_spec R p hlen rfl rfl rfl rfl rfl)); ((conv => arg 5; whnf); repeat (refine xS ?_; conv => arg 5; whnf)))
  refine wC (fun h1 => ?_) (fun h1 => ?_)
  · (refine wGo ?_; ((conv => arg 5; whnf); repeat (refine xS ?_; conv => arg 5; whnf)))
    refine wD <| cutR (RC.ends R (.inr rfl) rfl rfl rfl rfl rfl ?_ ?_ rfl rfl (Nat.le_refl _) (Nat.le_refl _) (fun _ _ => rfl) (fun _ _ => rfl))
    · simp [RC.okB, h1]
    · simp [RC.add, RC.okB, h1]
  (refine wGo ?_; ((conv => arg 5; whnf); repeat (refine xS ?_; conv => arg 5; whnf)))
  refine wC (fun h2 => ?_) (fun h2 => ?_)
  · (refine wGo ?_; ((conv => arg 5; whnf); repeat (refine xS ?_; conv => arg 5; whnf)))
    refine wD <| cutR (RC.ends R (.inr rfl) rfl rfl rfl rfl rfl ?_ ?_ rfl rfl (Nat.le_refl _) (Nat.le_refl _) (fun _ _ => rfl) (fun _ _ => rfl))
    · simp [RC.okB, h2]
    · simp [RC.add, RC.okB, h2]
  (refine wGo ?_; ((conv => arg 5; whnf); repeat (refine xS ?_; conv => arg 5; whnf)))
  refine wC (fun h3 => ?_) (fun h3 => ?_)
  · (refine wGo ?_; ((conv => arg 5; whnf); repeat (refine xS ?_; conv => arg 5; whnf)))
    refine wD <| cutR (RC.ends R (.inr rfl) rfl rfl rfl rfl rfl ?_ ?_ rfl rfl (Nat.le_refl _) (Nat.le_refl _) (fun _ _ => rfl) (fun _ _ => rfl))
    · simp [RC.okB, h3]
    · simp [RC.add, RC.okB, h3]
  (refine wGo ?_; ((conv => arg 5; whnf); repeat (refine xS ?_; conv => arg 5; whnf)))
  refine wC (fun h4 => ?_) (fun h4 => ?_)
  · (refine wGo ?_; ((conv => arg 5; whnf); repeat (refine xS ?_; conv => arg 5; whnf)))
    refine wD <| cutR (RC.ends R (.inr rfl) rfl rfl rfl rfl rfl ?_ ?_ rfl rfl (Nat.le_refl _) (Nat.le_refl _) (fun _ _ => rfl) (fun _ _ => rfl))
    · simp [RC.okB, h4]
    · simp [RC.add, RC.okB, h4]
  (refine wGo ?_; ((conv => arg 5; whnf); repeat (refine xS ?_; conv => arg 5; whnf)))
  refine wC (fun h5 => ?_) (fun h5 => ?_)
  · (refine wGo ?_; ((conv => arg 5; whnf); repeat (refine xS ?_; conv => arg 5; whnf)))
    refine wD <| cutR (RC.ends R (.inr rfl) rfl rfl rfl rfl rfl ?_ ?_ rfl rfl (Nat.le_refl _) (Nat.le_refl _) (fun _ _ => rfl) (fun _ _ => rfl))
    · simp [RC.okB, h5]
    · simp [RC.add, RC.okB, h5]
  (refine wGo ?_; ((conv => arg 5; whnf); repeat (refine xS ?_; conv => arg 5; whnf)))
  (apply wP; exact (call_op rfl (entersB_of Tryz.func46 (by kernel_rfl)) rfl (rcTotal_spec R (hPC ▸ hlen) rfl rfl rfl rfl rfl)); ((conv => arg 5; whnf); repeat (refine xS ?_; conv => arg 5; whnf)))
  refine wC (fun h6 => ?_) (fun h6 => ?_)
  · (refine wGo ?_; ((conv => arg 5; whnf); repeat (refine xS ?_; conv => arg 5; whnf)))
    refine wD <| cutR (RC.ends R (.inr rfl) rfl rfl rfl rfl rfl ?_ ?_ rfl rfl (Nat.le_refl _) (Nat.le_refl _) (fun _ _ => rfl) (fun _ _ => rfl))
    · simp [RC.okB, h6]
    · simp [RC.add, RC.okB, h6]
  (refine wGo ?_; ((conv => arg 5; whnf); repeat (refine xS ?_; conv => arg 5; whnf)))
  have hok : R.okB p c = true := by simp only [RC.okB, h1, h2, h3, h4, h5, h6]; rfl
  refine wD <| cutG <| Tri.of Tryz.mixed Tryz.T_ok ?_
  (refine wBegin ?_; ((conv => arg 5; whnf); repeat (refine xS ?_; conv => arg 5; whnf)))
  refine wN ⟨by omega, by omega⟩ ?_
  (refine wGo ?_; ((conv => arg 5; whnf); repeat (refine xS ?_; conv => arg 5; whnf)))
  have hto : ((R.pos p : Nat) : Int).toNat = R.pos p := rfl
  have a1 : 0 + ((R.pos p : Nat) : Int).toNat ≤ maxLen := by simp only [maxLen]; omega
  have a2 : (0 + ((R.pos p : Nat) : Int).toNat) * 16 ≤ 140737488355328 := by omega
  have b1 : 0 + ((R.pos p : Nat) : Int).toNat + 1 ≤ maxLen := by simp only [maxLen]; omega
  have b2 : (0 + ((R.pos p : Nat) : Int).toNat + 1) * 16 ≤ 140737488355328 := by omega
  (refine wP _ _ (append_op Tryz.T_ok rfl rfl rfl rfl rfl [2] (old_nil rfl _ _ _ (fun _ => [])) (new_vec rfl rfl (by omega) rfl) rfl (fun _ _ => rfl) a1 a2) ?_; ((conv => arg 5; whnf); repeat (refine xS ?_; conv => arg 5; whnf)))
  (refine wP _ _ (append1_op Tryz.T_ok rfl rfl rfl rfl p.cells rfl rfl rfl (Nat.le_refl _) rfl rfl rfl rfl rfl b1 b2) ?_; ((conv => arg 5; whnf); repeat (refine xS ?_; conv => arg 5; whnf)))
  refine wN ⟨by omega, by omega⟩ ?_
  (refine wGo ?_; ((conv => arg 5; whnf); repeat (refine xS ?_; conv => arg 5; whnf)))
  have e1 : 0 + ((R.pos p : Nat) : Int).toNat + 1 + (R.P.length - ((R.pos p : Nat) : Int).toNat) ≤ maxLen := by simp only [maxLen]; omega
  have e2 : (0 + ((R.pos p : Nat) : Int).toNat + 1 + (R.P.length - ((R.pos p : Nat) : Int).toNat)) * 16 ≤ 140737488355328 := by omega
  (refine wP _ _ (append_op Tryz.T_ok rfl rfl rfl rfl rfl [57, 2] (old_vec rfl rfl (Nat.le_refl _) rfl) (new_vec rfl rfl (by omega) rfl) rfl (fun _ _ => rfl) e1 e2) ?_; ((conv => arg 5; whnf); repeat (refine xS ?_; conv => arg 5; whnf)))
  refine wN ⟨by omega, by omega⟩ ?_
  (refine wGo ?_; ((conv => arg 5; whnf); repeat (refine xS ?_; conv => arg 5; whnf)))
  have c2 : (0 + ((R.pos p : Nat) : Int).toNat) * 32 ≤ 140737488355328 := by omega
  have d2 : (0 + ((R.pos p : Nat) : Int).toNat + 1) * 32 ≤ 140737488355328 := by omega
  have f1 : 0 + ((R.pos p : Nat) : Int).toNat + 1 + (R.C.length - ((R.pos p : Nat) : Int).toNat) ≤ maxLen := by simp only [maxLen]; omega
  have f2 : (0 + ((R.pos p : Nat) : Int).toNat + 1 + (R.C.length - ((R.pos p : Nat) : Int).toNat)) * 32 ≤ 140737488355328 := by omega
  (refine wP _ _ (append_op Tryz.T_ok rfl rfl rfl rfl rfl [3] (old_nil rfl _ _ _ (fun _ => [])) (new_vec rfl rfl (by omega) rfl) rfl (fun _ _ => rfl) a1 c2) ?_; ((conv => arg 5; whnf); repeat (refine xS ?_; conv => arg 5; whnf)))
  (refine wP _ _ (append1_op Tryz.T_ok rfl rfl rfl rfl c.cells rfl rfl rfl (Nat.le_refl _) rfl rfl rfl rfl rfl b1 d2) ?_; ((conv => arg 5; whnf); repeat (refine xS ?_; conv => arg 5; whnf)))
  refine wN ⟨by omega, by omega⟩ ?_
  (refine wGo ?_; ((conv => arg 5; whnf); repeat (refine xS ?_; conv => arg 5; whnf)))
  (refine wP _ _ (append_op Tryz.T_ok rfl rfl rfl rfl rfl [78, 3] (old_vec rfl rfl (Nat.le_refl _) rfl) (new_vec rfl rfl (by omega) rfl) rfl (fun _ _ => rfl) f1 f2) ?_; ((conv => arg 5; whnf); repeat (refine xS ?_; conv => arg 5; whnf)))
  have hkC : R.pos p ≤ R.C.length := by omega
  refine wD (RC.ends (R.add1 p c) (.inr rfl) rfl rfl rfl rfl rfl ?_ ?_ ?_ ?_ ?_ ?_ ?_ ?_)
  · rw [hok]
  · rw [RC.add, if_pos hok]
  · simp only [RC.add1, List.length_append, List.length_take, List.length_cons, List.length_drop]; omega
  · simp only [RC.add1, List.length_append, List.length_take, List.length_cons, List.length_drop]; omega
  · simp only [RC.add1, List.length_append, List.length_take, List.length_cons, List.length_drop]; omega
  · simp only [RC.add1, List.length_append, List.length_take, List.length_cons, List.length_drop]; omega
  · intro i hi
    simp only [RC.add1, List.length_append, List.length_take, List.length_cons, List.length_drop] at hi
    exact insRowF Pt.cells default R.P (R.pos p) hpl p i (by omega)
  · intro i hi
    simp only [RC.add1, List.length_append, List.length_take, List.length_cons, List.length_drop] at hi
    exact insRowF Coin.cells default R.C (R.pos p) hkC c i (by omega)
end Go.Proofs.YtmoohekgheoliaaGreatDoor
namespace Go.Proofs.YtmoohekgheoliaaGreatDoor
set_option maxRecDepth 100000
open Go.Sx
def RC.spend1 (R : RC) (p : Pt) : RC := ⟨R.P.take (R.pos p) ++ R.P.drop (R.pos p + 1), R.C.take (R.pos p) ++ R.C.drop (R.pos p + 1)⟩
def RC.spend (R : RC) (p : Pt) : RC := if R.isAt p = true then R.spend1 p else R
def RC.get (R : RC) (p : Pt) : Coin := if R.isAt p = true then R.C.getD (R.pos p) default else coin0
end Go.Proofs.YtmoohekgheoliaaGreatDoor
namespace Go.Proofs.YtmoohekgheoliaaGreatDoor
set_option maxRecDepth 100000
open Go.Sx
theorem rmay_spec (n : Int) (M : Mem) (d : Nat) : CallSpec Tryz.prog 113 [.one (.raw (.int .i64 n))] M d { v := XV.bool (mayB n) } [] := by
  refine spec_pure Tryz.mixed Tryz.T_ok Tryz.func113 rfl _ _ rfl rfl (fun C _ => ?_) M d
  (refine wBegin ?_; ((conv => arg 5; whnf); repeat (refine xS ?_; conv => arg 5; whnf)))
  refine wC (fun h1 => ?_) (fun h1 => ?_)
  all_goals
    (refine wGo ?_; ((conv => arg 5; whnf); repeat (refine xS ?_; conv => arg 5; whnf)))
    refine Ends.plain (.inr rfl) rfl ?_
    simp [mayB, h1]
theorem mayB_iff {n : Int} : mayB n = true ↔ 0 ≤ n ∧ n ≤ 1125899906842624 := by rw [mayB, Bool.and_eq_true, decide_eq_true_eq, decide_eq_true_eq]
theorem bothB_sum {a b : Int} (ha : mayB a = true) (hb : mayB b = true) : bothB a b (IntKind.i64.wrap (a + b)) = !decide (IntKind.i64.wrap (1125899906842624 - b) < a) := by
  rw [bothB, ha, hb, Bool.true_and, Bool.true_and]
  rw [mayB_iff] at ha hb
  rw [wrap_i64 (n := 1125899906842624 - b) (by omega) (by omega), wrap_i64 (n := a + b) (by omega) (by omega), mayB]
  rw [Bool.eq_iff_iff]
  simp only [Bool.and_eq_true, decide_eq_true_eq, Bool.not_eq_true', decide_eq_false_iff_not]
  omega
theorem radd_spec (a b : Int) (M : Mem) (d : Nat) : CallSpec Tryz.prog 85 [.one (.raw (.int .i64 a)), .one (.raw (.int .i64 b))] M d { v := .tup (bothV a b (IntKind.i64.wrap (a + b))) } [] := by
  refine spec_pure Tryz.mixed Tryz.T_ok Tryz.func85 rfl _ _ rfl rfl (fun C _ => ?_) M d
  (refine wBegin ?_; ((conv => arg 5; whnf); repeat (refine xS ?_; conv => arg 5; whnf)))
  (apply wP; exact (call_op rfl (entersB_of Tryz.func113 (by kernel_rfl)) rfl (rmay_spec _ _ _)); ((conv => arg 5; whnf); repeat (refine xS ?_; conv => arg 5; whnf)))
  refine wC (fun h1 => ?_) (fun h1 => ?_)
  · have h1 : mayB a = false := by simpa using h1
    (refine wGo ?_; ((conv => arg 5; whnf); repeat (refine xS ?_; conv => arg 5; whnf)))
    refine Ends.plain (.inr rfl) rfl ?_
    rw [bothV_false (by rw [bothB, h1]; rfl)]
  · have h1 : mayB a = true := by simpa using h1
    (refine wGo ?_; ((conv => arg 5; whnf); repeat (refine xS ?_; conv => arg 5; whnf)))
    (apply wP; exact (call_op rfl (entersB_of Tryz.func113 (by kernel_rfl)) rfl (rmay_spec _ _ _)); ((conv => arg 5; whnf); repeat (refine xS ?_; conv => arg 5; whnf)))
    refine wC (fun h2 => ?_) (fun h2 => ?_)
    · have h2 : mayB b = false := by simpa using h2
      (refine wGo ?_; ((conv => arg 5; whnf); repeat (refine xS ?_; conv => arg 5; whnf)))
      refine Ends.plain (.inr rfl) rfl ?_
      rw [bothV_false (by rw [bothB, h1, h2]; rfl)]
    · have h2 : mayB b = true := by simpa using h2
      (refine wGo ?_; ((conv => arg 5; whnf); repeat (refine xS ?_; conv => arg 5; whnf)))
      have hb := bothB_sum h1 h2
      refine wC (fun h3 => ?_) (fun h3 => ?_)
      · (refine wGo ?_; ((conv => arg 5; whnf); repeat (refine xS ?_; conv => arg 5; whnf)))
        refine Ends.plain (.inr rfl) rfl ?_
        rw [bothV_false (by rw [hb, h3]; rfl)]
      · (refine wGo ?_; ((conv => arg 5; whnf); repeat (refine xS ?_; conv => arg 5; whnf)))
        refine Ends.plain (.inr rfl) rfl ?_
        rw [bothV_true (by rw [hb, h3]; rfl)]
theorem radd_true {a b : Int} (h : bothB a b (IntKind.i64.wrap (a + b)) = true) (M : Mem) (d : Nat) : CallSpec Tryz.prog 85 [.one (.raw (.int .i64 a)), .one (.raw (.int .i64 b))] M d { v := .tup [.one (.raw (.int .i64 (IntKind.i64.wrap (a + b)))), .one (.raw (.bool true))] } [] := bothV_true h ▸ radd_spec a b M d
theorem radd_false {a b : Int} (h : bothB a b (IntKind.i64.wrap (a + b)) = false) (M : Mem) (d : Nat) : CallSpec Tryz.prog 85 [.one (.raw (.int .i64 a)), .one (.raw (.int .i64 b))] M d { v := .tup [.one (.raw (.int .i64 0)), .one (.raw (.bool false))] } [] := bothV_false h ▸ radd_spec a b M d
structure RSum (l : List Int) where
  i : Nat
  acc : Int
  ok : Bool
  le : i ≤ l.length
  good : ok = true → sumM 0 l = sumM acc (l.drop i)
  bad : ok = false → sumM 0 l = none ∧ acc = 0
def rsumSt (l : List Int) (i : Nat) (acc : Int) (ok : Bool) : St := ⟨[some (XV.sv (.slc 0 1 0 l.length)), none, none, none, some (XV.int .i64 acc), some (XV.bool ok), some (XV.int .i64 i)] ++ List.replicate 20 none, [(0, .ro 1 l.length (amtsF l))], 1⟩
set_option maxHeartbeats 2000000 in
theorem rmsum_can (l : List Int) (hl : l.length ≤ 2000000000) : Reads Tryz.prog 44 [.row 1 l.length (amtsF l)] [] (sumX l) := by
  refine Reads.of Tryz.T_ok Tryz.func44 rfl _ _ _ rfl rfl (fun C hC => ?_)
  (replace hC : C.n0 = 1 := hC; change Tri _ _ _ ⟨_, _, 1⟩ _)
  (refine Tri.cut 2 Tryz.mixed Tryz.T_ok ?_; ((conv => arg 5; whnf); repeat (refine xS ?_; conv => arg 5; whnf)))
  refine wD <| cutG <| Tri.seq ?_
  (refine Tri.cut 1 Tryz.mixed Tryz.T_ok ?_; ((conv => arg 5; whnf); repeat (refine xS ?_; conv => arg 5; whnf)))
  refine wD <| cutG <| Tri.block ?_
  refine Tri.loop (α := RSum l) (fun x => rsumSt l x.i x.acc x.ok) (fun x => l.length - x.i) ⟨0, 0, true, Nat.zero_le _, fun _ => by rw [List.drop_zero], fun h => by cases h⟩ ?_ ?_
  · ((try dsimp only); refine Ent.renC [0] hC ?_ ?_ <;> repeat' (first | exact trivial | exact rfl | exact ⟨_, rfl, rfl, rfl, Nat.le_refl _, fun _ _ => rfl⟩ | exact ⟨_, rfl, rfl, rfl, fun _ _ => rfl⟩ | exact ⟨_, rfl, rfl, rfl⟩ | exact ⟨_, rfl, rfl⟩ | refine ⟨_, rfl, rfl, rfl, by omega, fun k hk => ?_⟩ | refine ⟨?_, ?_⟩ | fail))
  rintro ⟨i, acc, ok, hi, hg, hb⟩
  unfold rsumSt
  dsimp only
  (refine Tri.cut 1 Tryz.mixed Tryz.T_ok ?_; ((conv => arg 5; whnf); repeat (refine xS ?_; conv => arg 5; whnf)))
  refine wC (fun h1 => ?_) (fun h1 => ?_)
  · (refine wGo ?_; ((conv => arg 5; whnf); repeat (refine xS ?_; conv => arg 5; whnf)))
    have h1' : i < l.length := (by (try simp only [ww] at *); omega)
    have hw : IntKind.i64.wrap ((i : Int) + 1) = ((i + 1 : Nat) : Int) := (by (try simp only [ww] at *); omega)
    refine wC (fun h2 => ?_) (fun h2 => ?_)
    · have hs := hg h2
      rw [drop_cons h1', sumM] at hs
      (refine wGo ?_; ((conv => arg 5; whnf); repeat (refine xS ?_; conv => arg 5; whnf)))
      refine wD <| cutG <| Tri.seq <| Tri.block <| Tri.of Tryz.mixed Tryz.T_ok ?_
      (refine wBegin ?_; ((conv => arg 5; whnf); repeat (refine xS ?_; conv => arg 5; whnf)))
      (repeat (refine wN ?_ ?_; exact (by (try simp only [ww] at *); omega); refine wGo ?_; ((conv => arg 5; whnf); repeat (refine xS ?_; conv => arg 5; whnf))))
      simp only [Nat.zero_add, Int.toNat_natCast]
      cases h3 : bothB acc (l.getD i 0) (IntKind.i64.wrap (acc + l.getD i 0)) with
      | true =>
        rw [h3, if_pos rfl] at hs
        (apply wP; exact (call_op rfl (entersB_of Tryz.func85 (by kernel_rfl)) rfl (radd_true h3 _ _)); ((conv => arg 5; whnf); repeat (refine xS ?_; conv => arg 5; whnf)))
        refine wD <| blockN <| cutG <| Tri.of Tryz.mixed Tryz.T_ok ?_
        (refine wBegin ?_; ((conv => arg 5; whnf); repeat (refine xS ?_; conv => arg 5; whnf)))
        refine wD <| loopN ⟨⟨i + 1, IntKind.i64.wrap (acc + l.getD i 0), true, h1', fun _ => hs, fun h => by cases h⟩, by dsimp only; omega, ?_⟩
        rw [hw]
        ((try dsimp only); refine Ent.renC [0] hC ?_ ?_ <;> repeat' (first | exact trivial | exact rfl | exact ⟨_, rfl, rfl, rfl, Nat.le_refl _, fun _ _ => rfl⟩ | exact ⟨_, rfl, rfl, rfl, fun _ _ => rfl⟩ | exact ⟨_, rfl, rfl, rfl⟩ | exact ⟨_, rfl, rfl⟩ | refine ⟨_, rfl, rfl, rfl, by omega, fun k hk => ?_⟩ | refine ⟨?_, ?_⟩ | fail))
      | false =>
        rw [h3, if_neg (by simp)] at hs
        (apply wP; exact (call_op rfl (entersB_of Tryz.func85 (by kernel_rfl)) rfl (radd_false h3 _ _)); ((conv => arg 5; whnf); repeat (refine xS ?_; conv => arg 5; whnf)))
        refine wD <| blockN <| cutG <| Tri.of Tryz.mixed Tryz.T_ok ?_
        (refine wBegin ?_; ((conv => arg 5; whnf); repeat (refine xS ?_; conv => arg 5; whnf)))
        refine wD <| loopN ⟨⟨i + 1, 0, false, h1', fun h => (by cases h), fun _ => ⟨hs, rfl⟩⟩, by dsimp only; omega, ?_⟩
        rw [hw]
        ((try dsimp only); refine Ent.renC [0] hC ?_ ?_ <;> repeat' (first | exact trivial | exact rfl | exact ⟨_, rfl, rfl, rfl, Nat.le_refl _, fun _ _ => rfl⟩ | exact ⟨_, rfl, rfl, rfl, fun _ _ => rfl⟩ | exact ⟨_, rfl, rfl, rfl⟩ | exact ⟨_, rfl, rfl⟩ | refine ⟨_, rfl, rfl, rfl, by omega, fun k hk => ?_⟩ | refine ⟨?_, ?_⟩ | fail))
    · (refine wGo ?_; ((conv => arg 5; whnf); repeat (refine xS ?_; conv => arg 5; whnf)))
      obtain ⟨hs, rfl⟩ := hb h2
      refine wD <| cutE <| loopX <| blockX <| cutG <| Tri.of Tryz.mixed Tryz.T_ok ?_
      (refine wBegin ?_; ((conv => arg 5; whnf); repeat (refine xS ?_; conv => arg 5; whnf)))
      refine wD (Ends.plain (.inr rfl) rfl ?_)
      rw [sumX, hs, h2]; rfl
  · (refine wGo ?_; ((conv => arg 5; whnf); repeat (refine xS ?_; conv => arg 5; whnf)))
    have h1' : i = l.length := (by (try simp only [ww] at *); omega)
    refine wD <| cutE <| loopX <| blockX <| cutG <| Tri.of Tryz.mixed Tryz.T_ok ?_
    (refine wBegin ?_; ((conv => arg 5; whnf); repeat (refine xS ?_; conv => arg 5; whnf)))
    refine wD (Ends.plain (.inr rfl) rfl ?_)
    cases ok with
    | true =>
      have hs := hg rfl
      rw [h1', List.drop_length, sumM] at hs
      rw [sumX, hs]; rfl
    | false =>
      obtain ⟨hs, rfl⟩ := hb rfl
      rw [sumX, hs]; rfl
set_option maxHeartbeats 2000000 in
theorem rcGet_spec (R : RC) (p : Pt) (hPC : R.P.length = R.C.length) (hlen : R.P.length < 1000000) {M : Mem} {c0 d : Nat} (hM : M.get c0 = some (.abs (rcP R))) (hd : Nat.beq d c0 = false) : CallSpec Tryz.prog 42 [.one (.ptr c0 0 0 0), p.cv] M d { v := .tup [(R.get p).cv, .one (.raw (.bool (R.isAt p)))], upd := [(c0, .abs (rcP R))], wr := [c0] } [c0] := by
  refine spec_obj Tryz.T_ok Tryz.func42 rfl [p.cv] (.tup [(R.get p).cv, .one (.raw (.bool (R.isAt p)))]) rfl rfl hM hd (fun C _ => ?_)
  refine RC.opens R 0 rfl ?_
  have hpl : R.pos p ≤ R.P.length := posIn_le p R.P
  (refine Tri.cut 3 Tryz.mixed Tryz.T_ok ?_; ((conv => arg 5; whnf); repeat (refine xS ?_; conv => arg 5; whnf)))
  (apply wP; exact (call_op rfl (entersB_of Tryz.func54 (by kernel_rfl)) rfl (rcAt_spec R p hlen rfl rfl rfl rfl rfl)); ((conv => arg 5; whnf); repeat (refine xS ?_; conv => arg 5; whnf)))
  refine wC (fun h1 => ?_) (fun h1 => ?_)
  · (refine wGo ?_; ((conv => arg 5; whnf); repeat (refine xS ?_; conv => arg 5; whnf)))
    simp only [Bool.not_eq_true'] at h1
    refine wD <| cutR (RC.ends R (.inr rfl) rfl rfl rfl rfl rfl ?_ rfl rfl rfl (Nat.le_refl _) (Nat.le_refl _) (fun _ _ => rfl) (fun _ _ => rfl))
    simp only [RC.get, h1]; rfl
  (refine wGo ?_; ((conv => arg 5; whnf); repeat (refine xS ?_; conv => arg 5; whnf)))
  simp only [Bool.not_eq_false'] at h1
  have hlt : R.pos p < R.P.length := by
    simp only [RC.isAt, Bool.and_eq_true, decide_eq_true_eq] at h1
    exact h1.1
  have hltC : R.pos p < R.C.length := by omega
  refine wD <| cutG <| Tri.of Tryz.mixed Tryz.T_ok ?_
  (refine wBegin ?_; ((conv => arg 5; whnf); repeat (refine xS ?_; conv => arg 5; whnf)))
  (repeat (refine wN ?_ ?_; exact (by (try simp only [ww] at *); omega); refine wGo ?_; ((conv => arg 5; whnf); repeat (refine xS ?_; conv => arg 5; whnf))))
  refine wD (RC.ends R (.inr rfl) rfl rfl rfl rfl rfl ?_ rfl rfl rfl (Nat.le_refl _) (Nat.le_refl _) (fun _ _ => rfl) (fun _ _ => rfl))
  have h0 : 0 + ((R.pos p : Nat) : Int).toNat = R.pos p := by omega
  simp only [RC.get, h1, if_true, h0]; rfl
end Go.Proofs.YtmoohekgheoliaaGreatDoor

/- Parts Tn To Ra Rb Rc. -/
import Derived.Test.YtmoohekgheoliaaGreatDoorG20
set_option linter.unusedSimpArgs false
set_option linter.unusedVariables false
namespace Go.Proofs.YtmoohekgheoliaaGreatDoor
set_option maxRecDepth 100000
open Go.Sx
def ptAt (id : H8) (i : Nat) : Pt := ⟨id, Int64.ofNat i⟩
def outsGo (id : H8) (h : Int64) (base : Bool) : USet → Nat → List OutM → USet × Int
  | S, _, [] => (S, 0)
  | S, i, o :: r => if S.has (ptAt id i) = true then (S, 6) else if S.okB (ptAt id i) ⟨o.to, o.amt, h, base⟩ = true then outsGo id h base (S.add1 (ptAt id i) ⟨o.to, o.amt, h, base⟩) (i + 1) r else (S, 5)
theorem dropD_cons {E : Type} [Inhabited E] {l : List E} {i : Nat} (hi : i < l.length) : l.drop i = l.getD i default :: l.drop (i + 1) := by
  rw [List.drop_eq_getElem_cons hi, List.getD_eq_getElem?_getD, List.getElem?_eq_getElem hi]; rfl
theorem ofNat_toInt {i : Nat} (h : i < 1000000) : ((i : Nat) : Int) = (Int64.ofNat i).toInt := by
  rw [Int64.toInt_ofNat_of_lt (by omega)]
structure OutsI (id : H8) (h : Int64) (base : Bool) (S : USet) (l : List OutM) where
  i : Nat
  W : USet
  le : i ≤ l.length
  go : outsGo id h base S 0 l = outsGo id h base W i (l.drop i)
  steps : W.steps.length = S.steps.length + i
set_option maxHeartbeats 2000000 in
theorem outs_can (S : USet) (id : H8) (l : List OutM) (h : Int64) (base : Bool) (hl : l.length ≤ 1000) (hS : S.steps.length < 900000) :
    Acts Tryz.prog 22 (.abs (usetP S)) (.abs (usetP (outsGo id h base S 0 l).1)) [.plain id.x, .row 9 l.length (outsF l), .plain (.one (.raw (.int .i64 h.toInt))), .plain (.one (.raw (.bool base)))] [] (XV.int .i64 (outsGo id h base S 0 l).2) := by
  refine Acts.of Tryz.T_ok Tryz.func22 rfl _ _ _ _ _ rfl rfl rfl (fun C hC => ?_)
  (replace hC : C.n0 = 5 := hC; change Tri _ _ _ ⟨_, _, 5⟩ _)
  (refine Tri.cut 2 Tryz.mixed Tryz.T_ok ?_; ((conv => arg 5; whnf); repeat (refine xS ?_; conv => arg 5; whnf)))
  refine wD <| cutG <| Tri.seq ?_
  (refine Tri.cut 1 Tryz.mixed Tryz.T_ok ?_; ((conv => arg 5; whnf); repeat (refine xS ?_; conv => arg 5; whnf)))
  refine wD <| cutG <| Tri.block ?_
  refine Tri.loop (α := OutsI id h base S l) (fun x => ⟨[some (XV.sv (.ptr 0 0 0 0)), none, none, some (XV.int .i64 h.toInt), some (XV.bool base), none, some (XV.sv (.ptr 5 0 0 0))] ++ List.replicate 11 none ++ [some (XV.sv (.slc 2 9 0 l.length)), some (XV.int .i64 l.length), some (XV.int .i64 x.i)] ++ List.replicate 23 none, [(0, .abs (usetP x.W)), (2, .ro 9 l.length (outsF l)), (5, .cells 39 (id.cells.map .raw))], 6⟩) (fun x => l.length - x.i) ⟨0, S, Nat.zero_le _, by rw [List.drop_zero], rfl⟩ ?_ ?_
  · ((try dsimp only); refine Ent.renC [0, 1, 2, 3, 4, 5] hC ?_ ?_ <;> repeat' (first | exact trivial | exact rfl | exact ⟨_, rfl, rfl, rfl, Nat.le_refl _, fun _ _ => rfl⟩ | exact ⟨_, rfl, rfl, rfl, fun _ _ => rfl⟩ | exact ⟨_, rfl, rfl, rfl⟩ | exact ⟨_, rfl, rfl⟩ | refine ⟨_, rfl, rfl, rfl, by omega, fun k hk => ?_⟩ | refine ⟨?_, ?_⟩ | fail))
  rintro ⟨i, W, hi, hg, hst⟩
  dsimp only
  (refine Tri.cut 2 Tryz.mixed Tryz.T_ok ?_; ((conv => arg 5; whnf); repeat (refine xS ?_; conv => arg 5; whnf)))
  refine wC (fun h1 => ?_) (fun h1 => ?_)
  · (refine wGo ?_; ((conv => arg 5; whnf); repeat (refine xS ?_; conv => arg 5; whnf)))
    have h1' : i < l.length := (by (try simp only [ww] at *); omega)
    have hw : IntKind.i64.wrap ((i : Int) + 1) = ((i + 1 : Nat) : Int) := (by (try simp only [ww] at *); omega)
    have e64 := ofNat_toInt (i := i) (by omega)
    rw [dropD_cons h1', outsGo] at hg
    refine wD <| cutG <| Tri.seq <| Tri.block <| Tri.of Tryz.mixed Tryz.T_ok ?_
    (refine wBegin ?_; ((conv => arg 5; whnf); repeat (refine xS ?_; conv => arg 5; whnf)))
    (repeat (refine wN ?_ ?_; exact (by (try simp only [ww] at *); omega); refine wGo ?_; ((conv => arg 5; whnf); repeat (refine xS ?_; conv => arg 5; whnf))))
    simp only [Nat.zero_add, Int.toNat_natCast]
    rw [e64]
    (apply wP; exact (call_op rfl (entersB_of Tryz.func16 (by kernel_rfl)) rfl (get_spec W (ptAt id i) rfl rfl)); ((conv => arg 5; whnf); repeat (refine xS ?_; conv => arg 5; whnf)))
    refine wC (fun h2 => ?_) (fun h2 => ?_)
    · rw [if_pos h2] at hg
      (refine wGo ?_; ((conv => arg 5; whnf); repeat (refine xS ?_; conv => arg 5; whnf)))
      refine wD <| blockR <| cutR <| loopR <| blockR <| cutR ?_
      rw [hg]
      exact Ends.shutN (.inr rfl) (Ent.refl _) rfl rfl rfl
    · rw [if_neg (by rw [h2]; simp)] at hg
      (refine wGo ?_; ((conv => arg 5; whnf); repeat (refine xS ?_; conv => arg 5; whnf)))
      (apply wP; exact (call_op rfl (entersB_of Tryz.func29 (by kernel_rfl)) rfl (uadd_spec W (ptAt id i) ⟨(l.getD i default).to, (l.getD i default).amt, h, base⟩ (by omega) rfl rfl)); ((conv => arg 5; whnf); repeat (refine xS ?_; conv => arg 5; whnf)))
      refine wC (fun h3 => ?_) (fun h3 => ?_)
      · have h3 : W.okB (ptAt id i) ⟨(l.getD i default).to, (l.getD i default).amt, h, base⟩ = false := by simpa using h3
        rw [if_neg (by rw [h3]; simp)] at hg
        (refine wGo ?_; ((conv => arg 5; whnf); repeat (refine xS ?_; conv => arg 5; whnf)))
        refine wD <| blockR <| cutR <| loopR <| blockR <| cutR ?_
        rw [hg, USet.add, if_neg (by rw [h3]; simp)]
        exact Ends.shutN (.inr rfl) (Ent.refl _) rfl rfl rfl
      · have h3 : W.okB (ptAt id i) ⟨(l.getD i default).to, (l.getD i default).amt, h, base⟩ = true := by simpa using h3
        rw [if_pos h3] at hg
        (refine wGo ?_; ((conv => arg 5; whnf); repeat (refine xS ?_; conv => arg 5; whnf)))
        refine wD <| blockN <| cutG <| Tri.of Tryz.mixed Tryz.T_ok ?_
        (refine wBegin ?_; ((conv => arg 5; whnf); repeat (refine xS ?_; conv => arg 5; whnf)))
        refine wD <| loopN ⟨⟨i + 1, W.add1 (ptAt id i) ⟨(l.getD i default).to, (l.getD i default).amt, h, base⟩, h1', hg, by simp only [USet.add1, List.length_append, List.length_singleton]; omega⟩, by dsimp only; omega, ?_⟩
        rw [← e64, hw, USet.add, if_pos h3]
        ((try dsimp only); refine Ent.renC [0, 1, 2, 3, 4, 5] hC ?_ ?_ <;> repeat' (first | exact trivial | exact rfl | exact ⟨_, rfl, rfl, rfl, Nat.le_refl _, fun _ _ => rfl⟩ | exact ⟨_, rfl, rfl, rfl, fun _ _ => rfl⟩ | exact ⟨_, rfl, rfl, rfl⟩ | exact ⟨_, rfl, rfl⟩ | refine ⟨_, rfl, rfl, rfl, by omega, fun k hk => ?_⟩ | refine ⟨?_, ?_⟩ | fail))
  · (refine wGo ?_; ((conv => arg 5; whnf); repeat (refine xS ?_; conv => arg 5; whnf)))
    have h1' : i = l.length := (by (try simp only [ww] at *); omega)
    subst h1'
    rw [List.drop_length, outsGo] at hg
    refine wD <| cutE <| loopX <| blockX <| cutG <| Tri.of Tryz.mixed Tryz.T_ok ?_
    rw [hg]
    (refine wBegin ?_; ((conv => arg 5; whnf); repeat (refine xS ?_; conv => arg 5; whnf)))
    exact wD (Ends.shutN (.inr rfl) (Ent.refl _) rfl rfl rfl)
end Go.Proofs.YtmoohekgheoliaaGreatDoor
namespace Go.Proofs.YtmoohekgheoliaaGreatDoor
set_option maxRecDepth 100000
open Go.Sx
theorem pay_bad (S : USet) (t : TxM) (h : Int) (hk : t.kind = 2) (hs : Sized t) (hc : t.claim.Wf) (hm : mayPay t hc = false) :
    Acts Tryz.prog 18 (.abs (usetP S)) (.abs (usetP S)) [.box t.ac, .plain (.one (.raw (.int .i64 h)))] [stepsP] (intsX (0, 4)) := by
  have hmay := may_false hk hs hc hm
  refine Acts.of Tryz.T_ok Tryz.func18 rfl _ _ _ _ _ rfl rfl rfl (fun C hC => ?_)
  (replace hC : C.n0 = 9 := hC; change Tri _ _ _ ⟨_, _, 9⟩ _)
  refine Tri.of Tryz.mixed Tryz.T_ok ?_
  (refine wBegin ?_; ((conv => arg 5; whnf); repeat (refine xS ?_; conv => arg 5; whnf)))
  (refine wFd ?_ ?_; (first | refine decide_eq_false ?_ | rw [beq_eq_false_iff_ne] | rw [bne_eq_false_iff_eq]); exact (by (try simp only [ww] at *); omega); refine wGo ?_; ((conv => arg 5; whnf); repeat (refine xS ?_; conv => arg 5; whnf)))
  (apply wP; exact (call_op rfl (entersB_of Tryz.func36 (by kernel_rfl)) rfl (hmay.at [1, 2, 3, 4, 5, 6] ⟨lend_tx (t := t) (lend_ro0 rfl rfl) (lend_ro0 rfl rfl) (lend_ro0 rfl rfl) (lend_ro0 rfl rfl) (lend_ro0 rfl rfl) (lend_ro0 rfl rfl), trivial⟩ trivial)); ((conv => arg 5; whnf); repeat (refine xS ?_; conv => arg 5; whnf)))
  exact wD (Ends.shutN (.inr rfl) (Ent.refl _) rfl rfl rfl)
theorem do_bad (S : USet) (t : TxM) (h : Int) (hk : t.kind = 2) (hs : Sized t) (hc : t.claim.Wf) (hm : mayPay t hc = false) :
    Acts Tryz.prog 14 (.abs (usetP S)) (.abs (usetP S)) [.box t.ac, .plain (.one (.raw (.int .i64 h)))] [stepsP] (intsX (0, 4)) := by
  refine Acts.of Tryz.T_ok Tryz.func14 rfl _ _ _ _ _ rfl rfl rfl (fun C hC => ?_)
  (replace hC : C.n0 = 9 := hC; change Tri _ _ _ ⟨_, _, 9⟩ _)
  refine Tri.of Tryz.mixed Tryz.T_ok ?_
  (refine wBegin ?_; ((conv => arg 5; whnf); repeat (refine xS ?_; conv => arg 5; whnf)))
  (apply wP; exact (call_op rfl (entersB_of Tryz.func18 (by kernel_rfl)) rfl ((pay_bad S t h hk hs hc hm).at [1, 2, 3, 4, 5, 6, 8] rfl rfl rfl ⟨lend_tx (t := t) (lend_ro0 rfl rfl) (lend_ro0 rfl rfl) (lend_ro0 rfl rfl) (lend_ro0 rfl rfl) (lend_ro0 rfl rfl) (lend_ro0 rfl rfl), lend_plain rfl, trivial⟩ ⟨lend_ext (c := 8) rfl rfl, trivial⟩)); ((conv => arg 5; whnf); repeat (refine xS ?_; conv => arg 5; whnf)))
  exact wD (Ends.shutN (.inr rfl) (Ent.refl _) rfl rfl rfl)
def spendAll (S : USet) (l : List InM) : USet := l.foldl (fun W x => W.spend x.pt) S
theorem spendAll_snoc (S : USet) (l : List InM) (x : InM) : spendAll S (l ++ [x]) = (spendAll S l).spend x.pt := by simp [spendAll]
theorem take_snoc {E : Type} [Inhabited E] {l : List E} {i : Nat} (hi : i < l.length) : l.take (i + 1) = l.take i ++ [l.getD i default] := by
  rw [List.take_add_one]
  congr 1
  rw [List.getElem?_eq_getElem hi, List.getD_eq_getElem?_getD, List.getElem?_eq_getElem hi]; rfl
theorem spend_steps (S : USet) (p : Pt) : (S.spend p).steps.length ≤ S.steps.length + 1 := by
  unfold USet.spend
  split
  · simp [USet.spend1]
  · omega
theorem spendAll_steps : ∀ (S : USet) (l : List InM), (spendAll S l).steps.length ≤ S.steps.length + l.length
  | _, [] => Nat.le_refl _
  | S, x :: l => by
    have h1 := spend_steps S x.pt
    have h2 := spendAll_steps (S.spend x.pt) l
    show (spendAll (S.spend x.pt) l).steps.length ≤ _
    simp only [List.length_cons]
    omega
def payID (t : TxM) : H8 := dig 120 [payEnc t]
def doE (S : USet) (t : TxM) (h : Int64) : USet × (Int × Int) :=
  if (payE S t h.toInt).2 = 0 then
    (if (outsGo (payID t) h false (spendAll S t.ins) 0 t.outs).2 = 0 then ((outsGo (payID t) h false (spendAll S t.ins) 0 t.outs).1, ((payE S t h.toInt).1, 0)) else ((outsGo (payID t) h false (spendAll S t.ins) 0 t.outs).1, (0, (outsGo (payID t) h false (spendAll S t.ins) 0 t.outs).2)))
  else (S, (0, (payE S t h.toInt).2))
set_option maxHeartbeats 4000000 in
theorem do_can (S : USet) (t : TxM) (h : Int64) (hk : t.kind = 2) (hs : Sized t) (hc : t.claim.Wf) (hm : mayPay t hc = true) (hS : S.steps.length < 800000) :
    Acts Tryz.prog 14 (.abs (usetP S)) (.abs (usetP (doE S t h).1)) [.box t.ac, .plain (.one (.raw (.int .i64 h.toInt)))] [stepsP] (intsX (doE S t h).2) := by
  have hpB := (mayPay_iff.1 hm).1
  rw [payB, Bool.and_eq_true, Bool.and_eq_true, insOK, Bool.and_eq_true, within_iff, outsOK, Bool.and_eq_true, decide_eq_true_eq] at hpB
  obtain ⟨⟨_, hins⟩, ⟨_, houts⟩, _⟩ := hpB
  have hpay := pay_can S t h.toInt hk hs hc hm
  obtain ⟨P, hP⟩ : ∃ P, payE S t h.toInt = P := ⟨_, rfl⟩
  rw [hP] at hpay
  refine Acts.of Tryz.T_ok Tryz.func14 rfl _ _ _ _ _ rfl rfl rfl (fun C hC => ?_)
  (replace hC : C.n0 = 9 := hC; change Tri _ _ _ ⟨_, _, 9⟩ _)
  (refine Tri.cut 3 Tryz.mixed Tryz.T_ok ?_; ((conv => arg 5; whnf); repeat (refine xS ?_; conv => arg 5; whnf)))
  (apply wP; exact (call_op rfl (entersB_of Tryz.func18 (by kernel_rfl)) rfl (hpay.at [1, 2, 3, 4, 5, 6, 8] rfl rfl rfl ⟨lend_tx (t := t) (lend_ro0 rfl rfl) (lend_ro0 rfl rfl) (lend_ro0 rfl rfl) (lend_ro0 rfl rfl) (lend_ro0 rfl rfl) (lend_ro0 rfl rfl), lend_plain rfl, trivial⟩ ⟨lend_ext (c := 8) rfl rfl, trivial⟩)); ((conv => arg 5; whnf); repeat (refine xS ?_; conv => arg 5; whnf)))
  refine wC (fun h1 => ?_) (fun h1 => ?_)
  · have h1' : ¬ P.2 = 0 := by simpa using h1
    (refine wGo ?_; ((conv => arg 5; whnf); repeat (refine xS ?_; conv => arg 5; whnf)))
    refine wD <| cutR ?_
    rw [doE, if_neg (by rw [hP]; exact h1'), hP]
    exact Ends.shutN (.inr rfl) (Ent.refl _) rfl rfl rfl
  · have h1' : P.2 = 0 := by simpa using h1
    obtain ⟨O, hO⟩ : ∃ O, outsGo (payID t) h false (spendAll S t.ins) 0 t.outs = O := ⟨_, rfl⟩
    have hst := spendAll_steps S t.ins
    have hout := outs_can (spendAll S t.ins) (payID t) t.outs h false (by omega) (by omega)
    rw [hO] at hout
    rw [doE, if_pos (by rw [hP]; exact h1'), hO, hP]
    (refine wGo ?_; ((conv => arg 5; whnf); repeat (refine xS ?_; conv => arg 5; whnf)))
    refine wD <| cutG <| Tri.seq ?_
    (refine Tri.cut 1 Tryz.mixed Tryz.T_ok ?_; ((conv => arg 5; whnf); repeat (refine xS ?_; conv => arg 5; whnf)))
    refine wD <| cutG <| Tri.block ?_
    refine Tri.loop (α := { i : Nat // i ≤ t.ins.length }) (fun i => ⟨[some (XV.sv (.ptr 0 0 0 0)), none, some (XV.int .i64 h.toInt), none, some (XV.sv (.ptr 9 0 0 0)), none, none, none, some (XV.int .i64 P.1)] ++ List.replicate 17 none ++ [some (XV.sv (.slc 1 298 0 t.ins.length)), some (XV.int .i64 t.ins.length), some (XV.int .i64 i.1)] ++ List.replicate 23 none, (0, .abs (usetP (spendAll S (t.ins.take i.1)))) :: (txRows t ++ [(8, .ext stepsP), (9, .cells 49 (boxC 1 t.ac))]), 10⟩) (fun i => t.ins.length - i.1) ⟨0, Nat.zero_le _⟩ ?_ ?_
    · ((try dsimp only); refine Ent.renC [0, 1, 2, 3, 4, 5, 6, 7, 8, 9] hC ?_ ?_ <;> repeat' (first | exact trivial | exact rfl | exact ⟨_, rfl, rfl, rfl, Nat.le_refl _, fun _ _ => rfl⟩ | exact ⟨_, rfl, rfl, rfl, fun _ _ => rfl⟩ | exact ⟨_, rfl, rfl, rfl⟩ | exact ⟨_, rfl, rfl⟩ | refine ⟨_, rfl, rfl, rfl, by omega, fun k hk => ?_⟩ | refine ⟨?_, ?_⟩ | fail))
    rintro ⟨i, hi⟩
    dsimp only
    (refine Tri.cut 2 Tryz.mixed Tryz.T_ok ?_; ((conv => arg 5; whnf); repeat (refine xS ?_; conv => arg 5; whnf)))
    refine wC (fun h2 => ?_) (fun h2 => ?_)
    · (refine wGo ?_; ((conv => arg 5; whnf); repeat (refine xS ?_; conv => arg 5; whnf)))
      have h2' : i < t.ins.length := (by (try simp only [ww] at *); omega)
      have hw : IntKind.i64.wrap ((i : Int) + 1) = ((i + 1 : Nat) : Int) := (by (try simp only [ww] at *); omega)
      have hst2 := spendAll_steps S (t.ins.take i)
      rw [List.length_take] at hst2
      refine wD <| cutG <| Tri.seq <| Tri.block <| Tri.of Tryz.mixed Tryz.T_ok ?_
      (refine wBegin ?_; ((conv => arg 5; whnf); repeat (refine xS ?_; conv => arg 5; whnf)))
      (repeat (refine wN ?_ ?_; exact (by (try simp only [ww] at *); omega); refine wGo ?_; ((conv => arg 5; whnf); repeat (refine xS ?_; conv => arg 5; whnf))))
      simp only [Nat.zero_add, Int.toNat_natCast]
      (apply wP; exact (call_op rfl (entersB_of Tryz.func32 (by kernel_rfl)) rfl (spend_spec (spendAll S (t.ins.take i)) (t.ins.getD i default).pt (by omega) rfl rfl)); ((conv => arg 5; whnf); repeat (refine xS ?_; conv => arg 5; whnf)))
      refine wD <| blockN <| cutG <| Tri.of Tryz.mixed Tryz.T_ok ?_
      (refine wBegin ?_; ((conv => arg 5; whnf); repeat (refine xS ?_; conv => arg 5; whnf)))
      refine wD <| loopN ⟨⟨i + 1, h2'⟩, by dsimp only; omega, ?_⟩
      rw [hw]
      dsimp only
      rw [take_snoc h2', spendAll_snoc]
      ((try dsimp only); refine Ent.renC [0, 1, 2, 3, 4, 5, 6, 7, 8, 9] hC ?_ ?_ <;> repeat' (first | exact trivial | exact rfl | exact ⟨_, rfl, rfl, rfl, Nat.le_refl _, fun _ _ => rfl⟩ | exact ⟨_, rfl, rfl, rfl, fun _ _ => rfl⟩ | exact ⟨_, rfl, rfl, rfl⟩ | exact ⟨_, rfl, rfl⟩ | refine ⟨_, rfl, rfl, rfl, by omega, fun k hk => ?_⟩ | refine ⟨?_, ?_⟩ | fail))
    · (refine wGo ?_; ((conv => arg 5; whnf); repeat (refine xS ?_; conv => arg 5; whnf)))
      have h2' : i = t.ins.length := (by (try simp only [ww] at *); omega)
      subst h2'
      rw [List.take_length]
      refine wD <| cutE <| loopX <| blockX <| cutG <| Tri.of Tryz.mixed Tryz.T_ok ?_
      (refine wBegin ?_; ((conv => arg 5; whnf); repeat (refine xS ?_; conv => arg 5; whnf)))
      (apply wP; exact (call_op rfl (entersB_of Tryz.func33 (by kernel_rfl)) rfl ((id_pay t hk hs hc hm).at [1, 2, 3, 4, 5, 6, 8] ⟨lend_tx (t := t) (lend_ro0 rfl rfl) (lend_ro0 rfl rfl) (lend_ro0 rfl rfl) (lend_ro0 rfl rfl) (lend_ro0 rfl rfl) (lend_ro0 rfl rfl), trivial⟩ ⟨lend_ext (c := 8) rfl rfl, trivial⟩)); ((conv => arg 5; whnf); repeat (refine xS ?_; conv => arg 5; whnf)))
      (apply wP; exact (call_op rfl (entersB_of Tryz.func22 (by kernel_rfl)) rfl (hout.at [2] rfl rfl rfl ⟨lend_plain rfl, lend_ro0 rfl rfl, lend_plain rfl, lend_plain rfl, trivial⟩ trivial)); ((conv => arg 5; whnf); repeat (refine xS ?_; conv => arg 5; whnf)))
      refine wC (fun h3 => ?_) (fun h3 => ?_)
      · have h3' : ¬ O.2 = 0 := by simpa using h3
        (refine wGo ?_; ((conv => arg 5; whnf); repeat (refine xS ?_; conv => arg 5; whnf)))
        rw [if_neg h3']
        exact wD (Ends.shutN (.inr rfl) (Ent.refl _) rfl rfl rfl)
      · have h3' : O.2 = 0 := by simpa using h3
        (refine wGo ?_; ((conv => arg 5; whnf); repeat (refine xS ?_; conv => arg 5; whnf)))
        rw [if_pos h3']
        exact wD (Ends.shutN (.inr rfl) (Ent.refl _) rfl rfl rfl)
end Go.Proofs.YtmoohekgheoliaaGreatDoor
namespace Go.Proofs.YtmoohekgheoliaaGreatDoor
set_option maxRecDepth 100000
open Go.Sx
def FwdM.x (f : FwdM) : CV := .agg (f.cells.map .raw)
theorem dec_lt {a b c : Int} (h : b = c + 1) : decide (a < b) = decide (a ≤ c) := by rw [Bool.eq_iff_iff, decide_eq_true_eq, decide_eq_true_eq]; omega
theorem dec_gt {a b : Int} : decide (b < a) = !decide (a ≤ b) := by rw [Bool.eq_iff_iff]; simp
theorem dec_ge {a b c : Int} (h : b = c) : decide (a < b) = !decide (c ≤ a) := by subst h; rw [Bool.eq_iff_iff]; simp
theorem fwdOK_ref (f : FwdM) : fwdOK f = (((((decide (0 ≤ f.side.toInt) && decide (f.side.toInt < 8)) && decide (0 ≤ f.acct.toInt)) && decide (f.acct.toInt < 65536)) && !zeroB f.owner) && (decide (1 ≤ f.amt.toInt) && decide (f.amt.toInt ≤ 1125899906842624))) := by
  rw [fwdOK, acctB, moneyB, withinB, withinB, withinB, dec_lt (a := f.side.toInt) (b := 8) (c := 7) rfl, dec_lt (a := f.acct.toInt) (b := 65536) (c := 65535) rfl]
  simp only [Bool.and_assoc]
theorem rfwd_can (f : FwdM) : Reads Tryz.prog 111 [.plain f.x] [] (XV.bool (fwdOK f)) := by
  refine Reads.of Tryz.T_ok Tryz.func111 rfl _ _ _ rfl rfl (fun C hC => ?_)
  (replace hC : C.n0 = 1 := hC; change Tri _ _ _ ⟨_, _, 1⟩ _)
  refine Tri.of Tryz.mixed Tryz.T_ok ?_
  (refine wBegin ?_; ((conv => arg 5; whnf); repeat (refine xS ?_; conv => arg 5; whnf)))
  refine wC (fun h1 => ?_) (fun h1 => ?_)
  · (refine wGo ?_; ((conv => arg 5; whnf); repeat (refine xS ?_; conv => arg 5; whnf)))
    refine wC (fun h2 => ?_) (fun h2 => ?_)
    · (refine wGo ?_; ((conv => arg 5; whnf); repeat (refine xS ?_; conv => arg 5; whnf)))
      refine wC (fun h3 => ?_) (fun h3 => ?_)
      · (refine wGo ?_; ((conv => arg 5; whnf); repeat (refine xS ?_; conv => arg 5; whnf)))
        refine wC (fun h4 => ?_) (fun h4 => ?_)
        · (refine wGo ?_; ((conv => arg 5; whnf); repeat (refine xS ?_; conv => arg 5; whnf)))
          (apply wP; exact (call_op rfl (entersB_of Tryz.func110 (by kernel_rfl)) rfl ((rzero_can f.owner).at [] ⟨lend_plain rfl, trivial⟩ trivial)); ((conv => arg 5; whnf); repeat (refine xS ?_; conv => arg 5; whnf)))
          refine wC (fun h5 => ?_) (fun h5 => ?_)
          · (refine wGo ?_; ((conv => arg 5; whnf); repeat (refine xS ?_; conv => arg 5; whnf)))
            refine wC (fun h6 => ?_) (fun h6 => ?_)
            · (refine wGo ?_; ((conv => arg 5; whnf); repeat (refine xS ?_; conv => arg 5; whnf)))
              exact wD (Ends.plain (.inr rfl) rfl (by rw [fwdOK_ref, h1, h2, h3, h4, h5, h6]; rfl))
            · (refine wGo ?_; ((conv => arg 5; whnf); repeat (refine xS ?_; conv => arg 5; whnf)))
              exact wD (Ends.plain (.inr rfl) rfl (by rw [fwdOK_ref, h1, h2, h3, h4, h5, h6]; rfl))
          · (refine wGo ?_; ((conv => arg 5; whnf); repeat (refine xS ?_; conv => arg 5; whnf)))
            exact wD (Ends.plain (.inr rfl) rfl (by rw [fwdOK_ref, h1, h2, h3, h4, h5]; rfl))
        · (refine wGo ?_; ((conv => arg 5; whnf); repeat (refine xS ?_; conv => arg 5; whnf)))
          exact wD (Ends.plain (.inr rfl) rfl (by rw [fwdOK_ref, h1, h2, h3, h4]; rfl))
      · (refine wGo ?_; ((conv => arg 5; whnf); repeat (refine xS ?_; conv => arg 5; whnf)))
        exact wD (Ends.plain (.inr rfl) rfl (by rw [fwdOK_ref, h1, h2, h3]; rfl))
    · (refine wGo ?_; ((conv => arg 5; whnf); repeat (refine xS ?_; conv => arg 5; whnf)))
      exact wD (Ends.plain (.inr rfl) rfl (by rw [fwdOK_ref, h1, h2]; rfl))
  · (refine wGo ?_; ((conv => arg 5; whnf); repeat (refine xS ?_; conv => arg 5; whnf)))
    exact wD (Ends.plain (.inr rfl) rfl (by rw [fwdOK_ref, h1]; rfl))
theorem outOK_ref (o : OutM) : outOK o = !(zeroB o.to || (decide (o.amt.toInt < 1) || decide (1125899906842624 < o.amt.toInt))) := by
  rw [outOK, moneyB, withinB, dec_ge (a := o.amt.toInt) (b := 1) rfl, dec_gt]
  cases zeroB o.to <;> cases decide (1 ≤ o.amt.toInt) <;> cases decide (o.amt.toInt ≤ 1125899906842624) <;> rfl
theorem routs_can (l : List OutM) (hl : l.length ≤ 1000000000) : Reads Tryz.prog 78 [.row 9 l.length (outsF l)] [] (XV.bool (outsOK l)) := by
  refine Reads.of Tryz.T_ok Tryz.func78 rfl _ _ _ rfl rfl (fun C hC => ?_)
  (replace hC : C.n0 = 1 := hC; change Tri _ _ _ ⟨_, _, 1⟩ _)
  (refine Tri.cut 2 Tryz.mixed Tryz.T_ok ?_; ((conv => arg 5; whnf); repeat (refine xS ?_; conv => arg 5; whnf)))
  refine wC (fun h0 => ?_) (fun h0 => ?_)
  · have h0' : 16 < l.length := (by (try simp only [ww] at *); omega)
    (refine wGo ?_; ((conv => arg 5; whnf); repeat (refine xS ?_; conv => arg 5; whnf)))
    refine wD <| cutR <| Ends.plain (.inr rfl) rfl ?_
    rw [outsOK, show decide (l.length ≤ 16) = false by rw [decide_eq_false_iff_not]; omega, Bool.and_false]
  have h0' : l.length ≤ 16 := (by (try simp only [ww] at *); omega)
  (refine wGo ?_; ((conv => arg 5; whnf); repeat (refine xS ?_; conv => arg 5; whnf)))
  refine wD <| cutG <| Tri.seq ?_
  (refine Tri.cut 1 Tryz.mixed Tryz.T_ok ?_; ((conv => arg 5; whnf); repeat (refine xS ?_; conv => arg 5; whnf)))
  refine wD <| cutG <| Tri.block ?_
  refine Tri.loop (α := { i : Nat // i ≤ l.length ∧ (l.take i).all outOK = true }) (fun i => ⟨[some (XV.sv (.slc 0 9 0 l.length)), none, none, some (XV.int .i64 i.1)] ++ List.replicate 31 none, [(0, .ro 9 l.length (outsF l))], 1⟩) (fun i => l.length - i.1) ⟨0, Nat.zero_le _, rfl⟩ ?_ ?_
  · ((try dsimp only); refine Ent.renC [0] hC ?_ ?_ <;> repeat' (first | exact trivial | exact rfl | exact ⟨_, rfl, rfl, rfl, Nat.le_refl _, fun _ _ => rfl⟩ | exact ⟨_, rfl, rfl, rfl, fun _ _ => rfl⟩ | exact ⟨_, rfl, rfl, rfl⟩ | exact ⟨_, rfl, rfl⟩ | refine ⟨_, rfl, rfl, rfl, by omega, fun k hk => ?_⟩ | refine ⟨?_, ?_⟩ | fail))
  rintro ⟨i, hi, ha⟩
  dsimp only
  (refine Tri.cut 1 Tryz.mixed Tryz.T_ok ?_; ((conv => arg 5; whnf); repeat (refine xS ?_; conv => arg 5; whnf)))
  refine wC (fun h1 => ?_) (fun h1 => ?_)
  · (refine wGo ?_; ((conv => arg 5; whnf); repeat (refine xS ?_; conv => arg 5; whnf)))
    have h1' : i < l.length := (by (try simp only [ww] at *); omega)
    have hs := all_take_succ (p := outOK) h1'
    have hw : IntKind.i64.wrap ((i : Int) + 1) = ((i + 1 : Nat) : Int) := (by (try simp only [ww] at *); omega)
    refine wD <| cutG <| Tri.seq <| Tri.block <| Tri.of Tryz.mixed Tryz.T_ok ?_
    (refine wBegin ?_; ((conv => arg 5; whnf); repeat (refine xS ?_; conv => arg 5; whnf)))
    (repeat (refine wN ?_ ?_; exact (by (try simp only [ww] at *); omega); refine wGo ?_; ((conv => arg 5; whnf); repeat (refine xS ?_; conv => arg 5; whnf))))
    simp only [Nat.zero_add, Int.toNat_natCast]
    (apply wP; exact (call_op rfl (entersB_of Tryz.func110 (by kernel_rfl)) rfl ((rzero_can (l.getD i default).to).at [] ⟨lend_plain rfl, trivial⟩ trivial)); ((conv => arg 5; whnf); repeat (refine xS ?_; conv => arg 5; whnf)))
    refine wC (fun h2 => ?_) (fun h2 => ?_)
    · (refine wGo ?_; ((conv => arg 5; whnf); repeat (refine xS ?_; conv => arg 5; whnf)))
      refine wD <| blockR <| cutR <| loopR <| blockR <| cutR <| Ends.plain (.inr rfl) rfl ?_
      rw [outsOK, all_false h1' (by rw [outOK_ref, h2]; rfl), Bool.false_and]
    · (refine wGo ?_; ((conv => arg 5; whnf); repeat (refine xS ?_; conv => arg 5; whnf)))
      (repeat (refine wN ?_ ?_; exact (by (try simp only [ww] at *); omega); refine wGo ?_; ((conv => arg 5; whnf); repeat (refine xS ?_; conv => arg 5; whnf))))
      simp only [Nat.zero_add, Int.toNat_natCast]
      refine wC (fun h3 => ?_) (fun h3 => ?_)
      · (refine wGo ?_; ((conv => arg 5; whnf); repeat (refine xS ?_; conv => arg 5; whnf)))
        refine wD <| blockR <| cutR <| loopR <| blockR <| cutR <| Ends.plain (.inr rfl) rfl ?_
        rw [outsOK, all_false h1' (by rw [outOK_ref, h2, h3]; rfl), Bool.false_and]
      · (refine wGo ?_; ((conv => arg 5; whnf); repeat (refine xS ?_; conv => arg 5; whnf)))
        (repeat (refine wN ?_ ?_; exact (by (try simp only [ww] at *); omega); refine wGo ?_; ((conv => arg 5; whnf); repeat (refine xS ?_; conv => arg 5; whnf))))
        simp only [Nat.zero_add, Int.toNat_natCast]
        refine wC (fun h4 => ?_) (fun h4 => ?_)
        · (refine wGo ?_; ((conv => arg 5; whnf); repeat (refine xS ?_; conv => arg 5; whnf)))
          refine wD <| blockR <| cutR <| loopR <| blockR <| cutR <| Ends.plain (.inr rfl) rfl ?_
          rw [outsOK, all_false h1' (by rw [outOK_ref, h2, h3, h4]; rfl), Bool.false_and]
        · (refine wGo ?_; ((conv => arg 5; whnf); repeat (refine xS ?_; conv => arg 5; whnf)))
          refine wD <| blockN <| cutG <| Tri.of Tryz.mixed Tryz.T_ok ?_
          (refine wBegin ?_; ((conv => arg 5; whnf); repeat (refine xS ?_; conv => arg 5; whnf)))
          refine wD <| loopN ⟨⟨i + 1, h1', by rw [hs, ha, outOK_ref, h2, h3, h4]; rfl⟩, by dsimp only; omega, ?_⟩
          rw [hw]
          ((try dsimp only); refine Ent.renC [0] hC ?_ ?_ <;> repeat' (first | exact trivial | exact rfl | exact ⟨_, rfl, rfl, rfl, Nat.le_refl _, fun _ _ => rfl⟩ | exact ⟨_, rfl, rfl, rfl, fun _ _ => rfl⟩ | exact ⟨_, rfl, rfl, rfl⟩ | exact ⟨_, rfl, rfl⟩ | refine ⟨_, rfl, rfl, rfl, by omega, fun k hk => ?_⟩ | refine ⟨?_, ?_⟩ | fail))
  · (refine wGo ?_; ((conv => arg 5; whnf); repeat (refine xS ?_; conv => arg 5; whnf)))
    have h1' : i = l.length := (by (try simp only [ww] at *); omega)
    subst h1'
    rw [List.take_length] at ha
    refine wD <| cutE <| loopX <| blockX <| cutG <| Tri.of Tryz.mixed Tryz.T_ok ?_
    (refine wBegin ?_; ((conv => arg 5; whnf); repeat (refine xS ?_; conv => arg 5; whnf)))
    refine wD (Ends.plain (.inr rfl) rfl ?_)
    rw [outsOK, ha, show decide (l.length ≤ 16) = true from decide_eq_true h0']; rfl
end Go.Proofs.YtmoohekgheoliaaGreatDoor
namespace Go.Proofs.YtmoohekgheoliaaGreatDoor
set_option maxRecDepth 100000
open Go.Sx
theorem insAt_ref (l : List InM) (i : Nat) : insAt l i = (!(((decide ((l.getD i default).pt.no.toInt < 0) || decide (255 < (l.getD i default).pt.no.toInt)) || decide ((l.getD i default).sig.idx < 0)) || decide (255 < (l.getD i default).sig.idx)) && !(l.take i).any (sameAs (l.getD i default))) := by
  rw [insAt, withinB, withinB, dec_ge (a := (l.getD i default).pt.no.toInt) (b := 0) rfl, dec_ge (a := (l.getD i default).sig.idx) (b := 0) rfl, dec_gt (a := (l.getD i default).pt.no.toInt) (b := 255), dec_gt (a := (l.getD i default).sig.idx) (b := 255)]
  cases (l.take i).any (sameAs (l.getD i default)) <;> cases decide (0 ≤ (l.getD i default).pt.no.toInt) <;> cases decide ((l.getD i default).pt.no.toInt ≤ 255) <;> cases decide (0 ≤ (l.getD i default).sig.idx) <;> cases decide ((l.getD i default).sig.idx ≤ 255) <;> rfl
def rtxM (t : TxM) : Mem := [(0, .ro 298 t.ins.length (insF t.ins)), (1, .ro 9 t.outs.length (outsF t.outs)), (2, .ro 11 t.fwds.length (fwdsF t.fwds)), (3, .ro 8 t.par.keys.length (keysF t.par.keys)), (4, .ro 9 t.cert.outs.length (outsF t.cert.outs)), (5, .ro 282 t.cert.sigs.length (sgdsF t.cert.sigs)), (6, .cells 49 (boxC 0 t.ac))]
theorem payB_false {t : TxM} (h : insOK t.ins = false ∨ outsOK t.outs = false ∨ fwdsOK t.fwds = false ∨ t.outs.length + t.fwds.length = 0) : payB t = false := by
  rw [payB]
  rcases h with h | h | h | h
  · rw [h]; rfl
  · rw [h, Bool.false_and, Bool.and_false]
  · rw [h, Bool.false_and, Bool.and_false, Bool.and_false]
  · rw [show decide (0 < t.outs.length + t.fwds.length) = false by rw [decide_eq_false_iff_not]; omega, Bool.and_false, Bool.and_false, Bool.and_false]
theorem insOK_len {l : List InM} (h : ¬ (1 ≤ l.length ∧ l.length ≤ 8)) : insOK l = false := by
  rw [insOK, show withinB (l.length : Int) 1 8 = false by rw [Bool.eq_false_iff, ne_eq, within_iff]; omega, Bool.and_false]
theorem fwdsOK_len {l : List FwdM} (h : ¬ l.length ≤ 16) : fwdsOK l = false := by
  rw [fwdsOK, show decide (l.length ≤ 16) = false from decide_eq_false h, Bool.and_false]
theorem any_at {E : Type} [Inhabited E] {p : E → Bool} {l : List E} {i k : Nat} (hk : k < i) (hi : i ≤ l.length) (h : p (l.getD k default) = true) : (l.take i).any p = true := by
  have hd : l.getD k default = l[k]'(by omega) := by rw [List.getD_eq_getElem?_getD, List.getElem?_eq_getElem (show k < l.length by omega)]; rfl
  rw [hd] at h
  exact List.any_eq_true.2 ⟨_, List.mem_take_iff_getElem.2 ⟨k, by omega, rfl⟩, h⟩
set_option maxHeartbeats 4000000 in
theorem rmay_can (t : TxM) (hs : Sized t) : Reads Tryz.prog 79 [.box t.ac] [] (XV.bool (payB t)) := by
  have hi := hs.ins
  have ho := hs.outs
  have hf := hs.fwds
  refine Reads.of Tryz.T_ok Tryz.func79 rfl _ _ _ rfl rfl (fun C hC => ?_)
  (replace hC : C.n0 = 6 := hC; change Tri _ _ _ ⟨_, _, 6⟩ _)
  (refine Tri.cut 2 Tryz.mixed Tryz.T_ok ?_; ((conv => arg 5; whnf); repeat (refine xS ?_; conv => arg 5; whnf)))
  refine wC (fun h1 => ?_) (fun h1 => ?_)
  · have h1' : t.ins.length < 1 := (by (try simp only [ww] at *); omega)
    (refine wGo ?_; ((conv => arg 5; whnf); repeat (refine xS ?_; conv => arg 5; whnf)))
    refine wD <| cutR <| Ends.plain (.inr rfl) rfl (congrArg (fun b : Bool => XV.bool b) (payB_false (.inl (insOK_len (by omega)))).symm)
  have h1' : 1 ≤ t.ins.length := (by (try simp only [ww] at *); omega)
  (refine wGo ?_; ((conv => arg 5; whnf); repeat (refine xS ?_; conv => arg 5; whnf)))
  refine wC (fun h2 => ?_) (fun h2 => ?_)
  · have h2' : 8 < t.ins.length := (by (try simp only [ww] at *); omega)
    (refine wGo ?_; ((conv => arg 5; whnf); repeat (refine xS ?_; conv => arg 5; whnf)))
    refine wD <| cutR <| Ends.plain (.inr rfl) rfl (congrArg (fun b : Bool => XV.bool b) (payB_false (.inl (insOK_len (by omega)))).symm)
  have h2' : t.ins.length ≤ 8 := (by (try simp only [ww] at *); omega)
  (refine wGo ?_; ((conv => arg 5; whnf); repeat (refine xS ?_; conv => arg 5; whnf)))
  refine wC (fun h3 => ?_) (fun h3 => ?_)
  · have h3' : 16 < t.fwds.length := (by (try simp only [ww] at *); omega)
    (refine wGo ?_; ((conv => arg 5; whnf); repeat (refine xS ?_; conv => arg 5; whnf)))
    refine wD <| cutR <| Ends.plain (.inr rfl) rfl (congrArg (fun b : Bool => XV.bool b) (payB_false (.inr (.inr (.inl (fwdsOK_len (by omega)))))).symm)
  have h3' : t.fwds.length ≤ 16 := (by (try simp only [ww] at *); omega)
  (refine wGo ?_; ((conv => arg 5; whnf); repeat (refine xS ?_; conv => arg 5; whnf)))
  have e1 : IntKind.i64.wrap ((t.outs.length : Int) + (t.fwds.length : Int)) = ((t.outs.length + t.fwds.length : Nat) : Int) := (by (try simp only [ww] at *); omega)
  simp only [e1]
  refine wC (fun h4 => ?_) (fun h4 => ?_)
  · have h4' : t.outs.length + t.fwds.length = 0 := by
      have := beq_iff_eq.1 h4
      omega
    (refine wGo ?_; ((conv => arg 5; whnf); repeat (refine xS ?_; conv => arg 5; whnf)))
    refine wD <| cutR <| Ends.plain (.inr rfl) rfl (congrArg (fun b : Bool => XV.bool b) (payB_false (.inr (.inr (.inr h4')))).symm)
  have h4' : 0 < t.outs.length + t.fwds.length := by
    have := beq_eq_false_iff_ne.1 h4
    omega
  (refine wGo ?_; ((conv => arg 5; whnf); repeat (refine xS ?_; conv => arg 5; whnf)))
  (apply wP; exact (call_op rfl (entersB_of Tryz.func78 (by kernel_rfl)) rfl ((routs_can t.outs ho).at [1] ⟨lend_ro0 rfl rfl, trivial⟩ trivial)); ((conv => arg 5; whnf); repeat (refine xS ?_; conv => arg 5; whnf)))
  refine wC (fun h5 => ?_) (fun h5 => ?_)
  · have h5' : outsOK t.outs = false := by simpa using h5
    (refine wGo ?_; ((conv => arg 5; whnf); repeat (refine xS ?_; conv => arg 5; whnf)))
    refine wD <| cutR <| Ends.plain (.inr rfl) rfl (congrArg (fun b : Bool => XV.bool b) (payB_false (.inr (.inl h5'))).symm)
  have h5' : outsOK t.outs = true := by simpa using h5
  (refine wGo ?_; ((conv => arg 5; whnf); repeat (refine xS ?_; conv => arg 5; whnf)))
  refine wD <| cutG <| Tri.seq ?_
  (refine Tri.cut 1 Tryz.mixed Tryz.T_ok ?_; ((conv => arg 5; whnf); repeat (refine xS ?_; conv => arg 5; whnf)))
  refine wD <| cutG <| Tri.block ?_
  refine Tri.loop (α := { i : Nat // i ≤ t.ins.length ∧ (List.range i).all (insAt t.ins) = true }) (fun i => ⟨[none, some (XV.sv (.ptr 6 0 0 0)), none, some (XV.int .i64 i.1)] ++ List.replicate 97 none, rtxM t, 7⟩) (fun i => t.ins.length - i.1) ⟨0, Nat.zero_le _, rfl⟩ ?_ ?_
  · ((try dsimp only); refine Ent.renC [0, 1, 2, 3, 4, 5, 6] hC ?_ ?_ <;> repeat' (first | exact trivial | exact rfl | exact ⟨_, rfl, rfl, rfl, Nat.le_refl _, fun _ _ => rfl⟩ | exact ⟨_, rfl, rfl, rfl, fun _ _ => rfl⟩ | exact ⟨_, rfl, rfl, rfl⟩ | exact ⟨_, rfl, rfl⟩ | refine ⟨_, rfl, rfl, rfl, by omega, fun k hk => ?_⟩ | refine ⟨?_, ?_⟩ | fail))
  · rintro ⟨i, hii, ha⟩
    dsimp only
    (refine Tri.cut 1 Tryz.mixed Tryz.T_ok ?_; ((conv => arg 5; whnf); repeat (refine xS ?_; conv => arg 5; whnf)))
    refine wC (fun h6 => ?_) (fun h6 => ?_)
    · (refine wGo ?_; ((conv => arg 5; whnf); repeat (refine xS ?_; conv => arg 5; whnf)))
      have h6' : i < t.ins.length := (by (try simp only [ww] at *); omega)
      have hsu := range_all_succ (insAt t.ins) i
      have hw : IntKind.i64.wrap ((i : Int) + 1) = ((i + 1 : Nat) : Int) := (by (try simp only [ww] at *); omega)
      refine wD <| cutG <| Tri.seq <| Tri.block ?_
      (refine Tri.cut 2 Tryz.mixed Tryz.T_ok ?_; ((conv => arg 5; whnf); repeat (refine xS ?_; conv => arg 5; whnf)))
      (repeat (refine wN ?_ ?_; exact (by (try simp only [ww] at *); omega); refine wGo ?_; ((conv => arg 5; whnf); repeat (refine xS ?_; conv => arg 5; whnf))))
      simp only [Nat.zero_add, Int.toNat_natCast]
      refine wC (fun h7 => ?_) (fun h7 => ?_)
      · (refine wGo ?_; ((conv => arg 5; whnf); repeat (refine xS ?_; conv => arg 5; whnf)))
        refine wD <| cutR <| blockR <| cutR <| loopR <| blockR <| cutR <| Ends.plain (.inr rfl) rfl (congrArg (fun b : Bool => XV.bool b) (payB_false (.inl ?_)).symm)
        rw [insOK, range_all_false h6' (by rw [insAt_ref, h7]; rfl), Bool.false_and]
      (refine wGo ?_; ((conv => arg 5; whnf); repeat (refine xS ?_; conv => arg 5; whnf)))
      (repeat (refine wN ?_ ?_; exact (by (try simp only [ww] at *); omega); refine wGo ?_; ((conv => arg 5; whnf); repeat (refine xS ?_; conv => arg 5; whnf))))
      simp only [Nat.zero_add, Int.toNat_natCast]
      refine wC (fun h8 => ?_) (fun h8 => ?_)
      · (refine wGo ?_; ((conv => arg 5; whnf); repeat (refine xS ?_; conv => arg 5; whnf)))
        refine wD <| cutR <| blockR <| cutR <| loopR <| blockR <| cutR <| Ends.plain (.inr rfl) rfl (congrArg (fun b : Bool => XV.bool b) (payB_false (.inl ?_)).symm)
        rw [insOK, range_all_false h6' (by rw [insAt_ref, h7, h8]; rfl), Bool.false_and]
      (refine wGo ?_; ((conv => arg 5; whnf); repeat (refine xS ?_; conv => arg 5; whnf)))
      (repeat (refine wN ?_ ?_; exact (by (try simp only [ww] at *); omega); refine wGo ?_; ((conv => arg 5; whnf); repeat (refine xS ?_; conv => arg 5; whnf))))
      simp only [Nat.zero_add, Int.toNat_natCast]
      refine wC (fun h9 => ?_) (fun h9 => ?_)
      · (refine wGo ?_; ((conv => arg 5; whnf); repeat (refine xS ?_; conv => arg 5; whnf)))
        refine wD <| cutR <| blockR <| cutR <| loopR <| blockR <| cutR <| Ends.plain (.inr rfl) rfl (congrArg (fun b : Bool => XV.bool b) (payB_false (.inl ?_)).symm)
        rw [insOK, range_all_false h6' (by rw [insAt_ref, h7, h8, h9]; rfl), Bool.false_and]
      (refine wGo ?_; ((conv => arg 5; whnf); repeat (refine xS ?_; conv => arg 5; whnf)))
      (repeat (refine wN ?_ ?_; exact (by (try simp only [ww] at *); omega); refine wGo ?_; ((conv => arg 5; whnf); repeat (refine xS ?_; conv => arg 5; whnf))))
      simp only [Nat.zero_add, Int.toNat_natCast]
      refine wC (fun h10 => ?_) (fun h10 => ?_)
      · (refine wGo ?_; ((conv => arg 5; whnf); repeat (refine xS ?_; conv => arg 5; whnf)))
        refine wD <| cutR <| blockR <| cutR <| loopR <| blockR <| cutR <| Ends.plain (.inr rfl) rfl (congrArg (fun b : Bool => XV.bool b) (payB_false (.inl ?_)).symm)
        rw [insOK, range_all_false h6' (by rw [insAt_ref, h7, h8, h9, h10]; rfl), Bool.false_and]
      (refine wGo ?_; ((conv => arg 5; whnf); repeat (refine xS ?_; conv => arg 5; whnf)))
      refine wD <| cutG ?_
      (refine Tri.cut 1 Tryz.mixed Tryz.T_ok ?_; ((conv => arg 5; whnf); repeat (refine xS ?_; conv => arg 5; whnf)))
      refine wD <| cutG <| Tri.block ?_
      refine Tri.loop (α := { k : Nat // k ≤ i ∧ (t.ins.take k).any (sameAs (t.ins.getD i default)) = false }) (fun k => ⟨[none, some (XV.sv (.ptr 6 0 0 0)), none, some (XV.int .i64 i), some (XV.sv (.ptr 7 0 0 0)), some (XV.int .i64 k.1)] ++ List.replicate 95 none, rtxM t ++ [(7, .cells 65 ((t.ins.getD i default).cells.map .raw))], 8⟩) (fun k => i - k.1) ⟨0, Nat.zero_le _, rfl⟩ ?_ ?_
      · ((try dsimp only); refine Ent.renC [0, 1, 2, 3, 4, 5, 6, 17] hC ?_ ?_ <;> repeat' (first | exact trivial | exact rfl | exact ⟨_, rfl, rfl, rfl, Nat.le_refl _, fun _ _ => rfl⟩ | exact ⟨_, rfl, rfl, rfl, fun _ _ => rfl⟩ | exact ⟨_, rfl, rfl, rfl⟩ | exact ⟨_, rfl, rfl⟩ | refine ⟨_, rfl, rfl, rfl, by omega, fun k hk => ?_⟩ | refine ⟨?_, ?_⟩ | fail))
      rintro ⟨k, hki, hk⟩
      dsimp only
      (refine Tri.cut 1 Tryz.mixed Tryz.T_ok ?_; ((conv => arg 5; whnf); repeat (refine xS ?_; conv => arg 5; whnf)))
      refine wC (fun h11 => ?_) (fun h11 => ?_)
      · (refine wGo ?_; ((conv => arg 5; whnf); repeat (refine xS ?_; conv => arg 5; whnf)))
        have h11' : k < i := (by (try simp only [ww] at *); omega)
        have hw2 : IntKind.i64.wrap ((k : Int) + 1) = ((k + 1 : Nat) : Int) := (by (try simp only [ww] at *); omega)
        refine wD <| cutG <| Tri.seq <| Tri.block <| Tri.of Tryz.mixed Tryz.T_ok ?_
        (refine wBegin ?_; ((conv => arg 5; whnf); repeat (refine xS ?_; conv => arg 5; whnf)))
        (repeat (refine wN ?_ ?_; exact (by (try simp only [ww] at *); omega); refine wGo ?_; ((conv => arg 5; whnf); repeat (refine xS ?_; conv => arg 5; whnf))))
        simp only [Nat.zero_add, Int.toNat_natCast]
        (refine wP _ _ (eq_op ptE rfl (t.ins.getD k default).pt (t.ins.getD i default).pt rfl rfl) ?_; ((conv => arg 5; whnf); repeat (refine xS ?_; conv => arg 5; whnf)))
        refine wC (fun h12 => ?_) (fun h12 => ?_)
        · (refine wGo ?_; ((conv => arg 5; whnf); repeat (refine xS ?_; conv => arg 5; whnf)))
          refine wD <| blockR <| cutR <| loopR <| blockR <| blockR <| cutR <| loopR <| blockR <| cutR <| Ends.plain (.inr rfl) rfl (congrArg (fun b : Bool => XV.bool b) (payB_false (.inl ?_)).symm)
          rw [insOK, range_all_false h6' (by rw [insAt_ref, any_at (k := k) h11' hii h12, Bool.not_true, Bool.and_false]), Bool.false_and]
        · (refine wGo ?_; ((conv => arg 5; whnf); repeat (refine xS ?_; conv => arg 5; whnf)))
          refine wD <| blockN <| cutG <| Tri.of Tryz.mixed Tryz.T_ok ?_
          (refine wBegin ?_; ((conv => arg 5; whnf); repeat (refine xS ?_; conv => arg 5; whnf)))
          refine wD <| loopN ⟨⟨k + 1, h11', ?_⟩, by dsimp only; omega, ?_⟩
          · rw [any_take_succ (show k < t.ins.length by omega), hk]; exact h12
          rw [hw2]
          ((try dsimp only); refine Ent.renC [0, 1, 2, 3, 4, 5, 6, 7] hC ?_ ?_ <;> repeat' (first | exact trivial | exact rfl | exact ⟨_, rfl, rfl, rfl, Nat.le_refl _, fun _ _ => rfl⟩ | exact ⟨_, rfl, rfl, rfl, fun _ _ => rfl⟩ | exact ⟨_, rfl, rfl, rfl⟩ | exact ⟨_, rfl, rfl⟩ | refine ⟨_, rfl, rfl, rfl, by omega, fun k hk => ?_⟩ | refine ⟨?_, ?_⟩ | fail))
      · (refine wGo ?_; ((conv => arg 5; whnf); repeat (refine xS ?_; conv => arg 5; whnf)))
        have h11' : k = i := (by (try simp only [ww] at *); omega)
        subst h11'
        refine wD <| cutE <| loopX <| blockX <| blockN <| cutG <| Tri.of Tryz.mixed Tryz.T_ok ?_
        (refine wBegin ?_; ((conv => arg 5; whnf); repeat (refine xS ?_; conv => arg 5; whnf)))
        refine wD <| loopN ⟨⟨k + 1, h6', by rw [hsu, ha, insAt_ref, h7, h8, h9, h10, hk]; rfl⟩, by dsimp only; omega, ?_⟩
        rw [hw]
        ((try dsimp only); refine Ent.renC [0, 1, 2, 3, 4, 5, 6] hC ?_ ?_ <;> repeat' (first | exact trivial | exact rfl | exact ⟨_, rfl, rfl, rfl, Nat.le_refl _, fun _ _ => rfl⟩ | exact ⟨_, rfl, rfl, rfl, fun _ _ => rfl⟩ | exact ⟨_, rfl, rfl, rfl⟩ | exact ⟨_, rfl, rfl⟩ | refine ⟨_, rfl, rfl, rfl, by omega, fun k hk => ?_⟩ | refine ⟨?_, ?_⟩ | fail))
    · (refine wGo ?_; ((conv => arg 5; whnf); repeat (refine xS ?_; conv => arg 5; whnf)))
      have h6' : i = t.ins.length := (by (try simp only [ww] at *); omega)
      subst h6'
      have hins : insOK t.ins = true := by
        rw [insOK, ha, Bool.true_and, within_iff]; omega
      refine wD <| cutE <| loopX <| blockX <| cutG <| Tri.seq ?_
      (refine Tri.cut 1 Tryz.mixed Tryz.T_ok ?_; ((conv => arg 5; whnf); repeat (refine xS ?_; conv => arg 5; whnf)))
      refine wD <| cutG <| Tri.block ?_
      refine Tri.loop (α := { i : Nat // i ≤ t.fwds.length ∧ (t.fwds.take i).all fwdOK = true }) (fun i => ⟨[none, some (XV.sv (.ptr 6 0 0 0)), none, none, none, none, some (XV.int .i64 i.1)] ++ List.replicate 94 none, rtxM t, 7⟩) (fun i => t.fwds.length - i.1) ⟨0, Nat.zero_le _, rfl⟩ ?_ ?_
      · ((try dsimp only); refine Ent.renC [0, 1, 2, 3, 4, 5, 6] hC ?_ ?_ <;> repeat' (first | exact trivial | exact rfl | exact ⟨_, rfl, rfl, rfl, Nat.le_refl _, fun _ _ => rfl⟩ | exact ⟨_, rfl, rfl, rfl, fun _ _ => rfl⟩ | exact ⟨_, rfl, rfl, rfl⟩ | exact ⟨_, rfl, rfl⟩ | refine ⟨_, rfl, rfl, rfl, by omega, fun k hk => ?_⟩ | refine ⟨?_, ?_⟩ | fail))
      rintro ⟨i, hii2, ha2⟩
      dsimp only
      (refine Tri.cut 1 Tryz.mixed Tryz.T_ok ?_; ((conv => arg 5; whnf); repeat (refine xS ?_; conv => arg 5; whnf)))
      refine wC (fun h6 => ?_) (fun h6 => ?_)
      · (refine wGo ?_; ((conv => arg 5; whnf); repeat (refine xS ?_; conv => arg 5; whnf)))
        have h6' : i < t.fwds.length := (by (try simp only [ww] at *); omega)
        have hsu := all_take_succ (p := fwdOK) h6'
        have hw : IntKind.i64.wrap ((i : Int) + 1) = ((i + 1 : Nat) : Int) := (by (try simp only [ww] at *); omega)
        refine wD <| cutG <| Tri.seq <| Tri.block <| Tri.of Tryz.mixed Tryz.T_ok ?_
        (refine wBegin ?_; ((conv => arg 5; whnf); repeat (refine xS ?_; conv => arg 5; whnf)))
        (repeat (refine wN ?_ ?_; exact (by (try simp only [ww] at *); omega); refine wGo ?_; ((conv => arg 5; whnf); repeat (refine xS ?_; conv => arg 5; whnf))))
        simp only [Nat.zero_add, Int.toNat_natCast]
        (apply wP; exact (call_op rfl (entersB_of Tryz.func111 (by kernel_rfl)) rfl ((rfwd_can (t.fwds.getD i default)).at [] ⟨lend_plain rfl, trivial⟩ trivial)); ((conv => arg 5; whnf); repeat (refine xS ?_; conv => arg 5; whnf)))
        refine wC (fun h7 => ?_) (fun h7 => ?_)
        · have h7' : fwdOK (t.fwds.getD i default) = false := by simpa using h7
          (refine wGo ?_; ((conv => arg 5; whnf); repeat (refine xS ?_; conv => arg 5; whnf)))
          refine wD <| blockR <| cutR <| loopR <| blockR <| cutR <| Ends.plain (.inr rfl) rfl (congrArg (fun b : Bool => XV.bool b) (payB_false (.inr (.inr (.inl ?_)))).symm)
          rw [fwdsOK, all_false h6' h7', Bool.false_and]
        · have h7' : fwdOK (t.fwds.getD i default) = true := by simpa using h7
          (refine wGo ?_; ((conv => arg 5; whnf); repeat (refine xS ?_; conv => arg 5; whnf)))
          refine wD <| blockN <| cutG <| Tri.of Tryz.mixed Tryz.T_ok ?_
          (refine wBegin ?_; ((conv => arg 5; whnf); repeat (refine xS ?_; conv => arg 5; whnf)))
          refine wD <| loopN ⟨⟨i + 1, h6', by rw [hsu, ha2, h7']; rfl⟩, by dsimp only; omega, ?_⟩
          rw [hw]
          ((try dsimp only); refine Ent.renC [0, 1, 2, 3, 4, 5, 6] hC ?_ ?_ <;> repeat' (first | exact trivial | exact rfl | exact ⟨_, rfl, rfl, rfl, Nat.le_refl _, fun _ _ => rfl⟩ | exact ⟨_, rfl, rfl, rfl, fun _ _ => rfl⟩ | exact ⟨_, rfl, rfl, rfl⟩ | exact ⟨_, rfl, rfl⟩ | refine ⟨_, rfl, rfl, rfl, by omega, fun k hk => ?_⟩ | refine ⟨?_, ?_⟩ | fail))
      · (refine wGo ?_; ((conv => arg 5; whnf); repeat (refine xS ?_; conv => arg 5; whnf)))
        have h6' : i = t.fwds.length := (by (try simp only [ww] at *); omega)
        subst h6'
        rw [List.take_length] at ha2
        refine wD <| cutE <| loopX <| blockX <| cutG <| Tri.of Tryz.mixed Tryz.T_ok ?_
        (refine wBegin ?_; ((conv => arg 5; whnf); repeat (refine xS ?_; conv => arg 5; whnf)))
        refine wD (Ends.plain (.inr rfl) rfl (congrArg (fun b : Bool => XV.bool b) ?_))
        rw [payB, hins, h5', fwdsOK, ha2, show decide (t.fwds.length ≤ 16) = true from decide_eq_true h3', show decide (0 < t.outs.length + t.fwds.length) = true from decide_eq_true h4']
        rfl
end Go.Proofs.YtmoohekgheoliaaGreatDoor
namespace Go.Proofs.YtmoohekgheoliaaGreatDoor
set_option maxRecDepth 100000
open Go.Sx
theorem noPar_can (p : ParM) (hl : p.keys.length ≤ 1000000000) : Reads Tryz.prog 76 [.box p.ac] [] (XV.bool (parZ p)) := by
  refine Reads.of Tryz.T_ok Tryz.func76 rfl _ _ _ rfl rfl (fun C hC => ?_)
  (replace hC : C.n0 = 1 := hC; change Tri _ _ _ ⟨_, _, 1⟩ _)
  refine Tri.of Tryz.mixed Tryz.T_ok ?_
  (refine wBegin ?_; ((conv => arg 5; whnf); repeat (refine xS ?_; conv => arg 5; whnf)))
  refine wC (fun h1 => ?_) (fun h1 => ?_)
  · (refine wGo ?_; ((conv => arg 5; whnf); repeat (refine xS ?_; conv => arg 5; whnf)))
    refine wC (fun h2 => ?_) (fun h2 => ?_)
    · (refine wGo ?_; ((conv => arg 5; whnf); repeat (refine xS ?_; conv => arg 5; whnf)))
      refine wC (fun h3 => ?_) (fun h3 => ?_)
      · (refine wGo ?_; ((conv => arg 5; whnf); repeat (refine xS ?_; conv => arg 5; whnf)))
        exact wD (Ends.plain (.inr rfl) rfl (by rw [parZ, h1, h2, h3]; rfl))
      · (refine wGo ?_; ((conv => arg 5; whnf); repeat (refine xS ?_; conv => arg 5; whnf)))
        exact wD (Ends.plain (.inr rfl) rfl (by rw [parZ, h1, h2, h3]; rfl))
    · (refine wGo ?_; ((conv => arg 5; whnf); repeat (refine xS ?_; conv => arg 5; whnf)))
      exact wD (Ends.plain (.inr rfl) rfl (by rw [parZ, h1, h2]; rfl))
  · (refine wGo ?_; ((conv => arg 5; whnf); repeat (refine xS ?_; conv => arg 5; whnf)))
    exact wD (Ends.plain (.inr rfl) rfl (by rw [parZ, h1]; rfl))
theorem sum_zero (a b : Nat) : (((a + b : Nat) : Int) == 0) = (((a : Int) == 0) && ((b : Int) == 0)) := by
  rw [Bool.eq_iff_iff, Bool.and_eq_true, beq_iff_eq, beq_iff_eq, beq_iff_eq]; omega
theorem noCert_can (c : CertM) (h1 : c.outs.length ≤ 1000000000) (h2 : c.sigs.length ≤ 1000000000) : Reads Tryz.prog 77 [.box c.ac] [] (XV.bool (certZ c)) := by
  refine Reads.of Tryz.T_ok Tryz.func77 rfl _ _ _ rfl rfl (fun C hC => ?_)
  (replace hC : C.n0 = 2 := hC; change Tri _ _ _ ⟨_, _, 2⟩ _)
  refine Tri.of Tryz.mixed Tryz.T_ok ?_
  (refine wBegin ?_; ((conv => arg 5; whnf); repeat (refine xS ?_; conv => arg 5; whnf)))
  refine wC (fun h1 => ?_) (fun h1 => ?_)
  · (refine wGo ?_; ((conv => arg 5; whnf); repeat (refine xS ?_; conv => arg 5; whnf)))
    refine wC (fun h2 => ?_) (fun h2 => ?_)
    · (refine wGo ?_; ((conv => arg 5; whnf); repeat (refine xS ?_; conv => arg 5; whnf)))
      refine wC (fun h3 => ?_) (fun h3 => ?_)
      · (refine wGo ?_; ((conv => arg 5; whnf); repeat (refine xS ?_; conv => arg 5; whnf)))
        (refine wP _ _ (eq_op hashE rfl c.fin zeroH rfl rfl) ?_; ((conv => arg 5; whnf); repeat (refine xS ?_; conv => arg 5; whnf)))
        refine wC (fun h4 => ?_) (fun h4 => ?_)
        · (refine wGo ?_; ((conv => arg 5; whnf); repeat (refine xS ?_; conv => arg 5; whnf)))
          (refine wP _ _ (eq_op hashE rfl c.root zeroH rfl rfl) ?_; ((conv => arg 5; whnf); repeat (refine xS ?_; conv => arg 5; whnf)))
          refine wC (fun h5 => ?_) (fun h5 => ?_)
          · (refine wGo ?_; ((conv => arg 5; whnf); repeat (refine xS ?_; conv => arg 5; whnf)))
            refine wC (fun h6 => ?_) (fun h6 => ?_)
            · (refine wGo ?_; ((conv => arg 5; whnf); repeat (refine xS ?_; conv => arg 5; whnf)))
              exact wD (Ends.plain (.inr rfl) rfl (by rw [certZ, sum_zero, h1, h2, h3, zeroB, h4, zeroB, h5, h6]; rfl))
            · (refine wGo ?_; ((conv => arg 5; whnf); repeat (refine xS ?_; conv => arg 5; whnf)))
              exact wD (Ends.plain (.inr rfl) rfl (by rw [certZ, sum_zero, h1, h2, h3, zeroB, h4, zeroB, h5, h6]; rfl))
          · (refine wGo ?_; ((conv => arg 5; whnf); repeat (refine xS ?_; conv => arg 5; whnf)))
            exact wD (Ends.plain (.inr rfl) rfl (by rw [certZ, h1, h2, h3, zeroB, h4, zeroB, h5]; rfl))
        · (refine wGo ?_; ((conv => arg 5; whnf); repeat (refine xS ?_; conv => arg 5; whnf)))
          exact wD (Ends.plain (.inr rfl) rfl (by rw [certZ, h1, h2, h3, zeroB, h4]; rfl))
      · (refine wGo ?_; ((conv => arg 5; whnf); repeat (refine xS ?_; conv => arg 5; whnf)))
        exact wD (Ends.plain (.inr rfl) rfl (by rw [certZ, h1, h2, h3]; rfl))
    · (refine wGo ?_; ((conv => arg 5; whnf); repeat (refine xS ?_; conv => arg 5; whnf)))
      exact wD (Ends.plain (.inr rfl) rfl (by rw [certZ, h1, h2]; rfl))
  · (refine wGo ?_; ((conv => arg 5; whnf); repeat (refine xS ?_; conv => arg 5; whnf)))
    exact wD (Ends.plain (.inr rfl) rfl (by rw [certZ, h1]; rfl))
theorem lend_par {M : Mem} {rd : List Nat} {p : ParM} {s : SV} (h : Lends M rd (.one s) (.row 8 p.keys.length (keysF p.keys))) : Lends M rd (.agg (parCells p s)) (.box p.ac) := lend_box ⟨rfl, rfl, rfl, h, trivial⟩
theorem lend_cert {M : Mem} {rd : List Nat} {c : CertM} {s1 s2 : SV} (h1 : Lends M rd (.one s1) (.row 9 c.outs.length (outsF c.outs))) (h2 : Lends M rd (.one s2) (.row 282 c.sigs.length (sgdsF c.sigs))) : Lends M rd (.agg (certCells c s1 s2)) (.box c.ac) := by
  have h := lend_cert_cells (r := []) (l := []) h1 h2 trivial
  rw [List.append_nil, List.append_nil] at h
  exact lend_box h
set_option maxHeartbeats 4000000 in
theorem mayTx_can (t : TxM) (hk : t.kind = 2) (hs : Sized t) (hc : t.claim.Wf) : Reads Tryz.prog 41 [.box t.ac] [] (XV.bool (mayPay t hc)) := by
  have hrm := rmay_can t hs
  have hle := hs.keys
  have hco := hs.couts
  have hcs := hs.sigs
  have hmp : mayPay t hc = (payB t && ((t.height == 0 && (true && (parZ t.par && certZ t.cert))) && claimZ t.claim hc)) := rfl
  obtain ⟨kind, height, ins, outs, fwds, par, cert, claim⟩ := t
  dsimp only at hk hle hco hcs hmp
  subst hk
  refine Reads.of Tryz.T_ok Tryz.func41 rfl _ _ _ rfl rfl (fun C hC => ?_)
  (replace hC : C.n0 = 6 := hC; change Tri _ _ _ ⟨_, _, 6⟩ _)
  (refine Tri.cut 2 Tryz.mixed Tryz.T_ok ?_; ((conv => arg 5; whnf); repeat (refine xS ?_; conv => arg 5; whnf)))
  (refine wTd rfl ?_; refine wGo ?_; ((conv => arg 5; whnf); repeat (refine xS ?_; conv => arg 5; whnf)))
  refine wC (fun h1 => ?_) (fun h1 => ?_)
  · have h1' : (height == 0) = false := by simpa using h1
    (refine wGo ?_; ((conv => arg 5; whnf); repeat (refine xS ?_; conv => arg 5; whnf)))
    refine wD <| cutR <| Ends.plain (.inr rfl) rfl (congrArg (fun b : Bool => XV.bool b) ?_)
    rw [hmp, h1', Bool.false_and, Bool.false_and, Bool.and_false]
  have h1' : (height == 0) = true := by simpa using h1
  (refine wGo ?_; ((conv => arg 5; whnf); repeat (refine xS ?_; conv => arg 5; whnf)))
  (refine wFd rfl ?_; refine wGo ?_; ((conv => arg 5; whnf); repeat (refine xS ?_; conv => arg 5; whnf)))
  (refine wFd rfl ?_; refine wGo ?_; ((conv => arg 5; whnf); repeat (refine xS ?_; conv => arg 5; whnf)))
  (refine wTd rfl ?_; refine wGo ?_; ((conv => arg 5; whnf); repeat (refine xS ?_; conv => arg 5; whnf)))
  (apply wP; exact (call_op rfl (entersB_of Tryz.func76 (by kernel_rfl)) rfl ((noPar_can par hle).at [3] ⟨lend_par (lend_ro0 rfl rfl), trivial⟩ trivial)); ((conv => arg 5; whnf); repeat (refine xS ?_; conv => arg 5; whnf)))
  refine wC (fun h2 => ?_) (fun h2 => ?_)
  · have h2' : parZ par = false := by simpa using h2
    (refine wGo ?_; ((conv => arg 5; whnf); repeat (refine xS ?_; conv => arg 5; whnf)))
    refine wD <| cutR <| Ends.plain (.inr rfl) rfl (congrArg (fun b : Bool => XV.bool b) ?_)
    rw [hmp, h1', h2', Bool.false_and, Bool.and_false, Bool.and_false, Bool.false_and, Bool.and_false]
  have h2' : parZ par = true := by simpa using h2
  (refine wGo ?_; ((conv => arg 5; whnf); repeat (refine xS ?_; conv => arg 5; whnf)))
  (refine wTd rfl ?_; refine wGo ?_; ((conv => arg 5; whnf); repeat (refine xS ?_; conv => arg 5; whnf)))
  (apply wP; exact (call_op rfl (entersB_of Tryz.func77 (by kernel_rfl)) rfl ((noCert_can cert hco hcs).at [4, 5] ⟨lend_cert (lend_ro0 rfl rfl) (lend_ro0 rfl rfl), trivial⟩ trivial)); ((conv => arg 5; whnf); repeat (refine xS ?_; conv => arg 5; whnf)))
  refine wC (fun h3 => ?_) (fun h3 => ?_)
  · have h3' : certZ cert = false := by simpa using h3
    (refine wGo ?_; ((conv => arg 5; whnf); repeat (refine xS ?_; conv => arg 5; whnf)))
    refine wD <| cutR <| Ends.plain (.inr rfl) rfl (congrArg (fun b : Bool => XV.bool b) ?_)
    rw [hmp, h1', h2', h3', Bool.and_false, Bool.and_false, Bool.and_false, Bool.false_and, Bool.and_false]
  have h3' : certZ cert = true := by simpa using h3
  (refine wGo ?_; ((conv => arg 5; whnf); repeat (refine xS ?_; conv => arg 5; whnf)))
  (refine wTd rfl ?_; refine wGo ?_; ((conv => arg 5; whnf); repeat (refine xS ?_; conv => arg 5; whnf)))
  (refine wP _ _ (neq_op claimE rfl (claim.cv hc) (claim0.cv claim0_wf) rfl rfl) ?_; ((conv => arg 5; whnf); repeat (refine xS ?_; conv => arg 5; whnf)))
  refine wC (fun h4 => ?_) (fun h4 => ?_)
  · have h4' : claimZ claim hc = false := by simpa [claimZ] using h4
    (refine wGo ?_; ((conv => arg 5; whnf); repeat (refine xS ?_; conv => arg 5; whnf)))
    refine wD <| cutR <| Ends.plain (.inr rfl) rfl (congrArg (fun b : Bool => XV.bool b) ?_)
    rw [hmp, h4', Bool.and_false, Bool.and_false]
  have h4' : claimZ claim hc = true := by simpa [claimZ] using h4
  have hmp' : mayPay ⟨2, height, ins, outs, fwds, par, cert, claim⟩ hc = payB ⟨2, height, ins, outs, fwds, par, cert, claim⟩ := by rw [hmp, h1', h2', h3', h4']; exact Bool.and_true _
  (refine wGo ?_; ((conv => arg 5; whnf); repeat (refine xS ?_; conv => arg 5; whnf)))
  refine wD <| cutG <| Tri.of Tryz.mixed Tryz.T_ok ?_
  (refine wBegin ?_; ((conv => arg 5; whnf); repeat (refine xS ?_; conv => arg 5; whnf)))
  (refine wFd rfl ?_; refine wGo ?_; ((conv => arg 5; whnf); repeat (refine xS ?_; conv => arg 5; whnf)))
  (refine wTd rfl ?_; refine wGo ?_; ((conv => arg 5; whnf); repeat (refine xS ?_; conv => arg 5; whnf)))
  (apply wP; exact (call_op rfl (entersB_of Tryz.func79 (by kernel_rfl)) rfl (hrm.at [0, 1, 2, 3, 4, 5] ⟨lend_tx (t := ⟨2, height, ins, outs, fwds, par, cert, claim⟩) (lend_ro0 rfl rfl) (lend_ro0 rfl rfl) (lend_ro0 rfl rfl) (lend_ro0 rfl rfl) (lend_ro0 rfl rfl) (lend_ro0 rfl rfl), trivial⟩ trivial)); ((conv => arg 5; whnf); repeat (refine xS ?_; conv => arg 5; whnf)))
  exact wD (Ends.plain (.inr rfl) rfl (congrArg (fun b : Bool => XV.bool b) hmp'.symm))
end Go.Proofs.YtmoohekgheoliaaGreatDoor
